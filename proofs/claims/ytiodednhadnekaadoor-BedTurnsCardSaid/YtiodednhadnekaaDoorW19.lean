/- Walks: Transversals. -/
import Derived.Test.YtiodednhadnekaaDoorW18
namespace Go.Proofs.YtiodednhadnekaaDoor
open Go.RowKit Go.Deep

theorem kept_setCell (w : World) (p i : Nat) (v : Value) : Kept (fun _ j => j = p) w (w.setCell ⟨p, i, none⟩ v) :=
  ⟨rfl, rfl, rfl, by simp [World.setCell], fun j _ hj => Below.heap_setCell w ⟨p, i, none⟩ v j hj, fun _ _ h => h⟩
theorem enter76 (args : Array Value) (w : World) : (callFunc 76 args).run Tryd.prog w = .ok (.enter 76 args) w := by simp [go_sem]
/-- bed.Transversals$1 -/
theorem f76_any (A : Option Addr) (n c p k : Nat) (w : World) (h : Own w p [(k : Int)]) (hk : k ≤ 1000000) :
    Calls Tryd.prog 76 #[.slice A n c, .pointer (some ⟨p, 0, none⟩)] w fun e w' => e = .returned (.bool false) ∧ w' = w.setCell ⟨p, 0, none⟩ (.int .i64 ((k + 1 : Nat) : Int)) := by
  have hc : w.cell? ⟨p, 0, none⟩ = some (.int .i64 (k : Int)) := h.cell 0 (by simp)
  have hf := h.frozen 0
  have HE : Hid ((k : Int) + 1 = ((k + 1 : Nat) : Int)) := by unfold Hid; omega
  clear h
  go_enter Tryd.func76, Tryd.ntmps76
  go_wp2
  go_ret
  exact ⟨rfl, by rw [← HE.out]⟩
/-- Each transversal is counted. -/
theorem visit76 (n base p : Nat) (hp : base ≤ p) : Visit n base 76 #[.pointer (some ⟨p, 0, none⟩)] false (fun _ i => i = p) (fun done w => Own w p [(done.length : Int)]) where
  enter := enter76
  keep := fun done w w' h hb => ⟨h.below' hb, fun i h => h⟩
  lt := fun done w i h hi => by subst hi; exact ⟨hp, h.lt⟩
  call := fun done l A c w h hd _ _ _ _ => (f76_any A n c p done.length w h hd).mono fun e w' ⟨h1, h2⟩ => ⟨h1, by
    subst h2
    have := h.set_ 0 ((done.length + 1 : Nat) : Int)
    rw [List.length_append]
    simpa using this, by subst h2; exact kept_setCell _ _ _ _⟩
def trN (b : List (List Int)) : Int := if fullB b = true then ((trans b b.length).length : Int) else 0
def trE (b : List (List Int)) : Int := if fullB b = true then 0 else 2
set_option maxHeartbeats 1000000 in
/-- bed.Transversals -/
theorem f30_any (A : Option Addr) (n c : Nat) (b : List (List Int)) (w : World) (hs : Beds w A n c b) :
    Calls Tryd.prog 30 #[.slice A n c] w fun e w' => e = .returned (.tuple #[.int .i64 (trN b), .int .i64 (trE b)]) ∧ Below w.heap.size w w' := by
  have K60 := Lib.hid (f60_any A n c b w hs)
  cases hf : fullB b
  · rw [hf] at K60
    have HE : Hid (trN b = 0 ∧ trE b = 2) := by unfold trN trE; rw [hf]; exact ⟨rfl, rfl⟩
    clear hs hf
    go_enter Tryd.func30, Tryd.ntmps30
    go_wp2_with fail
    refine K60.out.mono ?_
    rintro e w1 ⟨rfl, hb⟩
    have HB := Lib.hid hb
    clear hb
    go_wp2
    go_ret2
    exact ⟨by rw [HE.out.1, HE.out.2]; rfl, HB.out⟩
  · rw [hf] at K60
    obtain ⟨hn1, hn7, hfull⟩ := fullB_iff.1 hf
    have hl := hs.len
    rw [hl] at hn1 hn7 hfull
    have HE : Hid (trN b = ((trans b n).length : Int) ∧ trE b = 0) := by unfold trN trE; rw [hf, hl]; exact ⟨rfl, rfl⟩
    have HS := Lib.hid hs
    have HF := Lib.hid hfull
    have HL := Lib.hid hl
    have hmf : ∀ (fn : Fn) (first cap : Array Value) (w : World), (Instr.makeFunc fn first cap).run Tryd.prog w = .ok (.func fn first cap) w := fun _ _ _ _ => rfl
    clear hs hf hfull hl
    go_enter Tryd.func30, Tryd.ntmps30
    go_wp2_with fail
    refine K60.out.mono ?_
    rintro e w1 ⟨rfl, hb⟩
    have HB := Lib.hid hb
    have hz : w.heap.size ≤ w1.heap.size := hb.size
    have B2 : Hid (Below w.heap.size w (w1.alloc (.cells #[.int .i64 0] 3))) := hb.alloc hz _
    have I2 : Hid (Own (w1.alloc (.cells #[.int .i64 0] 3)) w1.heap.size [((0 : Nat) : Int)]) := heap_alloc_new w1 _
    have K61 := Lib.hid (f61_any n w.heap.size 76 #[.pointer (some ⟨w1.heap.size, 0, none⟩)] false (fun _ i => i = w1.heap.size) (fun done w => Own w w1.heap.size [(done.length : Int)]) (visit76 n w.heap.size w1.heap.size hz) b w A c (w1.alloc (.cells #[.int .i64 0] 3)) HF.out HS.out rfl B2.out hn7 I2.out)
    have hsz : w.heap.size ≤ (w1.alloc (.cells #[.int .i64 0] 3)).heap.size := B2.out.size
    clear hb K60
    go_wp2_with fail
    refine K61.out.mono ?_
    rintro e w3 ⟨rfl, h1, h2⟩
    have B3 : Hid (Below w.heap.size w w3) := h2.below B2.out hsz (fun i hi => by subst hi; exact hz)
    have hcc := Own.cell h1 0 (by simp)
    have HV : Hid (vis false (trans b n) = trans b n) := rfl
    rw [HV.out] at hcc
    have hcc : w3.cell? ⟨w1.heap.size, 0, none⟩ = some (.int .i64 ((trans b n).length : Int)) := hcc
    generalize (trans b n).length = T at *
    clear h1 h2 K61
    go_wp2
    go_ret2
    exact ⟨by rw [HE.out.1, HE.out.2]; rfl, B3.out⟩
end Go.Proofs.YtiodednhadnekaaDoor
