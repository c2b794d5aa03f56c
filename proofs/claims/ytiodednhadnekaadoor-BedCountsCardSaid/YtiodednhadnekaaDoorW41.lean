/- Walks: Count; the specification's count. -/
import Derived.Test.YtiodednhadnekaaDoorW40
namespace Go.Proofs.YtiodednhadnekaaDoor
open Go.RowKit Go.Deep
attribute [local go_sem ↓] Go.wp_at_zero Go.wp_at_succ
attribute [local go_sem] run_store_func

def cntOk (b : List (List Int)) : Prop := bedB b = true ∧ b.length ≤ 5
instance (b : List (List Int)) : Decidable (cntOk b) := by unfold cntOk; infer_instance
noncomputable def cntN (b : List (List Int)) : Nat := if cntOk b then cnt b.length b else 0
def cntE (b : List (List Int)) : Int := if cntOk b then 0 else 2
set_option maxRecDepth 100000 in
set_option maxHeartbeats 4000000 in
/-- bed.Count -/
theorem f35_any (A : Option Addr) (n c : Nat) (b : List (List Int)) (w : World) (hs : Beds w A n c b) (ht : Tab w) :
    Calls Tryd.prog 35 #[.slice A n c] w fun e w' => e = .returned (.tuple #[.int .i64 (cntN b : Int), .int .i64 (cntE b)]) ∧ Below w.heap.size w w' := by
  have K53 := Lib.hid (f53_any A n c b w hs)
  have hbl := hs.len
  have hsm := hs.small
  cases hf : bedB b
  · rw [hf] at K53
    have hno : ¬ cntOk b := fun h => by rw [h.1] at hf; cases hf
    have HE : Hid (cntE b = 2 ∧ cntN b = 0) := by unfold cntE cntN; rw [if_neg hno, if_neg hno]; exact ⟨rfl, rfl⟩
    clear hs hf hno ht
    go_enter Tryd.func35, Tryd.ntmps35
    go_wp2_with fail
    refine K53.out.mono ?_
    rintro e w1 ⟨rfl, hb⟩
    have HB := Lib.hid hb
    clear hb
    go_wp2
    go_ret2
    exact ⟨by rw [HE.out.1, HE.out.2]; rfl, HB.out⟩
  rw [hf] at K53
  by_cases h5 : 5 < n
  · have hno : ¬ cntOk b := fun h => by have := h.2; omega
    have HE : Hid (cntE b = 2 ∧ cntN b = 0) := by unfold cntE cntN; rw [if_neg hno, if_neg hno]; exact ⟨rfl, rfl⟩
    clear hs hf hno ht
    go_enter Tryd.func35, Tryd.ntmps35
    go_wp2_with fail
    refine K53.out.mono ?_
    rintro e w1 ⟨rfl, hb⟩
    have HB := Lib.hid hb
    clear hb
    go_wp2
    go_ret2
    exact ⟨by rw [HE.out.1, HE.out.2]; rfl, HB.out⟩
  obtain ⟨hn1, hn7, hB⟩ := find_bed hf hbl
  have hok : cntOk b := ⟨hf, by omega⟩
  have HE : Hid (cntE b = 0 ∧ cntN b = cnt n b) := by unfold cntE cntN; rw [if_pos hok, if_pos hok, hbl]; exact ⟨rfl, rfl⟩
  have HB := Lib.hid hB
  have HS := Lib.hid hs
  have HT := Lib.hid ht
  have hmf : ∀ (fn : Fn) (first cap : Array Value) (w : World), (Instr.makeFunc fn first cap).run Tryd.prog w = .ok (.func fn first cap) w := fun _ _ _ _ => rfl
  have hen := enter80
  clear hs hf hok ht hB
  go_enter Tryd.func35, Tryd.ntmps35
  go_wp2_with fail
  refine K53.out.mono ?_
  rintro e w1 ⟨rfl, hb1⟩
  have K54 := Lib.hid (f54_any A n c b w1 (HS.out.below hb1) HB.out hn7)
  have HB1 := Lib.hid hb1
  clear hb1 K53
  go_wp2_with fail
  refine K54.out.mono ?_
  rintro e w2 ⟨rfl, hf2, hb2⟩
  have hpz : w.heap.size ≤ w1.heap.size := HB1.out.size
  have hp1 : w1.heap.size ≠ 1 := by have := HT.out.lt; omega
  obtain ⟨ws, hws⟩ : ∃ z, z = (w2.alloc (.cells #[.pointer (some ⟨w1.heap.size, 0, none⟩)] 56)).alloc (.cells #[.func (.func 80) #[] #[.pointer (some ⟨w2.heap.size, 0, none⟩), .pointer (some ⟨w2.heap.size + 1, 0, none⟩)]] 80) := ⟨_, rfl⟩
  have hbs : Below w2.heap.size w2 ws := by rw [hws]; exact below_alloc2 w2 _ _
  have s1 : (w2.alloc (.cells #[.pointer (some ⟨w1.heap.size, 0, none⟩)] 56)).heap.size = w2.heap.size + 1 := by simp
  have c1 : ws.cell? ⟨w2.heap.size, 0, none⟩ = some (.pointer (some ⟨w1.heap.size, 0, none⟩)) := by
    have h := (Below.heap_alloc (w2.alloc (.cells #[.pointer (some ⟨w1.heap.size, 0, none⟩)] 56)) (.cells #[.func (.func 80) #[] #[.pointer (some ⟨w2.heap.size, 0, none⟩), .pointer (some ⟨w2.heap.size + 1, 0, none⟩)]] 80) w2.heap.size (by omega)).trans (heap_alloc_new w2 _)
    rw [← hws] at h
    rw [cell_of_row _ _ 0 _ _ _ h]; rfl
  have c2 : ws.cell? ⟨w2.heap.size + 1, 0, none⟩ = some (.func (.func 80) #[] #[.pointer (some ⟨w2.heap.size, 0, none⟩), .pointer (some ⟨w2.heap.size + 1, 0, none⟩)]) := by
    have h := heap_alloc_new (w2.alloc (.cells #[.pointer (some ⟨w1.heap.size, 0, none⟩)] 56)) (.cells #[.func (.func 80) #[] #[.pointer (some ⟨w2.heap.size, 0, none⟩), .pointer (some ⟨w2.heap.size + 1, 0, none⟩)]] 80)
    rw [← hws, s1] at h
    rw [cell_of_row _ _ 0 _ _ _ h]; rfl
  have K80 := Lib.hid (f80_any w1.heap.size n w2.heap.size (w2.heap.size + 1) hp1 (by omega) b HB.out ws (hf2.below hbs hf2.lt) ((((HT.out.below HB1.out)).below hb2).below hbs) c1 c2)
  have HBS : Hid (Below w.heap.size w ws) := Lib.hid ((HB1.out.trans (hb2.mono HB1.out.size)).trans (hbs.mono (by have := HB1.out.size; have := hb2.size; omega)))
  clear hf2 hb2 hbs s1 c1 hp1 K54
  go_wp2_with fail
  rw [← hws]
  clear hws
  refine K80.out.mono ?_
  rintro e w4 ⟨rfl, hg4, _⟩
  have B4 := Lib.hid (below_only HBS.out hg4 HBS.out.size hpz)
  clear hg4
  generalize cnt n b = N at *
  go_wp2
  go_ret2
  exact ⟨by rw [HE.out.1, HE.out.2]; rfl, B4.out⟩
end Go.Proofs.YtiodednhadnekaaDoor
