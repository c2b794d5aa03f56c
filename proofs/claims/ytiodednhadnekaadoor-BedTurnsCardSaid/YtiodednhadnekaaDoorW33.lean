/- Walks: Transversal. -/
import Derived.Test.YtiodednhadnekaaDoorW32
namespace Go.Proofs.YtiodednhadnekaaDoor
open Go.RowKit Go.Deep
attribute [local go_sem ↓] Go.wp_at_zero Go.wp_at_succ

/-- The transversal that was seen last. -/
def TvI (n p : Nat) (done : List (List Nat)) (w : World) : Prop :=
  (done = [] ∧ w.heap[p]? = some (.cells #[.slice none 0 0] 29 (0, 0))) ∨ ∃ pre l A c, done = pre ++ [l] ∧ l.length = n ∧ w.heap[p]? = some (.cells #[.slice A n c] 29 (0, 0)) ∧ IntsN (fun _ i => i = p) w A l
theorem TvI.var {n p : Nat} {done : List (List Nat)} {w : World} (h : TvI n p done w) : ∃ v, w.heap[p]? = some (.cells #[v] 29 (0, 0)) := by
  rcases h with ⟨_, h⟩ | ⟨_, _, _, _, _, _, h, _⟩
  · exact ⟨_, h⟩
  · exact ⟨_, h⟩
theorem TvI.lt {n p : Nat} {done : List (List Nat)} {w : World} (h : TvI n p done w) : p < w.heap.size := by
  obtain ⟨v, h⟩ := h.var
  rcases Nat.lt_or_ge p w.heap.size with hlt | hge
  · exact hlt
  · rw [Array.getElem?_eq_none hge] at h; cases h
theorem enter74 (args : Array Value) (w : World) : (callFunc 74 args).run Tryd.prog w = .ok (.enter 74 args) w := by simp [go_sem]
/-- bed.Transversal$1 -/
theorem f74_any (n p : Nat) (done : List (List Nat)) (A : Option Addr) (ca : Nat) (l : List Nat) (w : World) (hn : 0 < n) (hI : TvI n p done w) (hl : l.length = n) (hli : IntsN (fun _ i => i = p) w A l) :
    Calls Tryd.prog 74 #[.slice A n ca, .pointer (some ⟨p, 0, none⟩)] w fun e w' => e = .returned (.bool true) ∧ TvI n p (done ++ [l]) w' ∧ Kept (fun _ i => i = p) w w' := by
  obtain ⟨v, hv⟩ := hI.var
  have hc : w.cell? ⟨p, 0, none⟩ = some v := by rw [cell_of_row w p 0 _ 29 (0, 0) hv]; rfl
  have hf : w.frozen? ⟨p, 0, none⟩ = false := by simp [World.frozen?, hv]
  have HK : Hid (Kept (fun _ i => i = p) w (w.setCell ⟨p, 0, none⟩ (.slice A n ca))) := kept_setCell _ _ _ _
  have HT : Hid (TvI n p (done ++ [l]) (w.setCell ⟨p, 0, none⟩ (.slice A n ca))) := .inr ⟨done, l, A, ca, rfl, hl, by simp [World.setCell, Array.getElem?_modify, hv], hli.kept HK.out (by omega)⟩
  clear hI hli hv
  go_enter Tryd.func74, Tryd.ntmps74
  go_wp2
  go_ret
  exact ⟨rfl, HT.out, HK.out⟩
theorem visit74 (n base p : Nat) (hn : 0 < n) (hp : base ≤ p) : Visit n base 74 #[.pointer (some ⟨p, 0, none⟩)] true (fun _ i => i = p) (TvI n p) where
  enter := enter74
  keep := fun done w w' h hb => by
    refine ⟨?_, fun i h => h⟩
    rcases h with ⟨h1, h2⟩ | ⟨pre, l, A, c, h1, h2, h3, h4⟩
    · exact .inl ⟨h1, (hb.block p (TvI.lt (.inl ⟨h1, h2⟩ : TvI n p done w))).trans h2⟩
    · exact .inr ⟨pre, l, A, c, h1, h2, (hb.block p (TvI.lt (.inr ⟨pre, l, A, c, h1, h2, h3, h4⟩ : TvI n p done w))).trans h3, h4.kept ⟨hb.os, hb.tape, hb.output, hb.size, fun i hi _ => hb.block i hi, fun i _ h => h⟩ (by omega)⟩
  lt := fun done w i h hi => by subst hi; exact ⟨hp, h.lt⟩
  call := fun done l A c w h hd hl _ hi hno => f74_any n p done A c l w hn h hl ⟨by rw [hl]; exact hi, hno⟩
/-- The first transversal. -/
def tvL (b : List (List Int)) : List Int := if fullB b = true then zs ((trans b b.length).headD []) else []
def tvE (b : List (List Int)) : Int := if fullB b = true then (if trans b b.length = [] then 10 else 0) else 2
set_option maxRecDepth 100000 in
set_option maxHeartbeats 4000000 in
/-- bed.Transversal -/
theorem f27_any (A : Option Addr) (n c : Nat) (b : List (List Int)) (w : World) (hs : Beds w A n c b) :
    Calls Tryd.prog 27 #[.slice A n c] w fun e w' => ∃ A' c', e = .returned (.tuple #[.slice A' (tvL b).length c', .int .i64 (tvE b)]) ∧ Ints w' A' (tvL b).length (tvL b) ∧ Below w.heap.size w w' := by
  have K60 := Lib.hid (f60_any A n c b w hs)
  cases hf : fullB b
  · rw [hf] at K60
    have HE : Hid (tvL b = [] ∧ tvE b = 2) := by unfold tvL tvE; rw [hf]; exact ⟨rfl, rfl⟩
    clear hs hf
    go_enter Tryd.func27, Tryd.ntmps27
    go_wp2_with fail
    refine K60.out.mono ?_
    rintro e w1 ⟨rfl, hb⟩
    have HB := Lib.hid hb
    clear hb
    go_wp2
    go_ret2
    exact ⟨none, 0, by rw [HE.out.1, HE.out.2]; rfl, by rw [HE.out.1]; exact Ints.nil _ _, HB.out⟩
  · rw [hf] at K60
    obtain ⟨hn1, hn7, hfull⟩ := fullB_iff.1 hf
    have hbl := hs.len
    rw [hbl] at hn1 hn7 hfull
    have HE : Hid (tvL b = zs ((trans b n).headD []) ∧ tvE b = if trans b n = [] then 10 else 0) := by unfold tvL tvE; rw [hf, hbl]; exact ⟨rfl, rfl⟩
    have HF := Lib.hid hfull
    have HS := Lib.hid hs
    have hen := enter74
    have hmf : ∀ (fn : Fn) (first cap : Array Value) (w : World), (Instr.makeFunc fn first cap).run Tryd.prog w = .ok (.func fn first cap) w := fun _ _ _ _ => rfl
    clear hf hs hfull
    go_enter Tryd.func27, Tryd.ntmps27
    go_wp2_with fail
    refine K60.out.mono ?_
    rintro e w1 ⟨rfl, hb⟩
    have hz : w.heap.size ≤ w1.heap.size := hb.size
    have B2 : Hid (Below w.heap.size w (w1.alloc (.cells #[.slice none 0 0] 29))) := hb.alloc hz _
    have I2 : Hid (TvI n w1.heap.size [] (w1.alloc (.cells #[.slice none 0 0] 29))) := .inl ⟨rfl, heap_alloc_new w1 _⟩
    have K61 := Lib.hid (f61_any n w.heap.size 74 #[.pointer (some ⟨w1.heap.size, 0, none⟩)] true (fun _ i => i = w1.heap.size) (TvI n w1.heap.size) (visit74 n w.heap.size w1.heap.size hn1 hz) b w A c (w1.alloc (.cells #[.slice none 0 0] 29)) HF.out HS.out rfl B2.out hn7 I2.out)
    have hsz : w.heap.size ≤ (w1.alloc (.cells #[.slice none 0 0] 29)).heap.size := B2.out.size
    have HMEM : Hid (∀ l ∈ trans b n, l.length = n) := fun l hl => (trans_mem l hl).1
    generalize trans b n = T at *
    cases T with
    | nil =>
      have HH : Hid (hit true [] = false ∧ vis true [] = []) := ⟨rfl, rfl⟩
      rw [HH.out.1, HH.out.2] at K61
      have HE2 : Hid (tvL b = [] ∧ tvE b = 10) := ⟨HE.out.1, HE.out.2⟩
      clear hb K60 HE
      go_wp2_with fail
      refine K61.out.mono ?_
      rintro e w3 ⟨rfl, h1, h2⟩
      have B3 : Hid (Below w.heap.size w w3) := h2.below B2.out hsz (fun i hi => by subst hi; exact hz)
      clear h1 h2 K61
      go_wp2
      go_ret2
      exact ⟨none, 0, by rw [HE2.out.1, HE2.out.2]; rfl, by rw [HE2.out.1]; exact Ints.nil _ _, B3.out⟩
    | cons t T =>
      have HH : Hid (hit true (t :: T) = true ∧ vis true (t :: T) = [t]) := ⟨rfl, rfl⟩
      rw [HH.out.1, HH.out.2] at K61
      have HE2 : Hid (tvL b = zs t ∧ tvE b = 0) := ⟨HE.out.1, HE.out.2⟩
      have htl : t.length = n := HMEM.out t (List.mem_cons_self ..)
      have hzl : (zs t).length = n := by rw [zs_len]; exact htl
      clear hb K60 HE
      go_wp2_with fail
      refine K61.out.mono ?_
      rintro e w3 ⟨rfl, h1, h2⟩
      have B3 : Hid (Below w.heap.size w w3) := h2.below B2.out hsz (fun i hi => by subst hi; exact hz)
      rcases h1 with ⟨h1, _⟩ | ⟨pre, l, A3, c3, h3, h4, h5, h6⟩
      · cases h1
      obtain rfl : l = t := by
        have h7 : ([t] : List (List Nat)) = pre ++ [l] := h3
        match pre, h7 with
        | [], h7 => simpa using h7.symm
        | _ :: pre, h7 => simp at h7
      have hc3 : w3.cell? ⟨w1.heap.size, 0, none⟩ = some (.slice A3 n c3) := by rw [cell_of_row w3 w1.heap.size 0 _ 29 (0, 0) h5]; rfl
      have hI6 := h6.1
      rw [htl] at hI6
      obtain ⟨b6, o6, e6, _⟩ := hI6.at_ hn1
      subst e6
      have K68 := Lib.hid (f68_any (some ⟨b6, o6, none⟩) n c3 (zs l) w3 hI6 (fun h => by cases h) (by omega))
      clear h2 h3 h4 h5 h6 hI6 K61
      go_wp2_with fail
      refine K68.out.mono ?_
      rintro e w4 ⟨v4, rfl, hr4, hb4⟩
      obtain ⟨A4, c4, rfl, hi4, _⟩ := hr4.form3 (by omega)
      have HI4 := Lib.hid hi4
      have B4 := Lib.hid (B3.out.trans (hb4.mono B3.out.size))
      clear hr4 hb4 hi4
      go_wp2
      go_ret2
      exact ⟨A4, c4, by rw [HE2.out.1, HE2.out.2, hzl]; rfl, by rw [HE2.out.1]; exact HI4.out, B4.out⟩
end Go.Proofs.YtiodednhadnekaaDoor
