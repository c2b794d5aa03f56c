/- Walks: the filler: lists. What is new memory. -/
import Derived.Test.YtiodednhadnekaaDoorW11
namespace Go.Proofs.YtiodednhadnekaaDoor
open Go.RowKit Go.Deep
attribute [local go_sem ↓] Go.wp_at_zero Go.wp_at_succ

/-! ### rows that are new memory -/
/-- The slice v is new memory and reads as l. -/
def RowAt (w : World) (base : Nat) (v : Value) (l : List Int) : Prop :=
  ∃ B d, v = .slice B l.length d ∧ l.length ≤ d ∧ (B = none → l.length = 0 ∧ d = 0) ∧ Ints w B l.length l ∧ (0 < l.length → ∃ g, B = some ⟨g, 0, none⟩ ∧ base ≤ g ∧ ∀ i, w.frozen? ⟨g, i, none⟩ = false)
theorem RowAt.mono {w : World} {base base' : Nat} {v : Value} {l : List Int} (h : RowAt w base v l) (hb : base' ≤ base) : RowAt w base' v l := by
  obtain ⟨B, d, h1, h2, h3, h4, h5⟩ := h
  exact ⟨B, d, h1, h2, h3, h4, fun hl => by obtain ⟨g, e, hg, hf⟩ := h5 hl; exact ⟨g, e, Nat.le_trans hb hg, hf⟩⟩
theorem Row.rowAt {w : World} {base : Nat} {v : Value} {l : List Int} (h : Row w base v l) (hl : l.length ≤ 1000000) : RowAt w base v l := by
  obtain ⟨A, c, e, hi, hc⟩ := h.form3 (by omega)
  rcases h.2 with ⟨e2, hn⟩ | ⟨g, cap, cur, e2, hb, hh, _⟩
  · rw [e] at e2
    injection e2 with e3 e4 e5
    subst e3 e5
    exact ⟨none, 0, e, hc, fun _ => ⟨hn, rfl⟩, hi, fun h => by omega⟩
  · rw [e] at e2
    injection e2 with e3 e4 e5
    subst e3 e5
    exact ⟨_, c, e, hc, (fun h => absurd h (by simp)), hi, fun _ => ⟨g, rfl, hb, fun i => by simp [World.frozen?, hh]⟩⟩
theorem RowAt.below {w w' : World} {base : Nat} {v : Value} {l : List Int} (h : RowAt w base v l) (hb : Below w.heap.size w w') : RowAt w' base v l := by
  obtain ⟨B, d, h1, h2, h3, h4, h5⟩ := h
  refine ⟨B, d, h1, h2, h3, h4.below hb, fun hl => ?_⟩
  obtain ⟨g, e, hg, hf⟩ := h5 hl
  refine ⟨g, e, hg, fun i => ?_⟩
  subst e
  obtain ⟨b, o, e2, hc⟩ := h4.at_ hl
  injection e2 with e2
  injection e2 with e3 e4
  subst e3
  exact ((bcell hb).2 _ _ (lt_of_cell hc)).trans (hf i)
/-- A block of slices that is known whole. -/
def OwnV (w : World) (g : Nat) (vs : List Value) : Prop := w.heap[g]? = some (.cells vs.toArray 29 (0, 0)) ∧ ∀ v ∈ vs, ∃ B n d, v = .slice B n d
section
variable {w w' : World} {g : Nat} {vs : List Value}
theorem OwnV.lt (h : OwnV w g vs) : g < w.heap.size := by
  rcases Nat.lt_or_ge g w.heap.size with hlt | hge
  · exact hlt
  · have := h.1; rw [Array.getElem?_eq_none hge] at this; cases this
theorem OwnV.cell (h : OwnV w g vs) (j : Nat) : w.cell? ⟨g, j, none⟩ = vs[j]? := by
  rw [cell_of_row w g j _ 29 (0, 0) h.1]; simp
theorem OwnV.frozen (h : OwnV w g vs) (j : Nat) : w.frozen? ⟨g, j, none⟩ = false := by
  have := h.1
  simp [World.frozen?, this]
theorem OwnV.below (h : OwnV w g vs) (hb : Below w.heap.size w w') : OwnV w' g vs := ⟨(hb.block g h.lt).trans h.1, h.2⟩
theorem OwnV.drewN (h : OwnV w g vs) (k : Nat) : OwnV (w.drewN k) g vs := h
theorem OwnV.set_ (h : OwnV w g vs) (j : Nat) {v : Value} (hv : ∃ B n d, v = .slice B n d) : OwnV (w.setCell ⟨g, j, none⟩ v) g (vs.set j v) := by
  refine ⟨?_, fun u hu => ?_⟩
  · have := h.1
    simp [World.setCell, Array.getElem?_modify, this]
  · rcases List.mem_or_eq_of_mem_set hu with h1 | h1
    · exact h.2 u h1
    · rw [h1]; exact hv
theorem OwnV.far (h : OwnV w g vs) {p : Addr} (hp : g ≠ p.block) (u : Value) : OwnV (w.setCell p u) g vs := ⟨(Below.heap_setCell w p u g hp).trans h.1, h.2⟩
/-- Ints lie in no block of slices. -/
theorem OwnV.apart (h : OwnV w g vs) {b i : Nat} {x : Int} (hc : w.cell? ⟨b, i, none⟩ = some (.int .i64 x)) : g ≠ b := by
  rintro rfl
  rw [h.cell] at hc
  obtain ⟨B, n, d, e⟩ := h.2 _ (List.mem_of_getElem? hc)
  cases e
theorem Ints.setV {B : Option Addr} {n : Nat} {xs : List Int} (hi : Ints w B n xs) (h : OwnV w g vs) (j : Nat) (u : Value) : Ints (w.setCell ⟨g, j, none⟩ u) B n xs :=
  ⟨hi.1, hi.2.1, fun hn => by
    obtain ⟨b, o, e, hc⟩ := hi.2.2 hn
    exact ⟨b, o, e, fun k hk => (World.cell?_setCell_other w ⟨g, j, none⟩ ⟨b, o + k, none⟩ u (fun e2 => h.apart (hc k hk) (by injection e2))).trans (hc k hk)⟩⟩
theorem RowAt.setV {base : Nat} {v : Value} {l : List Int} (hr : RowAt w base v l) (h : OwnV w g vs) (j : Nat) (u : Value) : RowAt (w.setCell ⟨g, j, none⟩ u) base v l := by
  obtain ⟨B, d, h1, h2, h3, h4, h5⟩ := hr
  refine ⟨B, d, h1, h2, h3, h4.setV h j u, fun hl => ?_⟩
  obtain ⟨g2, e, hg, hf⟩ := h5 hl
  refine ⟨g2, e, hg, fun i => ?_⟩
  subst e
  obtain ⟨b, o, e2, hc⟩ := h4.at_ hl
  injection e2 with e2
  injection e2 with e3 e4
  subst e3
  rw [← hf i]
  exact World.frozen?_of_block (Below.heap_setCell w ⟨g, j, none⟩ u g2 (fun e => h.apart hc e.symm))
end
/-- A bed that is new memory. -/
def BedsN (w : World) (base : Nat) (A : Option Addr) (n c : Nat) (b : List (List Int)) : Prop :=
  b.length = n ∧ n ≤ 1000000 ∧ n ≤ c ∧ (A = none → n = 0 ∧ c = 0) ∧ (0 < n → ∃ g o, A = some ⟨g, o, none⟩ ∧ ∀ j, j < n → ∃ v, w.cell? ⟨g, o + j, none⟩ = some v ∧ RowAt w base v (b.getD j []))
theorem BedsN.beds {w : World} {base : Nat} {A : Option Addr} {n c : Nat} {b : List (List Int)} (h : BedsN w base A n c b) : Beds w A n c b :=
  ⟨h.1, h.2.1, h.2.2.1, h.2.2.2.1, fun hn => by
    obtain ⟨g, o, e, hc⟩ := h.2.2.2.2 hn
    refine ⟨g, o, e, fun j hj => ?_⟩
    obtain ⟨v, hv, B, d, e2, h2, h3, h4, _⟩ := hc j hj
    rw [e2] at hv
    exact ⟨B, d, hv, h2, h3, h4⟩⟩
theorem BedsN.nil (w : World) (base : Nat) : BedsN w base none 0 0 [] := ⟨rfl, by omega, by omega, fun _ => ⟨rfl, rfl⟩, fun h => absurd h (by omega)⟩
theorem BedsN.below {w w' : World} {base : Nat} {A : Option Addr} {n c : Nat} {b : List (List Int)} (h : BedsN w base A n c b) (hb : Below w.heap.size w w') : BedsN w' base A n c b :=
  ⟨h.1, h.2.1, h.2.2.1, h.2.2.2.1, fun hn => by
    obtain ⟨g, o, e, hc⟩ := h.2.2.2.2 hn
    refine ⟨g, o, e, fun j hj => ?_⟩
    obtain ⟨v, hv, hr⟩ := hc j hj
    exact ⟨v, (hb.cell (lt_of_cell hv)).trans hv, hr.below hb⟩⟩
theorem OwnV.bedsN {w : World} {g base : Nat} {vs : List Value} {b : List (List Int)} (h : OwnV w g vs) (hl : vs.length = b.length) (hs : b.length ≤ 1000000) (hr : ∀ j v, vs[j]? = some v → RowAt w base v (b.getD j [])) : BedsN w base (some ⟨g, 0, none⟩) b.length b.length b :=
  ⟨rfl, hs, Nat.le_refl _, fun h => (by cases h), fun _ => ⟨g, 0, rfl, fun j hj => by
    have hj' : j < vs.length := by omega
    refine ⟨vs[j], ?_, hr j _ (List.getElem?_eq_getElem hj')⟩
    rw [Nat.zero_add, h.cell, List.getElem?_eq_getElem hj']⟩⟩
theorem make_slices (n : Nat) (hn : n ≤ 1000000) (W : World) : (Instr.makeSlice 22 (.int .i64 (n : Int)) (.int .i64 (n : Int))).run Tryd.prog W =
    .ok (.slice (some ⟨W.heap.size, 0, none⟩) n n) (W.alloc (.cells (List.replicate n (Value.slice none 0 0)).toArray 29)) := by
  obtain ⟨i0, hi, hz0, hz1, hz2⟩ := info_parts (show (Tryd.prog.info? 29).map (fun i => (i.zero, i.size, i.bytes)) = some (some (.slice none 0 0), 1, 24) from by kernel_rfl)
  have hr := run_make (P := Tryd.prog) W 22 29 i0 (.slice none 0 0) Tryd.underlying22 hi hz0 .i64 .i64 n n (by omega) (by omega) (by rw [hz2]; omega) (by omega)
  have e : madeCells (Value.slice none 0 0).cells ((n : Int).toNat * i0.size) = (List.replicate n (Value.slice none 0 0)).toArray := by
    rw [hz1, Nat.mul_one, Int.toNat_natCast]
    apply Array.toList_inj.1
    exact (toList_madeCells_one _ _).trans (by simp)
  exact hr.trans (by rw [e, Int.toNat_natCast])
theorem OwnV.made (w : World) (n : Nat) : OwnV (w.alloc (.cells (List.replicate n (Value.slice none 0 0)).toArray 29)) w.heap.size (List.replicate n (Value.slice none 0 0)) :=
  ⟨heap_alloc_new w _, fun v hv => by rw [List.mem_replicate] at hv; exact ⟨none, 0, 0, hv.2⟩⟩
/-- The first rows are laid. -/
def Laid (w : World) (base g n r : Nat) (b : List (List Int)) : Prop := ∃ vs, OwnV w g vs ∧ vs.length = n ∧ ∀ j v, j < r → vs[j]? = some v → RowAt w base v (b.getD j [])
theorem Laid.next {w w' : World} {base g n r : Nat} {b : List (List Int)} (h : Laid w base g n r b) (hr : r < n) (hb : Below w.heap.size w w') {v : Value} (hv : RowAt w' base v (b.getD r [])) : Laid (w'.setCell ⟨g, r, none⟩ v) base g n (r + 1) b := by
  obtain ⟨vs, h1, h2, h3⟩ := h
  have h1' := h1.below hb
  refine ⟨vs.set r v, h1'.set_ r (by obtain ⟨B, d, e, _⟩ := hv; exact ⟨_, _, _, e⟩), by rw [List.length_set]; exact h2, fun j u hj hu => ?_⟩
  by_cases e : j = r
  · subst e
    rw [List.getElem?_set_self (by omega)] at hu
    injection hu with hu
    subst hu
    exact hv.setV h1' _ _
  · rw [List.getElem?_set_ne (fun h => e h.symm)] at hu
    exact ((h3 j u (by omega) hu).below hb).setV h1' _ _
theorem Laid.spot {w : World} {base g n r : Nat} {b : List (List Int)} (h : Laid w base g n r b) (hr : r < n) : ∀ W, Below w.heap.size w W → (∃ u, W.cell? ⟨g, r, none⟩ = some u) ∧ W.frozen? ⟨g, r, none⟩ = false := fun W hb => by
  obtain ⟨vs, h1, h2, _⟩ := h
  refine ⟨⟨vs[r]'(by omega), ?_⟩, (h1.below hb).frozen r⟩
  rw [(h1.below hb).cell, List.getElem?_eq_getElem (by omega)]
theorem FilB.far {w : World} {p n : Nat} {b : List (List Int)} (h : FilB w p n b) {a : Addr} (hp : p ≠ a.block) (u : Value) : FilB (w.setCell a u) p n b := (Below.heap_setCell w a u p hp).trans h
theorem fil_ints {w : World} {p n : Nat} {b : List (List Int)} (hf : FilB w p n b) (hb : sqShape n b) (hn : n ≤ 7) {r : Nat} (hr : r < n) : Ints w (some ⟨p, 1 + r * 7, none⟩) n (b.getD r []) :=
  ⟨hb.2 r hr, by omega, fun _ => ⟨p, 1 + r * 7, rfl, fun j hj => hf.at_ hn hr hj⟩⟩
set_option maxRecDepth 100000 in
set_option maxHeartbeats 4000000 in
/-- (*filler).lists -/
theorem f59_any (p n : Nat) (b : List (List Int)) (w : World) (hf : FilB w p n b) (hb : sqShape n b) (hn : n ≤ 7) :
    Calls Tryd.prog 59 #[.pointer (some ⟨p, 0, none⟩)] w fun e w' => ∃ A c, e = .returned (.slice A n c) ∧ BedsN w' w.heap.size A n c b ∧ Below w.heap.size w w' := by
  have h0 := hf.n0
  have HF := Lib.hid hf
  have HB := Lib.hid hb
  have hpz := hf.lt
  have hmk := make_slices n (by omega) w
  have L0 : Hid (Laid (w.alloc (.cells (List.replicate n (Value.slice none 0 0)).toArray 29)) w.heap.size w.heap.size n 0 b) := ⟨_, OwnV.made w n, by simp, fun j v hj => absurd hj (by omega)⟩
  have B0 := Lib.hid (below_alloc w (.cells (List.replicate n (Value.slice none 0 0)).toArray 29))
  have F0 : Hid (FilB (w.alloc (.cells (List.replicate n (Value.slice none 0 0)).toArray 29)) p n b) := hf.below (below_alloc w _) hpz
  obtain ⟨w0, hw0⟩ : ∃ z, z = w.alloc (.cells (List.replicate n (Value.slice none 0 0)).toArray 29) := ⟨_, rfl⟩
  rw [← hw0] at hmk L0 B0 F0
  obtain ⟨g, hg⟩ : ∃ g, g = w.heap.size := ⟨_, rfl⟩
  have HG := Lib.hid hg
  rw [← hg] at hmk L0 B0 hpz
  clear hf hb hw0 hg
  go_enter Tryd.func59, Tryd.ntmps59
  go_wp2
  go_loopw [12] (fun i wr => ∃ r : Nat, r ≤ n ∧ i = .int .i64 (r : Int) ∧ Laid wr g g n r b ∧ FilB wr p n b ∧ Below g w wr) (fun i _ => n - (intOf i).toNat)
  case atStart => exact ⟨0, by omega, rfl, L0.out, F0.out, B0.out⟩
  case round => as_aux_lemma =>
    obtain ⟨r, hr, rfl, hl, hf, hbel⟩ := hrel
    have HL := Lib.hid hl
    have HF := Lib.hid hf
    have HBL := Lib.hid hbel
    clear hl hf hbel
    by_cases hlt : r < n
    · have c0 := HF.out.n0
      have HI := Lib.hid (fil_ints HF.out HB.out hn hlt)
      have K68 : Hid (∀ W, W.heap = wr.heap → Calls Tryd.prog 68 #[.slice (some ⟨p, 1 + r * 7, none⟩) n 7] W fun e w' => ∃ A c, e = .returned (.slice A n c) ∧ RowAt w' W.heap.size (.slice A n c) (b.getD r []) ∧ Below W.heap.size W w') := fun W h => by
        have hln := HB.out.2 r hlt
        refine (f68_any (some ⟨p, 1 + r * 7, none⟩) n 7 (b.getD r []) W (fil_ints ?_ HB.out hn hlt) (fun h => absurd h (by simp)) (by omega)).mono ?_
        rotate_left
        · rintro e w' ⟨v, rfl, h1, h2⟩
          obtain ⟨A, c, rfl, _⟩ := h1.form3 (by omega)
          have h3 := h1.rowAt (by omega)
          rw [hln] at h3 ⊢
          exact ⟨A, c, rfl, h3, h2⟩
        have := HF.out
        unfold FilB Fil at this ⊢
        rw [h]; exact this
      have HSP := Lib.hid (HL.out.spot hlt)
      have R6 : Hid (∀ W, Below wr.heap.size wr W → W.cell? ⟨p, 0, none⟩ = some (.int .i64 (n : Int))) := fun W h => (h.cell (lt_of_cell c0)).trans c0
      have R7 : Hid (∀ W u, Below wr.heap.size wr W → (W.setCell ⟨g, r, none⟩ u).cell? ⟨p, 0, none⟩ = some (.int .i64 (n : Int))) := fun W u h => (World.cell?_setCell_other W ⟨g, r, none⟩ ⟨p, 0, none⟩ u (fun e => by injection e with e; omega)).trans (R6.out W h)
      have r0 : (0 : Int) ≤ (r : Int) := by omega
      have r7 : (r : Int) < 7 := by omega
      have rn : (r : Int) < (n : Int) := by omega
      have n0 : (0 : Int) ≤ (n : Int) := by omega
      have n7 : (n : Int) ≤ 7 := by omega
      go_wp2_with fail
      go_region_held3 (fun w' => w'.cell? ⟨p, 0, none⟩ = some (.int .i64 (n : Int)))
        (first | go_keep | exact R6.out _ hq1 | exact R7.out _ _ hq1)
        ((go_at_call 68; refine (K68.out _ (by rfl)).mono ?_; rintro e w4 ⟨A4, c4, rfl, hr4, hb4⟩; have hq1 : Below wr.heap.size wr w4 := (by first | exact hb4 | exact below_step (a := wr) (b := wr.drew) (below_drewN (Below.refl _ _) 1) hb4); obtain ⟨⟨u4, hu4⟩, hz4⟩ := HSP.out _ hq1; have HR4 := Lib.hid hr4; clear hb4 hr4))
      all_goals
        have hsz : g ≤ wr.heap.size := by have := HBL.out.size; have := HG.out; omega
        have HB5 : Hid (Below g w (w4.setCell ⟨g, r, none⟩ (.slice A4 n c4))) := (HBL.out.trans (hq1.mono hsz)).setCell (Nat.le_refl _) _
        have HL5 : Hid (Laid (w4.setCell ⟨g, r, none⟩ (.slice A4 n c4)) g g n (r + 1) b) := HL.out.next hlt hq1 (HR4.out.mono hsz)
        have HF5 : Hid (FilB (w4.setCell ⟨g, r, none⟩ (.slice A4 n c4)) p n b) := (HF.out.below hq1 HF.out.lt).far (by show p ≠ g; omega) _
        clear hq1 hu4 hz4
        go_wp2
        go_roundw
        case rel => exact ⟨r + 1, by omega, by go_num, HL5.out, HF5.out, HB5.out⟩
        case measure => simp [intOf]; omega
    · obtain rfl : r = n := by omega
      obtain ⟨vs, h1, h2, h3⟩ := HL.out
      have hbl := HB.out.1
      have HN : Hid (BedsN wr g (some ⟨g, 0, none⟩) b.length b.length b) := h1.bedsN (by omega) (by omega) (fun j v hv => h3 j v (by
        rcases Nat.lt_or_ge j vs.length with h | h
        · omega
        · rw [List.getElem?_eq_none h] at hv; cases hv) hv)
      rw [hbl] at HN
      clear h1 h2 h3 hbl
      go_wp2
      go_ret
      exact ⟨_, _, rfl, by rw [← HG.out]; exact HN.out, by rw [← HG.out]; exact HBL.out⟩
end Go.Proofs.YtiodednhadnekaaDoor
