/- Copied, as rows of its own; beds in memory that may be written. -/
import Derived.Test.YtiodednhadnekaaDoorW35
namespace Go.Proofs.YtiodednhadnekaaDoor
open Go.RowKit Go.Deep
attribute [local go_sem ↓] Go.wp_at_zero Go.wp_at_succ

/-- Rows of rows, all of it above base, no two rows in one block. -/
def BRowA (w : World) (base : Nat) (v : Value) (L : List (List Int)) : Prop := ∃ vs, RowV w base v vs ∧ vs.length = L.length ∧ (∀ (j : Nat) (u : Value), vs[j]? = some u → Row w base u (L.getD j [])) ∧ ∀ (i j : Nat) (u v : Value), i ≠ j → vs[i]? = some u → vs[j]? = some v → Apart u v
theorem BRowA.nil (w : World) (base : Nat) : BRowA w base (.slice none 0 0) [] := ⟨[], RowV.nil w base, rfl, fun j u h => by simp at h, fun i j u v _ h => by simp at h⟩
theorem BRowA.push {w w' : World} {base : Nat} {v : Value} {L : List (List Int)} {vs : List Value} {w1 : World} {u v' : Value} {l : List Int} (h1 : RowV w base v vs) (h2 : vs.length = L.length) (h3 : ∀ (j : Nat) (u : Value), vs[j]? = some u → Row w base u (L.getD j [])) (h4 : ∀ (i j : Nat) (u v : Value), i ≠ j → vs[i]? = some u → vs[j]? = some v → Apart u v) (hb : Below w.heap.size w w1) (hu : Row w1 w.heap.size u l) (hbase : base ≤ w.heap.size) (hg : w1.grownBy w' v.ownBlock) (hr : RowV w' base v' (vs ++ [u])) : BRowA w' base v' (L ++ [l]) := by
  refine ⟨vs ++ [u], hr, by simp [h2], fun j x hx => ?_, fun i j x y hij hx hy => ?_⟩
  · rcases Nat.lt_or_ge j vs.length with hj | hj
    · rw [List.getElem?_append_left hj] at hx
      have e : (L ++ [l]).getD j [] = L.getD j [] := by rw [List.getD_eq_getElem?_getD, List.getElem?_append_left (by omega), ← List.getD_eq_getElem?_getD]
      rw [e]
      exact ((h3 j x hx).below hb).otherV (h1.below hb) hg
    · have hj2 : j = vs.length := by
        rcases Nat.lt_or_ge vs.length j with h | h
        · rw [List.getElem?_eq_none (by simp; omega)] at hx; cases hx
        · omega
      subst hj2
      have hx2 : x = u := by simpa using hx.symm
      have e : (L ++ [l]).getD vs.length [] = l := by rw [h2]; simp [List.getD_eq_getElem?_getD]
      rw [e, hx2]
      exact (hu.mono hbase).otherV (h1.below hb) hg
  · have key : ∀ k z, vs[k]? = some z → Apart z u := fun k z hz b hb1 hb2 => by
      have a1 := (World.ownsRow.lt (h3 k z hz) b hb1).2
      have a2 := (World.ownsRow.lt hu b hb2).1
      omega
    have hat : ∀ k z, (vs ++ [u])[k]? = some z → (k < vs.length ∧ vs[k]? = some z) ∨ (k = vs.length ∧ z = u) := fun k z hz => by
      rcases Nat.lt_or_ge k vs.length with hk | hk
      · rw [List.getElem?_append_left hk] at hz; exact .inl ⟨hk, hz⟩
      · have hk2 : k = vs.length := by
          rcases Nat.lt_or_ge vs.length k with h | h
          · rw [List.getElem?_eq_none (by simp; omega)] at hz; cases hz
          · omega
        subst hk2
        exact .inr ⟨rfl, by simpa using hz.symm⟩
    rcases hat i x hx with ⟨hi, hx1⟩ | ⟨hi, e1⟩
    · rcases hat j y hy with ⟨hj, hy1⟩ | ⟨hj, e2⟩
      · exact h4 i j x y hij hx1 hy1
      · rw [e2]; exact key i x hx1
    · rcases hat j y hy with ⟨hj, hy1⟩ | ⟨hj, e2⟩
      · rw [e1]; exact (key j y hy1).symm
      · omega
set_option maxRecDepth 100000 in
set_option maxHeartbeats 8000000 in
/-- dibberref01.Copied: rows of its own -/
theorem f24_own (A : Option Addr) (n c : Nat) (b : List (List Int)) (w : World) (hs : Beds w A n c b) (hrow : ∀ j, (b.getD j []).length ≤ 1000) (hn : n ≤ 1000) :
    Calls Tryd.prog 24 #[.slice A n c] w fun e w' => ∃ v, e = .returned v ∧ BRowA w' w.heap.size v b ∧ Below w.heap.size w w' := by
  have HS := Lib.hid hs
  have hbl := hs.len
  have HR := Lib.hid hrow
  clear hs hrow
  go_enter Tryd.func24, Tryd.ntmps24
  go_wp2
  go_loopw [4, 3] (fun i u wr => ∃ (r : Nat) (v : Value), r ≤ n ∧ i = .int .i64 (r : Int) ∧ v = u ∧ BRowA wr w.heap.size v (b.take r) ∧ Below w.heap.size w wr) (fun i _ _ => n - (intOf i).toNat)
  case atStart => exact ⟨0, _, by omega, rfl, rfl, BRowA.nil _ _, Below.refl _ _⟩
  case round => as_aux_lemma =>
    obtain ⟨r, v, hr, rfl, rfl, hbr, hbel⟩ := hrel
    by_cases hlt : r < n
    · obtain ⟨vs, hv1, hv2, hv3, hv4⟩ := hbr
      obtain ⟨g, o, rfl, B, d, hc, hld, hBn, hi⟩ := (HS.out.below hbel).at_ hlt
      have HN : Hid (b.take (r + 1) = b.take r ++ [b.getD r []]) := take_next [] (by omega)
      have hrl := HR.out r
      have HSZ : Hid (w.heap.size ≤ wr.heap.size) := hbel.size
      have HBL := Lib.hid hbel
      have hvl : Hid (vs.length ≤ 1000000) := by
        show vs.length ≤ 1000000
        rw [hv2, List.length_take]; omega
      have HV := Lib.hid hv1
      have HP := Lib.hid (fun (w1 w' : World) (u v' : Value) (hb : Below wr.heap.size wr w1) (hu : Row w1 wr.heap.size u (b.getD r [])) (hg : w1.grownBy w' v.ownBlock) (hr : RowV w' w.heap.size v' (vs ++ [u])) => BRowA.push hv1 hv2 hv3 hv4 hb hu hbel.size hg hr)
      obtain ⟨L, hL⟩ : ∃ z, z = b.getD r [] := ⟨_, rfl⟩
      rw [← hL] at HN hrl HP hc hld hBn hi
      have r0 : (0 : Int) ≤ (r : Int) := by omega
      have rn : (r : Int) < (n : Int) := by omega
      clear hv1 hv2 hv3 hv4 hbel hL
      go_wp2_with (at_builtin; refine wpList_pushAll rfl (.tmp 13) (.tmp 17) rfl wr.heap.size (.slice none 0 0) [] rfl (Row.nil _ _) B L.length d L rfl ?hn ?hi ?hl ?hb ?hr)
      case hn => exact hBn
      case hi => exact hi
      case hl => simp; omega
      case hb => exact Nat.le_refl _
      case hr =>
        intro v1 w1 hr1 hg1
        have hb1 : Below wr.heap.size wr w1 := below_of_none hg1
        obtain ⟨A1, c1, rfl, _⟩ := hr1.form3 (by omega)
        have HR1 := Lib.hid hr1
        have HB1 := Lib.hid hb1
        have HBA := Lib.hid (hb1.alloc hb1.size (.cells #[.slice A1 L.length c1] 29))
        have hcn := cell_new w1 #[.slice A1 L.length c1] 29 0
        clear hr1 hg1 hb1
        go_wp2_with (at_builtin; refine wpList_pushV rfl (.tmp 12) (.tmp 19) rfl w.heap.size v vs rfl (HV.out.below HBA.out) w1.heap.size 1 A1 L.length c1 rfl hcn hvl.out ?hb ?hr)
        case hb => exact Nat.le_trans HSZ.out HBA.out.size
        case hr =>
          intro v2 w2 hr2 hg2 _
          have HB2 := Lib.hid (HP.out _ _ _ _ HBA.out (HR1.out.below (below_alloc w1 _)) hg2 hr2)
          have HBL2 := Lib.hid (below_grownV (HBL.out.trans (HBA.out.mono HSZ.out)) hg2 (Nat.le_trans HSZ.out HBA.out.size) (HV.out.below HBA.out) (Nat.le_refl _))
          clear hr2 hg2 hcn
          go_wp2
          go_roundw
          case rel => exact ⟨r + 1, _, by omega, by go_num, rfl, by rw [HN.out]; exact HB2.out, HBL2.out⟩
          case measure => simp [intOf]; omega
    · obtain rfl : r = n := by omega
      rw [List.take_of_length_le (by omega)] at hbr
      have HN := Lib.hid hbr
      have HB := Lib.hid hbel
      obtain ⟨vs, hv1, _⟩ := hbr
      obtain ⟨A2, c2, hv2, _⟩ := hv1.form
      generalize vs.length = len at hv2
      subst hv2
      clear hv1 hbel
      go_wp2
      go_ret
      exact ⟨_, rfl, HN.out, HB.out⟩
/-- A bed in memory that may be written. -/
structure GridM (w : World) (gO : Nat) (gr cr : Nat → Nat) (n : Nat) (b : List (List Int)) : Prop where
  hdr : ∀ r, r < n → w.cell? ⟨gO, r, none⟩ = some (.slice (some ⟨gr r, 0, none⟩) n (cr r))
  val : ∀ r c, r < n → c < n → w.cell? ⟨gr r, c, none⟩ = some (.int .i64 (gAt b r c))
  blk : ∀ r, r < n → ∃ cs, w.heap[gr r]? = some (.cells cs 3 (0, 0))
  inj : ∀ r s, r < n → s < n → gr r = gr s → r = s
  cap : ∀ r, r < n → n ≤ cr r
section
variable {w w' : World} {gO n : Nat} {gr cr : Nat → Nat} {b : List (List Int)}
theorem GridM.ne (h : GridM w gO gr cr n b) {r : Nat} (hr : r < n) : gr r ≠ gO := fun e => by
  have h1 := h.val r 0 hr (by omega)
  have h2 := h.hdr 0 (by omega)
  rw [e, h2] at h1
  cases h1
theorem GridM.frozen (h : GridM w gO gr cr n b) {r : Nat} (hr : r < n) (c : Nat) : w.frozen? ⟨gr r, c, none⟩ = false := by
  obtain ⟨cs, e⟩ := h.blk r hr
  simp [World.frozen?, e]
theorem GridM.below (h : GridM w gO gr cr n b) (hb : Below w.heap.size w w') : GridM w' gO gr cr n b :=
  ⟨fun r hr => (hb.cell (lt_of_cell (h.hdr r hr))).trans (h.hdr r hr), fun r c hr hc => (hb.cell (lt_of_cell (h.val r c hr hc))).trans (h.val r c hr hc),
   fun r hr => by
    obtain ⟨cs, e⟩ := h.blk r hr
    exact ⟨cs, (hb.block _ (lt_of_cell (h.val r 0 hr (by omega)))).trans e⟩, h.inj, h.cap⟩
theorem GridM.drewN (h : GridM w gO gr cr n b) (q : Nat) : GridM (w.drewN q) gO gr cr n b := ⟨h.hdr, h.val, h.blk, h.inj, h.cap⟩
/-- A number is put. -/
theorem GridM.set_ (h : GridM w gO gr cr n b) (hs : sqShape n b) {r c : Nat} (hr : r < n) (hc : c < n) (x : Int) : GridM (w.setCell ⟨gr r, c, none⟩ (.int .i64 x)) gO gr cr n (gset b r c x) := by
  refine ⟨fun i hi => (World.cell?_setCell_other w ⟨gr r, c, none⟩ ⟨gO, i, none⟩ _ (fun e => h.ne hr (by injection e))).trans (h.hdr i hi), fun i j hi hj => ?_, fun i hi => ?_, h.inj, h.cap⟩
  · rw [gAt_gset hs hr hc]
    by_cases e : i = r ∧ j = c
    · rw [if_pos e, e.1, e.2]
      exact World.cell?_setCell_same w ⟨gr r, c, none⟩ _ (h.val r c hr hc)
    · rw [if_neg e]
      refine (World.cell?_setCell_other w ⟨gr r, c, none⟩ ⟨gr i, j, none⟩ _ (fun e2 => e ?_)).trans (h.val i j hi hj)
      injection e2 with e3 e4
      exact ⟨(h.inj r i hr hi e3).symm, e4.symm⟩
  · obtain ⟨cs, e⟩ := h.blk i hi
    by_cases e2 : i = r
    · subst e2
      exact ⟨cs.setIfInBounds c (.int .i64 x), by simp [World.setCell, Array.getElem?_modify, e]⟩
    · exact ⟨cs, (Below.heap_setCell w ⟨gr r, c, none⟩ _ (gr i) (fun e3 => e2 (h.inj i r hi hr e3))).trans e⟩
theorem GridM.beds (h : GridM w gO gr cr n b) (hs : sqShape n b) {cO : Nat} (hn : n ≤ 7) (hc : n ≤ cO) : Beds w (some ⟨gO, 0, none⟩) n cO b :=
  ⟨hs.1, by omega, hc, fun e => (by cases e), fun _ => ⟨gO, 0, rfl, fun j hj => ⟨some ⟨gr j, 0, none⟩, cr j, by
    rw [Nat.zero_add, hs.2 j hj]
    exact ⟨h.hdr j hj, h.cap j hj, (fun e => by cases e), ⟨hs.2 j hj, by omega, fun _ => ⟨gr j, 0, rfl, fun c hc => by rw [Nat.zero_add]; exact h.val j c hj hc⟩⟩⟩⟩⟩⟩
/-- The blocks of its rows. -/
def OwnG (n : Nat) (gr : Nat → Nat) (i : Nat) : Prop := ∃ r, r < n ∧ i = gr r
theorem GridM.turned (h : Kept (fun _ i => OwnG n gr i) w w') {r : Nat} (hr : r < n) (c : Nat) (v : Value) : Kept (fun _ i => OwnG n gr i) w (w'.setCell ⟨gr r, c, none⟩ v) :=
  h.trans ⟨rfl, rfl, rfl, by simp [World.setCell], fun i _ hn => Below.heap_setCell w' ⟨gr r, c, none⟩ _ i (fun e => hn ⟨r, hr, e⟩), fun _ _ h => h⟩
end
/-- What was copied may be written. -/
theorem BRowA.grid {w : World} {base n : Nat} {v : Value} {b : List (List Int)} (h : BRowA w base v b) (hs : sqShape n b) (hn : 0 < n) (hn7 : n ≤ 7) : ∃ gO gr cr c, v = .slice (some ⟨gO, 0, none⟩) n c ∧ GridM w gO gr cr n b ∧ n ≤ c ∧ base ≤ gO ∧ ∀ r, r < n → base ≤ gr r := by
  obtain ⟨vs, h1, h2, h3, h4⟩ := h
  have hvl : vs.length = n := h2.trans hs.1
  rcases h1.2 with ⟨_, hn0⟩ | ⟨gO, cap, cur, e, hb, hh, hc, _, _, ht⟩
  · omega
  rw [hvl] at e hc ht
  have hrow : ∀ r, r < n → ∃ g c, vs[r]? = some (.slice (some ⟨g, 0, none⟩) n c) ∧ n ≤ c ∧ base ≤ g ∧ (∃ cs, w.heap[g]? = some (.cells cs 3 (0, 0))) ∧ ∀ j, j < n → w.cell? ⟨g, j, none⟩ = some (.int .i64 (gAt b r j)) := fun r hr => by
    have hv := List.getElem?_eq_getElem (show r < vs.length by omega)
    have hrr := h3 r _ hv
    obtain ⟨A, c, eA, hI, hcc⟩ := hrr.form3 (by rw [hs.2 r hr]; omega)
    rw [hs.2 r hr] at eA hI hcc
    rcases hrr.2 with ⟨_, h0⟩ | ⟨g, cap2, cur2, e2, hb2, hh2, _⟩
    · rw [hs.2 r hr] at h0; omega
    · rw [eA] at e2
      injection e2 with e3 _ e5
      subst e3 e5
      refine ⟨g, c, by rw [hv, eA], hcc, hb2, ⟨cur2, hh2⟩, fun j hj => ?_⟩
      obtain ⟨b2, o2, e6, hc6⟩ := hI.2.2 hn
      injection e6 with e6
      injection e6 with e7 e8
      subst e7 e8
      have := hc6 j hj
      rw [Nat.zero_add] at this
      exact this
  let gr : Nat → Nat := fun r => if h : r < n then (hrow r h).choose else 0
  let cr : Nat → Nat := fun r => if h : r < n then (hrow r h).choose_spec.choose else 0
  have hsp : ∀ r, r < n → vs[r]? = some (.slice (some ⟨gr r, 0, none⟩) n (cr r)) ∧ n ≤ cr r ∧ base ≤ gr r ∧ (∃ cs, w.heap[gr r]? = some (.cells cs 3 (0, 0))) ∧ ∀ j, j < n → w.cell? ⟨gr r, j, none⟩ = some (.int .i64 (gAt b r j)) := fun r hr => by
    have h := (hrow r hr).choose_spec.choose_spec
    simp only [gr, cr, dif_pos hr]
    exact h
  refine ⟨gO, gr, cr, cap, e, ⟨fun r hr => ?_, fun r c hr hc => (hsp r hr).2.2.2.2 c hc, fun r hr => (hsp r hr).2.2.2.1, fun r s hr hs' e2 => ?_, fun r hr => (hsp r hr).2.1⟩, hc, hb, fun r hr => (hsp r hr).2.2.1⟩
  · rw [cell_of_row w gO r cur 29 (0, 0) hh, ← (hsp r hr).1]
    rw [Nat.mul_one] at ht
    rw [← ht, List.getElem?_take_of_lt hr, Array.getElem?_toList]
  · by_cases h5 : r = s
    · exact h5
    · exfalso
      refine h4 r s _ _ h5 (hsp r hr).1 (hsp s hs').1 (gr r) rfl ?_
      rw [e2]; rfl
end Go.Proofs.YtiodednhadnekaaDoor
