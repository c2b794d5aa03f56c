/- Walks: Turned. -/
import Derived.Test.YtiodednhadnekaaDoorW53
import Derived.Deep.DeepCutAuto
namespace Go.Proofs.YtiodednhadnekaaDoor
open Go.RowKit Go.Deep
attribute [local go_sem ↓] Go.wp_at_zero Go.wp_at_succ

/-- The headers of a grid of which r rows are made. -/
def hdrV (n r : Nat) (G : Nat → Nat) : List Value := (List.range n).map fun i => if i < r then Value.slice (some ⟨G i, 0, none⟩) n n else .slice none 0 0
theorem hdrV_len (n r : Nat) (G : Nat → Nat) : (hdrV n r G).length = n := by simp [hdrV]
theorem hdrV_get {n i : Nat} (r : Nat) (G : Nat → Nat) (hi : i < n) : (hdrV n r G)[i]? = some (if i < r then Value.slice (some ⟨G i, 0, none⟩) n n else .slice none 0 0) := by simp [hdrV, hi]
theorem hdrV_zero (n : Nat) (G : Nat → Nat) : hdrV n 0 G = List.replicate n (.slice none 0 0) := by
  apply List.ext_getElem (by simp [hdrV])
  intro i h1 h2
  simp [hdrV]
def putF (G : Nat → Nat) (r g : Nat) : Nat → Nat := fun i => if i = r then g else G i
theorem hdrV_set {n r : Nat} (G : Nat → Nat) (g : Nat) : (hdrV n r G).set r (.slice (some ⟨g, 0, none⟩) n n) = hdrV n (r + 1) (putF G r g) := by
  apply List.ext_getElem (by simp [hdrV])
  intro i h1 h2
  simp only [hdrV, List.getElem_set, List.getElem_map, List.getElem_range, putF]
  by_cases e : r = i
  · subst e; rw [if_pos rfl, if_pos (by omega), if_pos rfl]
  · rw [if_neg e]
    by_cases hi : i < r
    · rw [if_pos hi, if_pos (by omega), if_neg (fun h => e h.symm)]
    · rw [if_neg hi, if_neg (by omega)]
/-- Two grids as they are made. -/
structure MkI (w : World) (m gO gP n r : Nat) (G H : Nat → Nat) : Prop where
  o : OwnV w gO (hdrV n r G)
  p : OwnV w gP (hdrV n r H)
  g : ∀ j, j < r → Own w (G j) (List.replicate n 0) ∧ m ≤ G j
  h : ∀ j, j < r → Own w (H j) (List.replicate n 0) ∧ m ≤ H j
  gg : ∀ i j, i < r → j < r → i ≠ j → G i ≠ G j
  hh : ∀ i j, i < r → j < r → i ≠ j → H i ≠ H j
  gh : ∀ i j, i < r → j < r → G i ≠ H j
  lo : gO < m
  lp : gP < m
  ne : gO ≠ gP
theorem MkI.next {w w' : World} {m gO gP n r g h : Nat} {G H : Nat → Nat} (k : MkI w m gO gP n r G H) (hm : m ≤ w.heap.size) (hb : Below w.heap.size w w') (hg : Own w' g (List.replicate n 0)) (hh : Own w' h (List.replicate n 0)) (lg : w.heap.size ≤ g) (lh : w.heap.size ≤ h) (hne : g ≠ h) :
    MkI ((w'.setCell ⟨gO, r, none⟩ (.slice (some ⟨g, 0, none⟩) n n)).setCell ⟨gP, r, none⟩ (.slice (some ⟨h, 0, none⟩) n n)) m gO gP n (r + 1) (putF G r g) (putF H r h) := by
  have o1 := (k.o.below hb).set_ r (v := .slice (some ⟨g, 0, none⟩) n n) ⟨_, _, _, rfl⟩
  have p1 := (k.p.below hb).far (p := ⟨gO, r, none⟩) k.ne.symm (.slice (some ⟨g, 0, none⟩) n n)
  have o2 := o1.far (p := ⟨gP, r, none⟩) k.ne (.slice (some ⟨h, 0, none⟩) n n)
  have p2 := p1.set_ r (v := .slice (some ⟨h, 0, none⟩) n n) ⟨_, _, _, rfl⟩
  rw [hdrV_set] at o2 p2
  have far : ∀ i, m ≤ i → Own w' i (List.replicate n 0) → Own ((w'.setCell ⟨gO, r, none⟩ (.slice (some ⟨g, 0, none⟩) n n)).setCell ⟨gP, r, none⟩ (.slice (some ⟨h, 0, none⟩) n n)) i (List.replicate n 0) := fun i hi ho => (ho.far (p := ⟨gO, r, none⟩) (by show i ≠ gO; have := k.lo; omega) _).far (p := ⟨gP, r, none⟩) (by show i ≠ gP; have := k.lp; omega) _
  have gl : ∀ j, j < r → G j < w.heap.size := fun j hj => (k.g j hj).1.lt
  have hl : ∀ j, j < r → H j < w.heap.size := fun j hj => (k.h j hj).1.lt
  refine ⟨o2, p2, fun j hj => ?_, fun j hj => ?_, fun i j hi hj hij => ?_, fun i j hi hj hij => ?_, fun i j hi hj => ?_, k.lo, k.lp, k.ne⟩
  · unfold putF
    by_cases e : j = r
    · rw [if_pos e]; exact ⟨far g (by omega) hg, by omega⟩
    · rw [if_neg e]; have := k.g j (by omega); exact ⟨far _ this.2 (this.1.below' hb), this.2⟩
  · unfold putF
    by_cases e : j = r
    · rw [if_pos e]; exact ⟨far h (by omega) hh, by omega⟩
    · rw [if_neg e]; have := k.h j (by omega); exact ⟨far _ this.2 (this.1.below' hb), this.2⟩
  · unfold putF
    by_cases e : i = r
    · rw [if_pos e, if_neg (by omega)]; have := gl j (by omega); omega
    · rw [if_neg e]
      by_cases e2 : j = r
      · rw [if_pos e2]; have := gl i (by omega); omega
      · rw [if_neg e2]; exact k.gg i j (by omega) (by omega) hij
  · unfold putF
    by_cases e : i = r
    · rw [if_pos e, if_neg (by omega)]; have := hl j (by omega); omega
    · rw [if_neg e]
      by_cases e2 : j = r
      · rw [if_pos e2]; have := hl i (by omega); omega
      · rw [if_neg e2]; exact k.hh i j (by omega) (by omega) hij
  · unfold putF
    by_cases e : i = r
    · rw [if_pos e]
      by_cases e2 : j = r
      · rw [if_pos e2]; exact hne
      · rw [if_neg e2]; have := hl j (by omega); omega
    · rw [if_neg e]
      by_cases e2 : j = r
      · rw [if_pos e2]; have := gl i (by omega); omega
      · rw [if_neg e2]; exact k.gh i j (by omega) (by omega)
theorem MkI.drewN {w : World} {m gO gP n r : Nat} {G H : Nat → Nat} (k : MkI w m gO gP n r G H) (q : Nat) : MkI (w.drewN q) m gO gP n r G H := ⟨k.o, k.p, k.g, k.h, k.gg, k.hh, k.gh, k.lo, k.lp, k.ne⟩
theorem MkI.start {w : World} {m gO gP n : Nat} (ho : OwnV w gO (List.replicate n (.slice none 0 0))) (hp : OwnV w gP (List.replicate n (.slice none 0 0))) (lo : gO < m) (lp : gP < m) (ne : gO ≠ gP) : MkI w m gO gP n 0 (fun _ => 0) (fun _ => 0) :=
  ⟨by rw [hdrV_zero]; exact ho, by rw [hdrV_zero]; exact hp, fun j hj => absurd hj (by omega), fun j hj => absurd hj (by omega), fun i j hi => absurd hi (by omega), fun i j hi => absurd hi (by omega), fun i j hi => absurd hi (by omega), lo, lp, ne⟩
def zeroG (n : Nat) : List (List Int) := List.replicate n (List.replicate n 0)
theorem zeroG_shape (n : Nat) : sqShape n (zeroG n) := ⟨by simp [zeroG], fun r hr => by simp [zeroG, List.getD_eq_getElem?_getD, hr]⟩
theorem zeroG_at {n r c : Nat} (hr : r < n) (hc : c < n) : gAt (zeroG n) r c = 0 := by simp [gAt, zeroG, List.getD_eq_getElem?_getD, hr, hc]
theorem own_grid {w : World} {gO n : Nat} {G : Nat → Nat} (ho : OwnV w gO (hdrV n n G)) (hg : ∀ j, j < n → Own w (G j) (List.replicate n 0)) (gg : ∀ i j, i < n → j < n → i ≠ j → G i ≠ G j) : GridM w gO G (fun _ => n) n (zeroG n) := by
  refine ⟨fun r hr => ?_, fun r c hr hc => ?_, fun r hr => ⟨_, hg r hr⟩, fun r s hr hs e => ?_, fun r _ => Nat.le_refl _⟩
  · rw [ho.cell, hdrV_get n G hr, if_pos hr]
  · have := (hg r hr).cell c (by simpa using hc)
    rw [zeroG_at hr hc, this]
    simp [List.getD_eq_getElem?_getD, hc]
  · rcases Decidable.em (r = s) with h | h
    · exact h
    · exact absurd e (gg r s hr hs h)
theorem MkI.two {w : World} {m base gO gP n : Nat} {G H : Nat → Nat} (k : MkI w m gO gP n n G H) (hb : base ≤ m) : TwoG w base gO gP n G (fun _ => n) H (fun _ => n) (zeroG n) (zeroG n) :=
  ⟨own_grid k.o (fun j hj => (k.g j hj).1) k.gg, own_grid k.p (fun j hj => (k.h j hj).1) k.hh, fun r hr => Nat.le_trans hb (k.g r hr).2, fun r hr => Nat.le_trans hb (k.h r hr).2, k.gh, fun r hr e => by have := (k.g r hr).2; have := k.lp; omega, fun r hr e => by have := (k.h r hr).2; have := k.lo; omega⟩
theorem MkI.spot {w : World} {m gO gP n r : Nat} {G H : Nat → Nat} (k : MkI w m gO gP n r G H) (hr : r < n) : ∀ W, Below w.heap.size w W → (∃ u, W.cell? ⟨gO, r, none⟩ = some u) ∧ W.frozen? ⟨gO, r, none⟩ = false ∧ (∃ u, W.cell? ⟨gP, r, none⟩ = some u) ∧ W.frozen? ⟨gP, r, none⟩ = false := fun W hb =>
  ⟨⟨_, by rw [(k.o.below hb).cell, hdrV_get r G hr]⟩, (k.o.below hb).frozen r, ⟨_, by rw [(k.p.below hb).cell, hdrV_get r H hr]⟩, (k.p.below hb).frozen r⟩
theorem two_made (w : World) (n : Nat) : OwnV (((w.alloc (.cells (Array.replicate n (Value.slice none 0 0)) 29)).alloc (.cells (Array.replicate n (Value.slice none 0 0)) 29)).drew) w.heap.size (List.replicate n (.slice none 0 0)) ∧ OwnV (((w.alloc (.cells (Array.replicate n (Value.slice none 0 0)) 29)).alloc (.cells (Array.replicate n (Value.slice none 0 0)) 29)).drew) (w.heap.size + 1) (List.replicate n (.slice none 0 0)) := by
  rw [← List.toArray_replicate]
  have h1 := OwnV.made w n
  have s1 : (w.alloc (.cells (List.replicate n (Value.slice none 0 0)).toArray 29)).heap.size = w.heap.size + 1 := by simp
  generalize w.alloc (.cells (List.replicate n (Value.slice none 0 0)).toArray 29) = w1 at *
  have h2 := OwnV.made w1 n
  rw [s1] at h2
  exact ⟨(h1.below (below_alloc w1 _)).drewN 1, h2.drewN 1⟩
theorem two_ints (w : World) (n : Nat) : Own (((w.alloc (.cells ((List.replicate n (0 : Int)).map (Value.int .i64)).toArray 3)).alloc (.cells ((List.replicate n (0 : Int)).map (Value.int .i64)).toArray 3))) w.heap.size (List.replicate n 0) ∧ Own (((w.alloc (.cells ((List.replicate n (0 : Int)).map (Value.int .i64)).toArray 3)).alloc (.cells ((List.replicate n (0 : Int)).map (Value.int .i64)).toArray 3))) (w.heap.size + 1) (List.replicate n 0) := by
  have h1 := Own.made w n
  have s1 : (w.alloc (.cells ((List.replicate n (0 : Int)).map (Value.int .i64)).toArray 3)).heap.size = w.heap.size + 1 := by simp
  generalize w.alloc (.cells ((List.replicate n (0 : Int)).map (Value.int .i64)).toArray 3) = w1 at *
  have h2 := Own.made w1 n
  rw [s1] at h2
  exact ⟨h1.below' (below_alloc w1 _), h2⟩
set_option maxRecDepth 100000 in
set_option maxHeartbeats 8000000 in
/-- bed.Turned -/
theorem f43_any (A : Option Addr) (n c : Nat) (b : List (List Int)) (w : World) (hs : Beds w A n c b) :
    Calls Tryd.prog 43 #[.slice A n c] w fun e w' => ∃ A1 k1 c1 A2 k2 c2, e = .returned (.tuple #[.slice A1 k1 c1, .slice A2 k2 c2, .int .i64 (trE b)]) ∧ Beds w' A1 k1 c1 (tuX b) ∧ Beds w' A2 k2 c2 (tuY b) ∧ Below w.heap.size w w' := by
  have K60 := Lib.hid (f60_any A n c b w hs)
  cases hf : fullB b
  · rw [hf] at K60
    have HE : Hid (trE b = 2 ∧ tuX b = [] ∧ tuY b = []) := by unfold trE tuX tuY; rw [hf]; exact ⟨rfl, rfl, rfl⟩
    clear hs hf
    go_enter Tryd.func43, Tryd.ntmps43
    go_wp2_with fail
    refine K60.out.mono ?_
    rintro e w1 ⟨rfl, hb⟩
    have HB := Lib.hid hb
    clear hb
    go_wp2
    refine bodyPost_ret (v := .tuple #[.slice none 0 0, .slice none 0 0, .int .i64 2]) (by simp [results, Tryd.results43, go_sem]) rfl ?_
    exact ⟨none, 0, 0, none, 0, 0, by rw [HE.out.1], by rw [HE.out.2.1]; exact Beds.nil _, by rw [HE.out.2.2]; exact Beds.nil _, HB.out⟩
  · rw [hf] at K60
    obtain ⟨hn1, hn7, hfull⟩ := fullB_iff.1 hf
    have hbl := hs.len
    rw [hbl] at hn1 hn7 hfull
    have HE : Hid (trE b = 0 ∧ tuX b = tcL b n ∧ tuY b = txL b n) := by unfold trE tuX tuY; rw [hf, hbl]; exact ⟨rfl, rfl, rfl⟩
    have HROW : Hid (∀ i, i < n → (b.getD i []).length = n) := hfull.shape.2
    have HF := Lib.hid hfull
    have HS := Lib.hid hs
    have hmk := make_slices n (by omega)
    have hmi := make_ints n (by omega)
    obtain ⟨g0, o0, hA0, _⟩ := hs.at_ hn1
    subst hA0
    clear hf hs hfull
    go_enter Tryd.func43, Tryd.ntmps43
    go_wp2_with fail
    refine K60.out.mono ?_
    rintro e w1 ⟨rfl, hb⟩
    have HB := Lib.hid hb
    clear hb K60
    go_upto_region 4 with fail
    go_cut [6, 7] (fun s6 s7 wx => ∃ gO gP : Nat, s6 = .slice (some ⟨gO, 0, none⟩) n n ∧ s7 = .slice (some ⟨gP, 0, none⟩) n n ∧ OwnV wx gO (List.replicate n (.slice none 0 0)) ∧ OwnV wx gP (List.replicate n (.slice none 0 0)) ∧ gO ≠ gP ∧ w.heap.size ≤ gO ∧ w.heap.size ≤ gP ∧ Below w.heap.size w wx)
    case first =>
      have HB1 : Hid (Below w.heap.size w (((w1.alloc (.cells (Array.replicate n (Value.slice none 0 0)) 29)).alloc (.cells (Array.replicate n (Value.slice none 0 0)) 29)).drew)) := Lib.hid (below_drewN ((HB.out.alloc HB.out.size _).alloc (Nat.le_trans HB.out.size (below_alloc w1 _).size) _) 1)
      have HTM := Lib.hid (two_made w1 n)
      have hsz1 : w.heap.size ≤ w1.heap.size := HB.out.size
      go_region_held3 (fun _ => True) (trivial) (fail)
      all_goals
        go_wp2_with fail
        go_meet
        first
          | exact ⟨w1.heap.size, w1.heap.size + 1, rfl, rfl, HTM.out.1, HTM.out.2, by omega, hsz1, by omega, HB1.out⟩
          | exact ⟨w1.heap.size + 1, w1.heap.size, rfl, rfl, HTM.out.2, HTM.out.1, by omega, by omega, hsz1, HB1.out⟩
    case rest =>
      obtain ⟨gO, gP, rfl, rfl, hO, hP, hne, hO2, hP2, hbel⟩ := hcut
      have M0 : Hid (MkI wc wc.heap.size gO gP n 0 (fun _ => 0) (fun _ => 0)) := Lib.hid (MkI.start hO hP hO.lt hP.lt hne)
      have HBC := Lib.hid hbel
      have HM : Hid (w.heap.size ≤ wc.heap.size) := hbel.size
      clear hO hP hbel HB
      go_wp2
      go_loopw [23] (fun ri wr => ∃ (r : Nat) (G H : Nat → Nat), r ≤ n ∧ ri = .int .i64 (r : Int) ∧ MkI wr wc.heap.size gO gP n r G H ∧ wc.heap.size ≤ wr.heap.size ∧ Below w.heap.size w wr) (fun ri _ => n - (intOf ri).toNat)
      case atStart => exact ⟨0, _, _, by omega, rfl, M0.out, Nat.le_refl _, HBC.out⟩
      case round => as_aux_lemma =>
        obtain ⟨r, G, H, hr, rfl, hM, hsz, hB⟩ := hrel
        by_cases hrn : r < n
        · have r0 : (0 : Int) ≤ (r : Int) := by omega
          have rn : (r : Int) < (n : Int) := by omega
          have HM1 := Lib.hid hM
          have HB1 := Lib.hid hB
          obtain ⟨⟨v1, hv1⟩, hz1, ⟨v2, hv2⟩, hz2⟩ := hM.spot hrn wr (Below.refl _ _)
          obtain ⟨Z, hZ⟩ : ∃ z, z = Obj.cells ((List.replicate n (0 : Int)).map (Value.int .i64)).toArray 3 := ⟨_, rfl⟩
          rw [← hZ] at hmi
          have HTI := Lib.hid (two_ints wr n)
          rw [← hZ] at HTI
          obtain ⟨⟨v3, hv3⟩, hz3, ⟨v4, hv4⟩, hz4⟩ := hM.spot hrn (wr.alloc Z) (below_alloc wr Z)
          obtain ⟨⟨v5, hv5⟩, hz5, ⟨v6, hv6⟩, hz6⟩ := hM.spot hrn ((wr.alloc Z).alloc Z) (below_alloc2 wr Z Z)
          have HNE := hM.ne
          have hlp : gP < (wr.alloc Z).heap.size := lt_of_cell hv4
          have hbk : (((wr.alloc Z).setCell ⟨gO, r, none⟩ (.slice (some ⟨wr.heap.size, 0, none⟩) n n)).alloc Z).heap[gP]? = (wr.alloc Z).heap[gP]? := (Below.heap_alloc _ Z gP (by simpa using hlp)).trans (Below.heap_setCell _ ⟨gO, r, none⟩ _ gP HNE.symm)
          have hv7 := (World.cell?_of_block (a := ⟨gP, r, none⟩) hbk).trans hv4
          have hz7 := (World.frozen?_of_block (a := ⟨gP, r, none⟩) hbk).trans hz4
          have HX1 := Lib.hid ((hM.next hsz (below_alloc2 wr Z Z) HTI.out.1 HTI.out.2 (Nat.le_refl _) (Nat.le_succ _) (Nat.succ_ne_self _).symm).drewN 1)
          have HX2 := Lib.hid ((hM.next hsz (below_alloc2 wr Z Z) HTI.out.2 HTI.out.1 (Nat.le_succ _) (Nat.le_refl _) (Nat.succ_ne_self _)).drewN 1)
          have HBX : Hid (∀ u v, Below w.heap.size w ((((wr.alloc Z).alloc Z).setCell ⟨gO, r, none⟩ u).setCell ⟨gP, r, none⟩ v).drew ∧ wc.heap.size ≤ ((((wr.alloc Z).alloc Z).setCell ⟨gO, r, none⟩ u).setCell ⟨gP, r, none⟩ v).drew.heap.size) := Lib.hid fun u v => ⟨below_drewN (((((hB.alloc hB.size Z).alloc (Nat.le_trans hB.size (below_alloc wr Z).size) Z).setCell (by exact hO2) _).setCell (by exact hP2) _)) 1, by
            have : ((((wr.alloc Z).alloc Z).setCell ⟨gO, r, none⟩ u).setCell ⟨gP, r, none⟩ v).drew.heap.size = wr.heap.size + 1 + 1 := by simp
            omega⟩
          have HSW : Hid (∀ u, ((wr.alloc Z).setCell ⟨gO, r, none⟩ u).alloc Z = ((wr.alloc Z).alloc Z).setCell ⟨gO, r, none⟩ u) := Lib.hid fun u => (World.setCell_alloc_past (w := wr.alloc Z) Z gO r u (lt_of_cell hv3)).symm
          clear hZ hlp hbk
          clear hM hB
          go_wp2_with fail
          go_region_held3 (fun _ => True) (trivial) (fail)
          all_goals
            try rw [HSW.out]
            go_wp2
            go_roundw
            case rel =>
              first
                | exact ⟨r + 1, _, _, by omega, by go_num, HX1.out, (HBX.out _ _).2, (HBX.out _ _).1⟩
                | exact ⟨r + 1, _, _, by omega, by go_num, HX2.out, (HBX.out _ _).2, (HBX.out _ _).1⟩
            case measure => simp [intOf]; omega
        · obtain rfl : r = n := by omega
          have HT : Hid (TwoG wr w.heap.size gO gP r G (fun _ => r) H (fun _ => r) (zeroG r) (zeroG r)) := Lib.hid (hM.two HM.out)
          have HB3 := Lib.hid hB
          clear hM hB
          go_wp2
          go_loopw [39] (fun ri wr => ∃ (k : Nat) (X Y : List (List Int)), k ≤ r ∧ ri = .int .i64 (k : Int) ∧ TurnI r b X Y k 0 ∧ TwoG wr w.heap.size gO gP r G (fun _ => r) H (fun _ => r) X Y ∧ Below w.heap.size w wr) (fun ri _ => r - (intOf ri).toNat)
          case atStart => exact ⟨0, _, _, by omega, rfl, TurnI.zero (zeroG_shape r) (zeroG_shape r), HT.out, HB3.out⟩
          case round => as_aux_lemma =>
            obtain ⟨k, X, Y, hk, rfl, hT, hG, hbel⟩ := hrel
            by_cases hkn : k < r
            · obtain ⟨gi, oi, eAi, Bi, di, hci, _, _, hIi⟩ := (HS.out.below hbel).at_ hkn
              injection eAi with eAi
              injection eAi with e1 e2
              subst e1 e2
              rw [HROW.out k hkn] at hci hIi
              obtain ⟨g1, p1, rfl, _⟩ := hIi.at_ (show 0 < r by omega)
              have HT1 := Lib.hid hT
              have HG1 := Lib.hid hG
              have HBL := Lib.hid hbel
              have HII : Hid (∀ W, Below w.heap.size w W → Ints W (some ⟨g1, p1, none⟩) r (b.getD k [])) := Lib.hid fun W h => by
                have hlt : g1 < w.heap.size := by
                  obtain ⟨g9, o9, e9, B9, d9, hc9, _, _, hI9⟩ := HS.out.at_ hkn
                  injection e9 with e9
                  injection e9 with e1 e2
                  subst e1 e2
                  rw [HROW.out k hkn] at hc9 hI9
                  have h1 := (hbel.cell (lt_of_cell hc9)).trans hc9
                  rw [hci] at h1
                  injection h1 with h1
                  injection h1 with h1
                  subst h1
                  obtain ⟨g7, o7, e7, hc7⟩ := hI9.at_ (show 0 < r by omega)
                  injection e7 with e7
                  injection e7 with e1 e2
                  subst e1 e2
                  exact lt_of_cell hc7
                refine ⟨hIi.1, hIi.2.1, fun hn => ?_⟩
                obtain ⟨b9, o9, e9, h9⟩ := hIi.2.2 hn
                injection e9 with e9
                injection e9 with e1 e2
                subst e1 e2
                refine ⟨_, _, rfl, fun j hj => ?_⟩
                exact (h.cell (p := ⟨g1, p1 + j, none⟩) hlt).trans ((hbel.cell (p := ⟨g1, p1 + j, none⟩) hlt).symm.trans (h9 j hj))
              have r0 : (0 : Int) ≤ (k : Int) := by omega
              have rn : (k : Int) < (r : Int) := by omega
              clear hT hG hbel hIi
              go_wp2
              go_loopw [46] (fun ci wr => ∃ (c : Nat) (X Y : List (List Int)), c ≤ r ∧ ci = .int .i64 (c : Int) ∧ TurnI r b X Y k c ∧ TwoG wr w.heap.size gO gP r G (fun _ => r) H (fun _ => r) X Y ∧ Below w.heap.size w wr) (fun ci _ => r - (intOf ci).toNat)
              case atStart => exact ⟨0, X, Y, by omega, rfl, HT1.out, HG1.out, HBL.out⟩
              case round => as_aux_lemma =>
                obtain ⟨c, X, Y, hc, rfl, hT, hG, hbel⟩ := hrel
                by_cases hcn : c < r
                · obtain ⟨g2, p2, e2, hc1⟩ := (HII.out _ hbel).at_ hcn
                  injection e2 with e2
                  injection e2 with e1 e2
                  subst e1 e2
                  have hl := HF.out.lo k c hkn hcn
                  obtain ⟨x, hx⟩ := nat_of (gAt b k c) hl.1
                  have hxn : x < r := by omega
                  have hST := Lib.hid (hT.step HF.out hkn hcn hx)
                  have hx2 : (b.getD k []).getD c 0 = (x : Int) := hx
                  rw [hx2] at hc1
                  have X1 := hG.x.hdr c hcn
                  have X2 := hG.x.val c k hcn hkn
                  have X3 := hG.x.frozen hcn k
                  obtain ⟨w4, hw4⟩ : ∃ z, z = wr.setCell ⟨G c, k, none⟩ (.int .i64 (x : Int)) := ⟨_, rfl⟩
                  have hG4 := hG.setX hT.1 hcn hkn (x : Int)
                  rw [← hw4] at hG4
                  have hB4 : Below w.heap.size w w4 := by rw [hw4]; exact below_set hbel (hG.bx c hcn) _
                  have Y1 := hG4.y.hdr x hxn
                  have Y2 := hG4.y.val x k hxn hkn
                  have Y3 := hG4.y.frozen hxn k
                  have HG6 := Lib.hid (hG4.setY hT.2.1 hxn hkn (c : Int))
                  have HB6 := Lib.hid (below_set hB4 (hG4.by_ x hxn) (a := ⟨H x, k, none⟩) (.int .i64 (c : Int)))
                  have k0 : (0 : Int) ≤ (c : Int) := by omega
                  have kn : (c : Int) < (r : Int) := by omega
                  have x0 : (0 : Int) ≤ (x : Int) := by omega
                  have xn : (x : Int) < (r : Int) := by omega
                  generalize gAt X c k = u1 at *
                  generalize gAt Y x k = u2 at *
                  clear hl hx hx2 hT hG hbel hG4 hB4
                  go_upto_region 17 with (fail)
                  rw [← hw4]
                  clear hw4
                  go_wp2
                  go_roundw
                  case rel => exact ⟨c + 1, _, _, by omega, by go_num, hST.out, HG6.out, HB6.out⟩
                  case measure => simp [intOf]; omega
                · obtain rfl : c = r := by omega
                  have HT2 := Lib.hid hT.row
                  have HG2 := Lib.hid hG
                  have HB2 := Lib.hid hbel
                  clear hT hG hbel
                  go_wp2
                  go_roundw
                  case rel => exact ⟨k + 1, X, Y, by omega, by go_num, HT2.out, HG2.out, HB2.out⟩
                  case measure => simp [intOf]; omega
            · obtain rfl : k = r := by omega
              obtain ⟨eX, eY⟩ := hT.done HF.out
              have HX : Hid (Beds wr (some ⟨gO, 0, none⟩) k k (tuX b)) := Lib.hid (by rw [HE.out.2.1, ← eX]; exact hG.x.beds hT.1 hn7 (Nat.le_refl _))
              have HY : Hid (Beds wr (some ⟨gP, 0, none⟩) k k (tuY b)) := Lib.hid (by rw [HE.out.2.2, ← eY]; exact hG.y.beds hT.2.1 hn7 (Nat.le_refl _))
              have HB2 := Lib.hid hbel
              clear hT hG hbel eX eY
              go_wp2
              refine bodyPost_ret (v := .tuple #[.slice (some ⟨gO, 0, none⟩) k k, .slice (some ⟨gP, 0, none⟩) k k, .int .i64 0]) (by simp [results, Tryd.results43, go_sem]) rfl ?_
              exact ⟨_, _, _, _, _, _, by rw [HE.out.1], HX.out, HY.out, HB2.out⟩
end Go.Proofs.YtiodednhadnekaaDoor
