/- Walks: the specification's Turned. -/
import Derived.Test.YtiodednhadnekaaDoorPlain8
import Derived.StillTailTactics
import Derived.Deep.Cut
namespace Go.Proofs.YtiodednhadnekaaDoor
open Go.RowKit Go.Deep
attribute [local go_sem ↓] Go.wp_at_zero Go.wp_at_succ

theorem GridM.far {w : World} {gO n : Nat} {gr cr : Nat → Nat} {b : List (List Int)} (h : GridM w gO gr cr n b) {a : Addr} (h1 : a.block ≠ gO) (h2 : ∀ r, r < n → a.block ≠ gr r) (u : Value) : GridM (w.setCell a u) gO gr cr n b :=
  ⟨fun i hi => (World.cell?_setCell_other w a ⟨gO, i, none⟩ _ (fun e => h1 (by rw [e]))).trans (h.hdr i hi), fun r c hr hc => (World.cell?_setCell_other w a ⟨gr r, c, none⟩ _ (fun e => h2 r hr (by rw [e]))).trans (h.val r c hr hc),
   fun r hr => by
    obtain ⟨cs, e⟩ := h.blk r hr
    exact ⟨cs, (Below.heap_setCell w a u (gr r) (fun e => h2 r hr e.symm)).trans e⟩, h.inj, h.cap⟩
/-- Two grids that do not share memory. -/
structure TwoG (w : World) (base gO gP n : Nat) (gr cr hr dr : Nat → Nat) (X Y : List (List Int)) : Prop where
  x : GridM w gO gr cr n X
  y : GridM w gP hr dr n Y
  bx : ∀ r, r < n → base ≤ gr r
  by_ : ∀ r, r < n → base ≤ hr r
  rr : ∀ r s, r < n → s < n → gr r ≠ hr s
  ro : ∀ r, r < n → gr r ≠ gP
  so : ∀ r, r < n → hr r ≠ gO
theorem TwoG.setX {w : World} {base gO gP n : Nat} {gr cr hr dr : Nat → Nat} {X Y : List (List Int)} (h : TwoG w base gO gP n gr cr hr dr X Y) (hX : sqShape n X) {r c : Nat} (h1 : r < n) (h2 : c < n) (x : Int) : TwoG (w.setCell ⟨gr r, c, none⟩ (.int .i64 x)) base gO gP n gr cr hr dr (gset X r c x) Y :=
  ⟨h.x.set_ hX h1 h2 x, h.y.far (a := ⟨gr r, c, none⟩) (h.ro r h1) (fun s hs => h.rr r s h1 hs) _, h.bx, h.by_, h.rr, h.ro, h.so⟩
theorem TwoG.setY {w : World} {base gO gP n : Nat} {gr cr hr dr : Nat → Nat} {X Y : List (List Int)} (h : TwoG w base gO gP n gr cr hr dr X Y) (hY : sqShape n Y) {r c : Nat} (h1 : r < n) (h2 : c < n) (x : Int) : TwoG (w.setCell ⟨hr r, c, none⟩ (.int .i64 x)) base gO gP n gr cr hr dr X (gset Y r c x) :=
  ⟨h.x.far (a := ⟨hr r, c, none⟩) (h.so r h1) (fun s hs e => h.rr s r hs h1 e.symm) _, h.y.set_ hY h1 h2 x, h.bx, h.by_, h.rr, h.ro, h.so⟩
theorem TwoG.drewN {w : World} {base gO gP n : Nat} {gr cr hr dr : Nat → Nat} {X Y : List (List Int)} (h : TwoG w base gO gP n gr cr hr dr X Y) (q : Nat) : TwoG (w.drewN q) base gO gP n gr cr hr dr X Y := ⟨h.x.drewN q, h.y.drewN q, h.bx, h.by_, h.rr, h.ro, h.so⟩
theorem below_set {base : Nat} {w w' : World} (h : Below base w w') {a : Addr} (ha : base ≤ a.block) (u : Value) : Below base w (w'.setCell a u) := h.setCell ha u
set_option maxRecDepth 100000 in
set_option maxHeartbeats 8000000 in
/-- dibberref01.Turned -/
theorem f44_any (A : Option Addr) (n c : Nat) (b : List (List Int)) (w : World) (hs : Beds w A n c b) :
    Calls Tryd.prog 44 #[.slice A n c] w fun e w' => ∃ A1 k1 c1 A2 k2 c2, e = .returned (.tuple #[.slice A1 k1 c1, .slice A2 k2 c2, .int .i64 (trE b)]) ∧ Beds w' A1 k1 c1 (tuX b) ∧ Beds w' A2 k2 c2 (tuY b) ∧ Below w.heap.size w w' := by
  have K21 := Lib.hid (f21_any A n c b w hs)
  cases hf : fullB b
  · rw [hf] at K21
    have HE : Hid (trE b = 2 ∧ tuX b = [] ∧ tuY b = []) := by unfold trE tuX tuY; rw [hf]; exact ⟨rfl, rfl, rfl⟩
    clear hs hf
    go_enter Tryd.func44, Tryd.ntmps44
    go_wp2_with fail
    refine K21.out.mono ?_
    rintro e w1 ⟨rfl, rfl⟩
    go_wp2
    refine bodyPost_ret (v := .tuple #[.slice none 0 0, .slice none 0 0, .int .i64 2]) (by simp [results, Tryd.results44, go_sem]) rfl ?_
    exact ⟨none, 0, 0, none, 0, 0, by rw [HE.out.1], by rw [HE.out.2.1]; exact Beds.nil _, by rw [HE.out.2.2]; exact Beds.nil _, Below.refl _ _⟩
  · rw [hf] at K21
    obtain ⟨hn1, hn7, hfull⟩ := fullB_iff.1 hf
    have hbl := hs.len
    rw [hbl] at hn1 hn7 hfull
    have HE : Hid (trE b = 0 ∧ tuX b = tcL b n ∧ tuY b = txL b n) := by unfold trE tuX tuY; rw [hf, hbl]; exact ⟨rfl, rfl, rfl⟩
    have HROW : Hid (∀ i, i < n → (b.getD i []).length = n) := hfull.shape.2
    have hrow : ∀ j, (b.getD j []).length ≤ 1000 := fun j => by
      rcases Nat.lt_or_ge j n with h | h
      · rw [HROW.out j h]; omega
      · rw [List.getD_eq_getElem?_getD, List.getElem?_eq_none (by omega)]; simp
    have HF := Lib.hid hfull
    have HS := Lib.hid hs
    have K24 := Lib.hid (f24_own A n c b w hs hrow (by omega))
    have K24b : Hid (∀ W, Below w.heap.size w W → Calls Tryd.prog 24 #[.slice A n c] W fun e w' => ∃ v, e = .returned v ∧ BRowA w' W.heap.size v b ∧ Below W.heap.size W w') := Lib.hid fun W h => f24_own A n c b W (hs.below h) hrow (by omega)
    obtain ⟨g0, o0, hA0, _⟩ := hs.at_ hn1
    subst hA0
    clear hf hs hfull hrow
    go_enter Tryd.func44, Tryd.ntmps44
    go_wp2_with fail
    refine K21.out.mono ?_
    rintro e w1 ⟨rfl, rfl⟩
    go_wp2_with fail
    refine K24.out.mono ?_
    rintro e w2 ⟨v, rfl, hv, hb2⟩
    obtain ⟨gO, gr, cr, cO, rfl, hg, hcO, hbO, hbr⟩ := hv.grid HF.out.shape hn1 hn7
    have HB2 := Lib.hid hb2
    have HG := Lib.hid hg
    have HBR := Lib.hid hbr
    have HBO := Lib.hid hbO
    clear hv hb2 hg hbO hbr K24 K21
    go_wp2_with fail
    refine (K24b.out w2 HB2.out).mono ?_
    rintro e w3 ⟨v, rfl, hv, hb3⟩
    obtain ⟨gP, hr, dr, cP, rfl, hg3, hcP, hbP, hbr3⟩ := hv.grid HF.out.shape hn1 hn7
    have hsz := HB2.out.size
    have HB3 := Lib.hid (HB2.out.trans (hb3.mono hsz))
    have hlow : ∀ r, r < n → gr r < w2.heap.size := fun r h => lt_of_cell (HG.out.val r 0 h (by omega))
    have hlO : gO < w2.heap.size := lt_of_cell (HG.out.hdr 0 (by omega))
    have HT : Hid (TwoG w3 w.heap.size gO gP n gr cr hr dr b b) := Lib.hid ⟨HG.out.below hb3, hg3, HBR.out, fun r h => Nat.le_trans hsz (hbr3 r h), fun r s h1 h2 e => by have := hlow r h1; have := hbr3 s h2; omega, fun r h e => by have := hlow r h; omega, fun r h e => by have := hbr3 r h; omega⟩
    clear hv hb3 hg3 hbP hbr3 K24b hlow hlO hsz HG HBR HBO HB2
    go_wp2
    go_loopw [7] (fun ri wr => ∃ (r : Nat) (X Y : List (List Int)), r ≤ n ∧ ri = .int .i64 (r : Int) ∧ TurnI n b X Y r 0 ∧ TwoG wr w.heap.size gO gP n gr cr hr dr X Y ∧ Below w.heap.size w wr) (fun ri _ => n - (intOf ri).toNat)
    case atStart => exact ⟨0, b, b, by omega, rfl, TurnI.zero HF.out.shape HF.out.shape, HT.out, HB3.out⟩
    case round => as_aux_lemma =>
      obtain ⟨r, X, Y, hr', rfl, hT, hG, hbel⟩ := hrel
      by_cases hrn : r < n
      · have HT1 := Lib.hid hT
        have HG1 := Lib.hid hG
        have HBL := Lib.hid hbel
        have r0 : (0 : Int) ≤ (r : Int) := by omega
        have rn : (r : Int) < (n : Int) := by omega
        clear hT hG hbel
        go_wp2
        go_loopw [8] (fun ci wr => ∃ (k : Nat) (X Y : List (List Int)), k ≤ n ∧ ci = .int .i64 (k : Int) ∧ TurnI n b X Y r k ∧ TwoG wr w.heap.size gO gP n gr cr hr dr X Y ∧ Below w.heap.size w wr) (fun ci _ => n - (intOf ci).toNat)
        case atStart => exact ⟨0, X, Y, by omega, rfl, HT1.out, HG1.out, HBL.out⟩
        case round => as_aux_lemma =>
          obtain ⟨k, X, Y, hk, rfl, hT, hG, hbel⟩ := hrel
          by_cases hkn : k < n
          · obtain ⟨gi, oi, eAi, Bi, di, hci, _, _, hIi⟩ := (HS.out.below hbel).at_ hrn
            injection eAi with eAi
            injection eAi with e1 e2
            subst e1 e2
            rw [HROW.out r hrn] at hci hIi
            obtain ⟨g1, p1, rfl, hc1⟩ := hIi.at_ hkn
            have hl := HF.out.lo r k hrn hkn
            obtain ⟨x, hx⟩ := nat_of (gAt b r k) hl.1
            have hxn : x < n := by omega
            have hST := Lib.hid (hT.step HF.out hrn hkn hx)
            have hx2 : (b.getD r []).getD k 0 = (x : Int) := hx
            rw [hx2] at hc1
            have X1 := hG.x.hdr k hkn
            have X2 := hG.x.val k r hkn hrn
            have X3 := hG.x.frozen hkn r
            obtain ⟨w4, hw4⟩ : ∃ z, z = wr.setCell ⟨gr k, r, none⟩ (.int .i64 (x : Int)) := ⟨_, rfl⟩
            have hG4 := hG.setX hT.1 hkn hrn (x : Int)
            rw [← hw4] at hG4
            have hB4 : Below w.heap.size w w4 := by rw [hw4]; exact below_set hbel (hG.bx k hkn) _
            have hG5 := hG4.drewN 1
            have hB5 : Below w.heap.size w (w4.drew) := below_drewN hB4 1
            obtain ⟨w5, hw5⟩ : ∃ z, z = w4.drew := ⟨_, rfl⟩
            have e5 : w4.drewN 1 = w5 := hw5.symm
            rw [e5] at hG5
            rw [← hw5] at hB5
            obtain ⟨gi2, oi2, eAi2, Bi2, di2, hci2, _, _, hIi2⟩ := (HS.out.below hB5).at_ hrn
            injection eAi2 with eAi2
            injection eAi2 with e1 e2
            subst e1 e2
            rw [HROW.out r hrn] at hci2 hIi2
            obtain ⟨g2, p2, rfl, hc2⟩ := hIi2.at_ hkn
            rw [hx2] at hc2
            have Y1 := hG5.y.hdr x hxn
            have Y2 := hG5.y.val x r hxn hrn
            have Y3 := hG5.y.frozen hxn r
            have HG6 := Lib.hid (hG5.setY hT.2.1 hxn hrn (k : Int))
            have HB6 := Lib.hid (below_set hB5 (hG5.by_ x hxn) (a := ⟨hr x, r, none⟩) (.int .i64 (k : Int)))
            have k0 : (0 : Int) ≤ (k : Int) := by omega
            have kn : (k : Int) < (n : Int) := by omega
            have x0 : (0 : Int) ≤ (x : Int) := by omega
            have xn : (x : Int) < (n : Int) := by omega
            generalize gAt X k r = u1 at *
            generalize gAt Y x r = u2 at *
            clear hIi hIi2 hl hx hx2 hT hG hbel hG4 hB4 hG5 hB5 e5
            go_wp2
            go_still_tail 13, (by kernel_rfl)
            go_upto_region 11 with (fail)
            rw [← hw4, ← hw5]
            clear hw4 hw5
            go_wp2
            go_roundw
            case rel => exact ⟨k + 1, _, _, by omega, by go_num, hST.out, HG6.out, HB6.out⟩
            case measure => simp [intOf]; omega
          · obtain rfl : k = n := by omega
            have HT2 := Lib.hid hT.row
            have HG2 := Lib.hid hG
            have HB2 := Lib.hid hbel
            clear hT hG hbel
            go_wp2
            go_roundw
            case rel => exact ⟨r + 1, X, Y, by omega, by go_num, HT2.out, HG2.out, HB2.out⟩
            case measure => simp [intOf]; omega
      · obtain rfl : r = n := by omega
        obtain ⟨eX, eY⟩ := hT.done HF.out
        have HX : Hid (Beds wr (some ⟨gO, 0, none⟩) r cO (tuX b)) := Lib.hid (by rw [HE.out.2.1, ← eX]; exact hG.x.beds hT.1 hn7 hcO)
        have HY : Hid (Beds wr (some ⟨gP, 0, none⟩) r cP (tuY b)) := Lib.hid (by rw [HE.out.2.2, ← eY]; exact hG.y.beds hT.2.1 hn7 hcP)
        have HB2 := Lib.hid hbel
        clear hT hG hbel eX eY
        go_wp2
        refine bodyPost_ret (v := .tuple #[.slice (some ⟨gO, 0, none⟩) r cO, .slice (some ⟨gP, 0, none⟩) r cP, .int .i64 0]) (by simp [results, Tryd.results44, go_sem]) rfl ?_
        exact ⟨_, _, _, _, _, _, by rw [HE.out.1], HX.out, HY.out, HB2.out⟩
end Go.Proofs.YtiodednhadnekaaDoor
