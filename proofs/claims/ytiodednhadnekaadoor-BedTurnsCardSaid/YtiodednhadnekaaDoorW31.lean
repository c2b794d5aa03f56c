/- Walks: Copied. -/
import Derived.Test.YtiodednhadnekaaDoorW30
namespace Go.Proofs.YtiodednhadnekaaDoor
open Go.RowKit Go.Deep
attribute [local go_sem ↓] Go.wp_at_zero Go.wp_at_succ

theorem take_next {α : Type} {b : List α} {r : Nat} (d : α) (h : r < b.length) : b.take (r + 1) = b.take r ++ [b.getD r d] := by
  rw [List.take_succ_eq_append_getElem h]
  simp [List.getD_eq_getElem?_getD, h]
set_option maxRecDepth 100000 in
set_option maxHeartbeats 8000000 in
/-- dibberref01.Copied -/
theorem f24_any (A : Option Addr) (n c : Nat) (b : List (List Int)) (w : World) (hs : Beds w A n c b) (hrow : ∀ j, (b.getD j []).length ≤ 1000) (hn : n ≤ 1000) :
    Calls Tryd.prog 24 #[.slice A n c] w fun e w' => ∃ A' c', e = .returned (.slice A' n c') ∧ BedsN w' w.heap.size A' n c' b ∧ Below w.heap.size w w' := by
  have HS := Lib.hid hs
  have hbl := hs.len
  have HR := Lib.hid hrow
  clear hs hrow
  go_enter Tryd.func24, Tryd.ntmps24
  go_wp2
  go_loopw [4, 3] (fun i u wr => ∃ (r : Nat) (v : Value), r ≤ n ∧ i = .int .i64 (r : Int) ∧ v = u ∧ BRow wr w.heap.size v (b.take r) ∧ Below w.heap.size w wr) (fun i _ _ => n - (intOf i).toNat)
  case atStart => exact ⟨0, _, by omega, rfl, rfl, BRow.nil _ _, Below.refl _ _⟩
  case round => as_aux_lemma =>
    obtain ⟨r, v, hr, rfl, rfl, hbr, hbel⟩ := hrel
    by_cases hlt : r < n
    · obtain ⟨vs, hv1, hv2, hv3⟩ := hbr
      obtain ⟨g, o, rfl, B, d, hc, hld, hBn, hi⟩ := (HS.out.below hbel).at_ hlt
      have HN : Hid (b.take (r + 1) = b.take r ++ [b.getD r []]) := take_next [] (by omega)
      have hrl := HR.out r
      have HSZ : Hid (w.heap.size ≤ wr.heap.size) := hbel.size
      have HBL := Lib.hid hbel
      have hvl : Hid (vs.length ≤ 1000000) := by
        show vs.length ≤ 1000000
        rw [hv2, List.length_take]; omega
      have HV := Lib.hid hv1
      have HP := Lib.hid (fun (w1 w' : World) (u v' : Value) (hb : Below wr.heap.size wr w1) (hu : Row w1 w.heap.size u (b.getD r [])) (hg : w1.grownBy w' v.ownBlock) (hr : RowV w' w.heap.size v' (vs ++ [u])) => BRow.push hv1 hv2 hv3 hb hu hg hr)
      obtain ⟨L, hL⟩ : ∃ z, z = b.getD r [] := ⟨_, rfl⟩
      rw [← hL] at HN hrl HP hc hld hBn hi
      have r0 : (0 : Int) ≤ (r : Int) := by omega
      have rn : (r : Int) < (n : Int) := by omega
      clear hv1 hv2 hv3 hbel hL
      go_wp2_with (at_builtin; refine wpList_pushAll rfl (.tmp 13) (.tmp 17) rfl w.heap.size (.slice none 0 0) [] rfl (Row.nil _ _) B L.length d L rfl ?hn ?hi ?hl ?hb ?hr)
      case hn => exact hBn
      case hi => exact hi
      case hl => simp; omega
      case hb => exact HSZ.out
      case hr =>
        intro v1 w1 hr1 hg1
        have hb1 : Below wr.heap.size wr w1 := below_of_none hg1
        obtain ⟨A1, c1, rfl, _⟩ := hr1.form3 (by omega)
        have HR1 := Lib.hid hr1
        have HB1 := Lib.hid hb1
        have HBA := Lib.hid (hb1.alloc hb1.size (.cells #[.slice A1 L.length c1] 29))
        have hcn := cell_new w1 #[.slice A1 L.length c1] 29 0
        clear hr1 hg1 hb1
        go_wp2_with (at_builtin; refine wpList_pushV rfl (.tmp 12) (.tmp 19) rfl w.heap.size v vs rfl (HV.out.below HBA.out) w1.heap.size 1 A1 L.length c1 rfl hcn hvl.out ?hb ?hr)
        case hb => exact Nat.le_trans HSZ.out HBA.out.size
        case hr =>
          intro v2 w2 hr2 hg2 _
          have HB2 := Lib.hid (HP.out _ _ _ _ HBA.out (HR1.out.below (below_alloc w1 _)) hg2 hr2)
          have HBL2 := Lib.hid (below_grownV (HBL.out.trans (HBA.out.mono HSZ.out)) hg2 (Nat.le_trans HSZ.out HBA.out.size) (HV.out.below HBA.out) (Nat.le_refl _))
          clear hr2 hg2 hcn
          go_wp2
          go_roundw
          case rel => exact ⟨r + 1, _, by omega, by go_num, rfl, by rw [HN.out]; exact HB2.out, HBL2.out⟩
          case measure => simp [intOf]; omega
    · obtain rfl : r = n := by omega
      rw [List.take_of_length_le (by omega)] at hbr
      obtain ⟨A2, c2, hv2, hN⟩ := hbr.bedsN (by omega) (fun j => by have := HR.out j; omega)
      rw [hbl] at hv2 hN
      subst hv2
      have HN := Lib.hid hN
      have HB := Lib.hid hbel
      clear hN hbr hbel
      go_wp2
      go_ret
      exact ⟨_, _, rfl, HN.out, HB.out⟩
end Go.Proofs.YtiodednhadnekaaDoor
