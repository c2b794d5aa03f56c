/- Walk: LuckHalves. -/
import Derived.Test.YtfaenbaaadjbbaaW52
import Derived.Test.YtfaenbaaadjbbaaW53
import Derived.Test.YtfaenbaaadjbbaaW54
namespace Go.Proofs.Ytfaenbaaadjbbaa
open Go.RowKit

theorem f14_few (n : Int) (A B : Option Addr) (k c m d : Nat) (said : List (List Int)) (w : World) (hs : Came2 w A k said) (hm : m ≤ 9223372036854775807) (hf : fewB (said.map List.length) m = false) :
    Calls Try.prog 14 #[.int .i64 n, .slice A k c, .slice B m d] w fun e w' => e = .returned (.bool true) ∧ Below w.heap.size w w' := by
  have k15 := Lib.hid (f15_any A B c k m d _ w hs.1 hm)
  rw [hf] at k15
  clear hs hf
  go_enter Try.func14, Try.ntmps14
  go_wp2_with fail
  refine k15.out.mono ?_
  rintro e w' ⟨rfl, rfl⟩
  go_wp2_with fail
  refine (f16_any _).mono ?_
  rintro e w6 ⟨rfl, hb6⟩
  have B6 := Lib.hid hb6
  clear hb6
  go_wp2_with fail
  go_ret
  exact ⟨rfl, B6.out⟩
set_option maxRecDepth 100000 in
set_option maxHeartbeats 8000000 in
/-- dibberlaw05.LuckHalves -/
theorem f14_any (n : Int) (A B : Option Addr) (k c m d : Nat) (said : List (List Int)) (came : List Int) (w : World) (hs : Came4 w A k said) (ho : Came w B m came) (hB : B = none → m = 0 ∧ d = 0) :
    Calls Try.prog 14 #[.int .i64 n, .slice A k c, .slice B m d] w fun e w' => e = .returned (.bool true) ∧ Below w.heap.size w w' := by
  cases hf : fewB (said.map List.length) m
  · exact f14_few n A B k c m d said w hs.1 ho.len hf
  have k15 := Lib.hid (f15_any A B c k m d _ w hs.1.1 ho.len)
  rw [hf] at k15
  have HS := Lib.hid (hs.1.ints hf)
  have hm1100 : m ≤ 1100 := (fewB_facts hf).2.2
  have hk250 : k ≤ 250 := by have := (fewB_facts hf).1; rw [List.length_map, HS.out.len] at this; exact this
  have hrows := few_rows hf
  have HO := Lib.hid (ho.2 (by omega))
  have hml := ho.len
  have HOL := Lib.hid HO.out.len
  have HBN := Lib.hid hB
  have k46 := Lib.hid (f46_any A k c said w HS.out hs.2 hk250 hrows)
  have k41 := Lib.hid (fun W A' B' c' d' h1 h2 => f41_any A' B' n k c' m d' said came W h1 h2)
  have k42 := Lib.hid (fun W A' B' c' d' h1 h2 => f42_any A' B' n k c' m d' said came W h1 h2)
  have k47 := Lib.hid (fun W h1 h2 => f47_any A B n k c m d said came W h1 h2)
  have k48 := Lib.hid (fun W h1 h2 => f48_any A B n k c m d said came W h1 h2)
  generalize tellH n said came = X at *
  generalize tellN n said came = Y at *
  generalize recErr n said came = er at *
  have hq : (er != er) = false := by simp
  clear hs ho hf hB hrows
  go_enter Try.func14, Try.ntmps14
  go_wp2_with fail
  refine k15.out.mono ?_
  rintro e w' ⟨rfl, rfl⟩
  go_wp2_with fail
  refine k46.out.mono ?_
  rintro e w1 ⟨A1, c1, rfl, hi1, hb⟩
  have B1 := Lib.hid hb
  have I1 := Lib.hid hi1
  clear hi1 hb
  go_wp2_with (at_builtin; refine wpList_pushAll rfl (.tmp 21) (.tmp 22) rfl w1.heap.size _ [] rfl (Row.empty w1 w1.heap.size (Nat.le_refl _)) B m d came rfl HBN.out ?hi ?hl ?hb ?hr)
  case hi => exact (HO.out.below B1.out).below (below_alloc _ _)
  case hl => simp; omega
  case hb => simp
  case hr =>
    intro v w2 hr hg
    have hb2 : Below w1.heap.size w1 w2 := below_grown (below_alloc w1 _) hg (by simp) (Row.empty w1 w1.heap.size (Nat.le_refl _)) (Nat.le_refl _)
    have hr' : Row w2 w1.heap.size v came := by simpa using hr
    obtain ⟨A2, c2, rfl, hi2⟩ := hr'.form
    have hi2 := hi2 2000 (by rw [HOL.out]; omega) (by omega)
    rw [HOL.out] at hi2 ⊢
    have B2 := Lib.hid (below_step B1.out hb2)
    have I1 := Lib.hid (I1.out.below hb2)
    have I2 := Lib.hid hi2
    clear hr hr' hg hi2 hb2
    go_wp2_with fail
    refine (k41.out w2 A1 A2 c1 c2 I1.out I2.out).mono ?_
    rintro e w3 ⟨A3, k3, c3, rfl, hi3, hb⟩
    have B3 := Lib.hid (below_step B2.out hb)
    have I1 := Lib.hid (I1.out.below hb)
    have I2 := Lib.hid (I2.out.below hb)
    have I3 := Lib.hid hi3
    have s3 := hi3.small
    clear hi3 hb
    go_wp2_with fail
    refine (k47.out w3 (HS.out.below B3.out) (HO.out.below B3.out)).mono ?_
    rintro e w4 ⟨A4, k4, c4, rfl, hi4, hb⟩
    have B4 := Lib.hid (below_step B3.out hb)
    have I1 := Lib.hid (I1.out.below hb)
    have I2 := Lib.hid (I2.out.below hb)
    have s4 := hi4.small
    have K28 : Hid (Calls Try.prog 28 #[.slice A3 k3 c3, .slice A4 k4 c4] w4 fun e w' => e = .returned (.bool true) ∧ ∃ k, w' = w4.drewN k) := by
      have h := f28_any A3 A4 k3 c3 k4 c4 X X w4 (I3.out.below hb) hi4
      rwa [decide_eq_true rfl] at h
    clear hi4 hb
    go_wp2_with fail
    refine K28.out.mono ?_
    rintro e w5 ⟨rfl, d1, rfl⟩
    have B5 := Lib.hid (below_drewN B4.out d1)
    have I1 := Lib.hid (I1.out.drewN d1)
    have I2 := Lib.hid (I2.out.drewN d1)
    generalize w4.drewN d1 = w5 at *
    go_wp2_with fail
    refine (k42.out w5 A1 A2 c1 c2 I1.out I2.out).mono ?_
    rintro e w6 ⟨A6, k6, c6, rfl, hi6, hb⟩
    have B6 := Lib.hid (below_step B5.out hb)
    have I1 := Lib.hid (I1.out.below hb)
    have I2 := Lib.hid (I2.out.below hb)
    have I6 := Lib.hid hi6
    have s6 := hi6.small
    clear hi6 hb
    go_wp2_with fail
    refine (k48.out w6 (HS.out.below B6.out) (HO.out.below B6.out)).mono ?_
    rintro e w7 ⟨A7, k7, c7, rfl, hi7, hb⟩
    have B7 := Lib.hid (below_step B6.out hb)
    have I1 := Lib.hid (I1.out.below hb)
    have I2 := Lib.hid (I2.out.below hb)
    have s7 := hi7.small
    have K28 : Hid (Calls Try.prog 28 #[.slice A6 k6 c6, .slice A7 k7 c7] w7 fun e w' => e = .returned (.bool true) ∧ ∃ k, w' = w7.drewN k) := by
      have h := f28_any A6 A7 k6 c6 k7 c7 Y Y w7 (I6.out.below hb) hi7
      rwa [decide_eq_true rfl] at h
    clear hi7 hb
    go_wp2_with fail
    refine K28.out.mono ?_
    rintro e w8 ⟨rfl, d2, rfl⟩
    have B8 := Lib.hid (below_drewN B7.out d2)
    have I1 := Lib.hid (I1.out.drewN d2)
    have I2 := Lib.hid (I2.out.drewN d2)
    generalize w7.drewN d2 = w8 at *
    have K28 : Hid (Calls Try.prog 28 #[.slice A2 m c2, .slice B m d] w8 fun e w' => e = .returned (.bool true) ∧ ∃ k, w' = w8.drewN k) := by
      have h := f28_any A2 B m c2 m d came came w8 I2.out (HO.out.below B8.out)
      rwa [decide_eq_true rfl] at h
    go_wp2_with fail
    refine K28.out.mono ?_
    rintro e w9 ⟨rfl, d3, rfl⟩
    have B9 := Lib.hid (below_drewN B8.out d3)
    have I1 := Lib.hid (I1.out.drewN d3)
    generalize w8.drewN d3 = w9 at *
    go_wp2_with fail
    go_loopw [13] (fun i wr => ∃ q : Nat, q ≤ k ∧ i = .int .i64 (q : Int) ∧ ∃ x, wr = w9.drewN x) (fun i _ => k - (intOf i).toNat)
    case atStart => exact ⟨0, by omega, rfl, 0, rfl⟩
    case round => as_aux_lemma =>
      obtain ⟨q, hq, rfl, x, rfl⟩ := hrel
      by_cases hlt : q < k
      · obtain ⟨bo, oo, rfl, Do, eo, hco, hio⟩ := I1.out.at_ hlt
        have hsaid := (HS.out.below B9.out).at_ hlt
        obtain ⟨bs, os, rfl, Ds, es, hcs, his⟩ := hsaid
        have K28 : Hid (∀ y, Calls Try.prog 28 #[.slice Do (said.getD q []).length eo, .slice Ds (said.getD q []).length es] (w9.drewN y) fun e w' => e = .returned (.bool true) ∧ ∃ k, w' = (w9.drewN y).drewN k) := fun y => by
          have h := f28_any Do Ds _ eo _ es (said.getD q []) (said.getD q []) (w9.drewN y) (hio.drewN y) (his.drewN y)
          rwa [decide_eq_true rfl] at h
        have f1 : (w9.drewN x).cell? ⟨bo, oo + q, none⟩ = some (.slice Do (said.getD q []).length eo) := hco
        have f2 : (w9.drewN x).cell? ⟨bs, os + q, none⟩ = some (.slice Ds (said.getD q []).length es) := hcs
        have R6 : Hid (∀ y, (w9.drewN y).cell? ⟨bo, oo + q, none⟩ = some (.slice Do (said.getD q []).length eo) ∧ (w9.drewN y).cell? ⟨bs, os + q, none⟩ = some (.slice Ds (said.getD q []).length es)) := fun y => ⟨hco, hcs⟩
        have hl := hio.small
        have q0 : (0 : Int) ≤ (q : Int) := by omega
        have qk : (q : Int) < (k : Int) := by omega
        generalize (said.getD q []).length = l at *
        clear hio his
        go_wp2_with fail
        go_region_held3 (fun w' => w'.cell? ⟨bo, oo + q, none⟩ = some (.slice Do l eo) ∧ w'.cell? ⟨bs, os + q, none⟩ = some (.slice Ds l es))
          (first | go_keep | exact R6.out _)
          ((go_at_call 28; refine (K28.out _).mono ?_; rintro e w8 ⟨rfl, dd, rfl⟩))
        all_goals
          go_wp2_with fail
          go_roundw
          case rel => exact ⟨q + 1, by omega, by go_num, by first | exact ⟨_, rfl⟩ | exact ⟨_, World.drewN_drewN _ _ _⟩⟩
          case measure => simp [intOf]; omega
      · obtain rfl : q = k := by omega
        have B10 := Lib.hid (below_drewN B9.out x)
        generalize w9.drewN x = w10 at *
        go_wp2_with fail
        refine (f16_any _).mono ?_
        rintro e w11 ⟨rfl, hb11⟩
        have B11 := Lib.hid (below_step B10.out hb11)
        clear hb11
        go_wp2_with fail
        go_ret
        exact ⟨rfl, B11.out⟩
end Go.Proofs.Ytfaenbaaadjbbaa
