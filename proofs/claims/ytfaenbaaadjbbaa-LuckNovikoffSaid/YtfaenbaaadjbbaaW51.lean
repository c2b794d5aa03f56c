/- Walk: LuckLearns. -/
import Derived.Test.YtfaenbaaadjbbaaW50
namespace Go.Proofs.Ytfaenbaaadjbbaa
open Go.RowKit

theorem f43_any (A B : Option Addr) (k c m d : Nat) (R : Int) (pts : List (List Int)) (signs : List Int) (w : World) (hs : IntsS w A k pts) (ho : Ints w B m signs) :
    Calls Try.prog 43 #[.slice A k c, .slice B m d, .int .i64 R] w (SlIE w (pcW pts signs R) (pcM pts signs R) (pcE pts signs R)) := by
  by_cases h : k ≤ 50 ∧ 1 ≤ k ∧ 1 ≤ (pts.getD 0 []).length ∧ (pts.getD 0 []).length ≤ 6 ∧ m = k
  · obtain ⟨h1, h2, h3, h4, rfl⟩ := h
    obtain ⟨b0, o0, rfl, _⟩ := hs.at_ (show 0 < m by omega)
    exact f43_main b0 o0 m c B d R pts signs w hs ho h1 h2 h3 h4
  · exact f43_no A B k c m d R pts signs w hs ho h
theorem f44_any (A B : Option Addr) (k c m d : Nat) (R : Int) (pts : List (List Int)) (signs : List Int) (w : World) (hs : IntsS w A k pts) (ho : Ints w B m signs) :
    Calls Try.prog 44 #[.slice A k c, .slice B m d, .int .i64 R] w (SlIE w (pcW pts signs R) (pcM pts signs R) (pcE pts signs R)) := by
  by_cases h : ptErr pts signs = 0 ∧ 1 ≤ R ∧ R ≤ 1000
  · obtain ⟨h1, h2, h3⟩ := h
    obtain ⟨N, rfl⟩ := nat_of R (by omega)
    obtain ⟨f1, f2, f3, f4, f5, f6, f7⟩ := pts_facts h1
    have hm : m = k := by have := hs.len; have := ho.len; omega
    subst hm
    have hl := hs.len
    obtain ⟨b0, o0, rfl, _⟩ := hs.at_ (show 0 < m by omega)
    exact f44_main b0 o0 m c B d N pts signs w hs ho h1 (by omega) (by omega)
  · exact f44_no A B k c m d R pts signs w hs ho h
set_option maxRecDepth 100000 in
set_option maxHeartbeats 4000000 in
theorem f12_no (A B : Option Addr) (k c m d : Nat) (R : Int) (said : List (List Int)) (w : World) (hs : Came2 w A k said) (hm : m ≤ 9223372036854775807) (h : fewB (said.map List.length) m = false ∨ 100 < k ∨ (100 < R ∧ R ≤ 1000)) :
    Calls Try.prog 12 #[.slice A k c, .slice B m d, .int .i64 R] w fun e w' => e = .returned (.bool true) ∧ Below w.heap.size w w' := by
  have k15 := Lib.hid (f15_any A B c k m d _ w hs.1 hm)
  have hk := hs.1.2.1
  cases hf : fewB (said.map List.length) m
  · rw [hf] at k15
    clear hs hf h
    go_enter Try.func12, Try.ntmps12
    go_wp2_with fail
    refine k15.out.mono ?_
    rintro e w' ⟨rfl, rfl⟩
    go_wp2_with fail
    refine (f16_any _).mono ?_
    rintro e w6 ⟨rfl, hb6⟩
    have B6 := Lib.hid hb6
    clear hb6
    go_wp2_with fail
    go_ret
    exact ⟨rfl, B6.out⟩
  · have h := h.resolve_left (by rw [hf]; decide)
    rw [hf] at k15
    clear hs hf
    by_cases t1 : 100 < k
    · clear h
      go_enter Try.func12, Try.ntmps12
      go_wp2_with fail
      refine k15.out.mono ?_
      rintro e w' ⟨rfl, rfl⟩
      go_wp2_with fail
      refine (f16_any _).mono ?_
      rintro e w6 ⟨rfl, hb6⟩
      have B6 := Lib.hid hb6
      clear hb6
      go_wp2_with fail
      go_ret
      exact ⟨rfl, B6.out⟩
    · obtain ⟨t2, t3⟩ : 100 < R ∧ R ≤ 1000 := by omega
      clear h
      go_enter Try.func12, Try.ntmps12
      go_wp2_with fail
      refine k15.out.mono ?_
      rintro e w' ⟨rfl, rfl⟩
      go_wp2_with fail
      refine (f16_any _).mono ?_
      rintro e w6 ⟨rfl, hb6⟩
      have B6 := Lib.hid hb6
      clear hb6
      go_wp2_with fail
      go_ret
      exact ⟨rfl, B6.out⟩
set_option maxRecDepth 100000 in
set_option maxHeartbeats 4000000 in
/-- dibberlaw05.LuckLearns -/
theorem f12_any (A B : Option Addr) (k c m d : Nat) (R : Int) (said : List (List Int)) (signs : List Int) (w : World) (hs : Came2 w A k said) (ho : Came w B m signs) :
    Calls Try.prog 12 #[.slice A k c, .slice B m d, .int .i64 R] w fun e w' => e = .returned (.bool true) ∧ Below w.heap.size w w' := by
  by_cases h : fewB (said.map List.length) m = false ∨ 100 < k ∨ (100 < R ∧ R ≤ 1000)
  · exact f12_no A B k c m d R said w hs ho.len h
  have hf : fewB (said.map List.length) m = true := by
    cases hf : fewB (said.map List.length) m
    · exact absurd (.inl hf) h
    · rfl
  have hk : k ≤ 100 := by omega
  have k15 := Lib.hid (f15_any A B c k m d _ w hs.1 ho.len)
  rw [hf] at k15
  have HS := Lib.hid (hs.ints hf)
  have HO := Lib.hid (ho.2 (by have := (fewB_facts hf).2.2; omega))
  have hml := ho.len
  have k43 := Lib.hid (f43_any A B k c m d R said signs w HS.out HO.out)
  have k44 := Lib.hid (fun W h1 h2 => f44_any A B k c m d R said signs W h1 h2)
  generalize pcW said signs R = X at *
  generalize pcM said signs R = Y at *
  generalize pcE said signs R = E at *
  have hR : R ≤ 100 ∨ 1000 < R := by omega
  have hqE : (E == E) = true := by simp
  clear hs ho hf h
  rcases hR with hR | hR
  all_goals
    go_enter Try.func12, Try.ntmps12
    go_wp2_with fail
    refine k15.out.mono ?_
    rintro e w' ⟨rfl, rfl⟩
    go_wp2_with fail
    refine k43.out.mono ?_
    rintro e w1 ⟨A1, k1, c1, rfl, hi1, hb⟩
    have B1 := Lib.hid hb
    have I1 := Lib.hid hi1
    clear hi1 hb
    go_wp2_with fail
    refine (k44.out _ (HS.out.below B1.out) (HO.out.below B1.out)).mono ?_
    rintro e w2 ⟨A3, k3, c3, rfl, hi3, hb⟩
    have B2 := Lib.hid (below_step B1.out hb)
    have K28 : Hid (Calls Try.prog 28 #[.slice A1 k1 c1, .slice A3 k3 c3] w2 fun e w' => e = .returned (.bool true) ∧ ∃ k, w' = w2.drewN k) := by
      have h := f28_any A1 A3 k1 c1 k3 c3 X X w2 (I1.out.below hb) hi3
      rwa [decide_eq_true rfl] at h
    clear hi3 hb
    go_wp2_with fail
    refine K28.out.mono ?_
    rintro e w3 ⟨rfl, d1, rfl⟩
    have B3 : Hid (Below w.heap.size w (w2.drewN d1)) := below_drewN B2.out d1
    generalize w2.drewN d1 = w3 at *
    go_wp2_with fail
    refine (f16_any _).mono ?_
    rintro e w6 ⟨rfl, hb6⟩
    have B6 := Lib.hid (below_step B3.out hb6)
    clear hb6
    go_wp2_with fail
    go_ret
    exact ⟨rfl, B6.out⟩
end Go.Proofs.Ytfaenbaaadjbbaa
