/- Walks: ref.Row, ref.Rows, bed.Rows. -/
import Derived.Test.YtiodednhadnekaaDoorW71
namespace Go.Proofs.YtiodednhadnekaaDoor
open Go.RowKit Go.Deep
attribute [local go_sem ↓] Go.wp_at_zero Go.wp_at_succ

def rwL (N : Int) (s : List (List Int)) : List Int := if startB N s = true ∧ (s.length : Int) ≠ N then zs ((rwS N.toNat s).headD []) else []
def rwE (N : Int) (s : List (List Int)) : Int := if startB N s = true then (if (s.length : Int) = N then 10 else 0) else 2
def roN (N : Int) (s : List (List Int)) : Int := if startB N s = true ∧ (s.length : Int) ≠ N then ((rwS N.toNat s).length : Int) else 0
def roE (N : Int) (s : List (List Int)) : Int := if startB N s = true then 0 else 2
theorem factN_one : ∀ k, 1 ≤ factN k
  | 0 => Nat.le_refl _
  | k + 1 => Nat.le_trans (factN_one k) (Nat.le_mul_of_pos_left _ (by omega))
theorem rwS_some {n : Nat} {s : List (List Int)} (h : StartP n s) (hk : s.length < n) : ∃ l T, rwS n s = l :: T ∧ l.length = n := by
  have h1 := start_many h hk
  have h2 := factN_one (n - s.length)
  cases hr : rwS n s with
  | nil => rw [hr] at h1; simp at h1; omega
  | cons l T => exact ⟨l, T, rfl, ((mem_rwS l).1 (by rw [hr]; exact List.mem_cons_self ..)).1⟩
set_option maxHeartbeats 4000000 in
/-- dibberref01.Row -/
theorem f46_any (N : Int) (A : Option Addr) (m c : Nat) (s : List (List Int)) (w : World) (hs : Beds w A m c s) :
    Calls Tryd.prog 46 #[.int .i64 N, .slice A m c] w fun e w' => ∃ A' c', e = .returned (.tuple #[.slice A' (rwL N s).length c', .int .i64 (rwE N s)]) ∧ Ints w' A' (rwL N s).length (rwL N s) ∧ Below w.heap.size w w' := by
  have K49 := f49_any N A m c s w hs
  cases hf : startB N s
  · rw [hf] at K49
    have HE : Hid (rwL N s = [] ∧ rwE N s = 2) := by unfold rwL rwE; rw [hf]; exact ⟨rfl, rfl⟩
    have K49 := Lib.hid K49
    clear hs hf
    go_enter Tryd.func46, Tryd.ntmps46
    go_wp2_with fail
    refine K49.out.mono ?_
    rintro e w1 ⟨rfl, rfl⟩
    go_wp2
    go_ret2
    exact ⟨none, 0, by rw [HE.out.1, HE.out.2]; rfl, by rw [HE.out.1]; exact Ints.nil _ _, Below.refl _ _⟩
  · rw [hf] at K49
    have K49 := Lib.hid K49
    obtain ⟨n, rfl⟩ := startB_neg hf
    have hS := startB_iff.1 hf
    have hbl := hs.len
    have hn7 := hS.n7
    have hsl := hS.len
    rcases Nat.lt_or_ge s.length n with hlt | hge
    · have HE : Hid (rwL n s = zs ((rwS n s).headD []) ∧ rwE n s = 0) := by
        unfold rwL rwE
        rw [if_pos ⟨hf, by omega⟩, if_pos hf, if_neg (by omega)]
        exact ⟨rfl, rfl⟩
      obtain ⟨t, T, hT, htl⟩ := rwS_some hS hlt
      have hq : ((m : Int) == (n : Int)) = false := by rw [beq_eq_false_iff_ne]; omega
      have K87 := f87_any n m s w A c hS hs hn7 n [] (by simp) (fun i hi => by simp at hi) [] none none 0 0 0 w (Below.refl _ _) (Ints.nil _ _) (fun _ => ⟨rfl, rfl⟩) (Beds.nil w)
      have hTT : rowsF n s n [] = t :: T := hT
      rw [hTT, firstL_tv] at K87
      rw [hT] at HE
      have HE2 : Hid (rwL n s = zs t ∧ rwE n s = 0) := ⟨HE.out.1, HE.out.2⟩
      generalize ((t :: T).length : Int) = many at K87
      have K87 := Lib.hid K87
      have hzl : (zs t).length = n := by rw [zs_len]; exact htl
      clear hs hf hS HE hT hTT hbl
      go_enter Tryd.func46, Tryd.ntmps46
      go_wp2_with fail
      refine K49.out.mono ?_
      rintro e w1 ⟨rfl, rfl⟩
      go_wp2_with fail
      refine K87.out.mono ?_
      rintro e w2 ⟨F, m2, d, rfl, hF, hb⟩
      have hF : Beds w2 F m2 d [zs t] := hF
      have hm : m2 = 1 := hF.1.symm
      subst hm
      obtain ⟨g, o, rfl, B2, d2, hc2, _, _, hi2⟩ := hF.at_ (show 0 < 1 by omega)
      have e2 : ([zs t] : List (List Int)).getD 0 [] = zs t := rfl
      rw [e2] at hc2 hi2
      rw [Nat.add_zero] at hc2
      have HB := Lib.hid hb
      have HI := Lib.hid hi2
      clear hF hb hi2
      go_wp2
      go_ret2
      exact ⟨B2, d2, by rw [HE2.out.1, HE2.out.2, hzl]; rfl, by rw [HE2.out.1]; exact HI.out, HB.out⟩
    · have HE : Hid (rwL n s = [] ∧ rwE n s = 10) := by
        unfold rwL rwE
        rw [if_neg (fun h => h.2 (by omega)), if_pos hf, if_pos (by omega)]
        exact ⟨rfl, rfl⟩
      have hq : ((m : Int) == (n : Int)) = true := by rw [beq_iff_eq]; omega
      clear hs hf hS hbl
      go_enter Tryd.func46, Tryd.ntmps46
      go_wp2_with fail
      refine K49.out.mono ?_
      rintro e w1 ⟨rfl, rfl⟩
      go_wp2
      go_ret2
      exact ⟨none, 0, by rw [HE.out.1, HE.out.2]; rfl, by rw [HE.out.1]; exact Ints.nil _ _, Below.refl _ _⟩
set_option maxHeartbeats 4000000 in
/-- dibberref01.Rows -/
theorem f48_any (N : Int) (A : Option Addr) (m c : Nat) (s : List (List Int)) (w : World) (hs : Beds w A m c s) :
    Calls Tryd.prog 48 #[.int .i64 N, .slice A m c] w fun e w' => e = .returned (.tuple #[.int .i64 (roN N s), .int .i64 (roE N s)]) ∧ Below w.heap.size w w' := by
  have K49 := f49_any N A m c s w hs
  cases hf : startB N s
  · rw [hf] at K49
    have HE : Hid (roN N s = 0 ∧ roE N s = 2) := by unfold roN roE; rw [hf]; exact ⟨rfl, rfl⟩
    have K49 := Lib.hid K49
    clear hs hf
    go_enter Tryd.func48, Tryd.ntmps48
    go_wp2_with fail
    refine K49.out.mono ?_
    rintro e w1 ⟨rfl, rfl⟩
    go_wp2
    go_ret2
    exact ⟨by rw [HE.out.1, HE.out.2]; rfl, Below.refl _ _⟩
  · rw [hf] at K49
    have K49 := Lib.hid K49
    obtain ⟨n, rfl⟩ := startB_neg hf
    have hS := startB_iff.1 hf
    have hbl := hs.len
    have hn7 := hS.n7
    have hsl := hS.len
    rcases Nat.lt_or_ge s.length n with hlt | hge
    · have HE : Hid (roN n s = ((rwS n s).length : Int) ∧ roE n s = 0) := by
        unfold roN roE
        rw [if_pos ⟨hf, by omega⟩, if_pos hf]
        exact ⟨rfl, rfl⟩
      have hq : ((m : Int) == (n : Int)) = false := by rw [beq_eq_false_iff_ne]; omega
      have K87 := f87_any n m s w A c hS hs hn7 n [] (by simp) (fun i hi => by simp at hi) [] none none 0 0 0 w (Below.refl _ _) (Ints.nil _ _) (fun _ => ⟨rfl, rfl⟩) (Beds.nil w)
      have hTT : rowsF n s n [] = rwS n s := rfl
      rw [hTT] at K87
      generalize rwS n s = T at *
      generalize (T.length : Int) = many at *
      have K87 := Lib.hid K87
      clear hs hf hS hTT hbl
      go_enter Tryd.func48, Tryd.ntmps48
      go_wp2_with fail
      refine K49.out.mono ?_
      rintro e w1 ⟨rfl, rfl⟩
      go_wp2_with fail
      refine K87.out.mono ?_
      rintro e w2 ⟨F, m2, d, rfl, hF, hb⟩
      have HB := Lib.hid hb
      clear hF hb
      go_wp2
      go_ret2
      exact ⟨by rw [HE.out.1, HE.out.2]; rfl, HB.out⟩
    · have HE : Hid (roN n s = 0 ∧ roE n s = 0) := by
        unfold roN roE
        rw [if_neg (fun h => h.2 (by omega)), if_pos hf]
        exact ⟨rfl, rfl⟩
      have hq : ((m : Int) == (n : Int)) = true := by rw [beq_iff_eq]; omega
      clear hs hf hS hbl
      go_enter Tryd.func48, Tryd.ntmps48
      go_wp2_with fail
      refine K49.out.mono ?_
      rintro e w1 ⟨rfl, rfl⟩
      go_wp2
      go_ret2
      exact ⟨by rw [HE.out.1, HE.out.2]; rfl, Below.refl _ _⟩
set_option maxHeartbeats 4000000 in
/-- bed.Rows -/
theorem f47_any (N : Int) (A : Option Addr) (m c : Nat) (s : List (List Int)) (w : World) (hs : Beds w A m c s) :
    Calls Tryd.prog 47 #[.int .i64 N, .slice A m c] w fun e w' => e = .returned (.tuple #[.int .i64 (roN N s), .int .i64 (roE N s)]) ∧ Below w.heap.size w w' := by
  have K84 := f84_any N A m c s w hs
  cases hf : startB N s
  · rw [hf] at K84
    have HE : Hid (roN N s = 0 ∧ roE N s = 2) := by unfold roN roE; rw [hf]; exact ⟨rfl, rfl⟩
    have K84 := Lib.hid K84
    clear hs hf
    go_enter Tryd.func47, Tryd.ntmps47
    go_wp2_with fail
    refine K84.out.mono ?_
    rintro e w1 ⟨rfl, hb⟩
    have HB := Lib.hid hb
    clear hb
    go_wp2
    go_ret2
    exact ⟨by rw [HE.out.1, HE.out.2]; rfl, HB.out⟩
  · rw [hf] at K84
    have K84 := Lib.hid K84
    obtain ⟨n, rfl⟩ := startB_neg hf
    have hS := startB_iff.1 hf
    have hbl := hs.len
    have hn7 := hS.n7
    have hsl := hS.len
    rcases Nat.lt_or_ge s.length n with hlt | hge
    · have HE : Hid (roN n s = (wayF n (opS n s) n 0 : Int) ∧ roE n s = 0) := by
        unfold roN roE
        rw [if_pos ⟨hf, by omega⟩, if_pos hf]
        refine ⟨?_, rfl⟩
        have := way_rows hS n [] (by simp)
        rw [show colsM [] = 0 from rfl] at this
        rw [this]; rfl
      have hq : ((m : Int) == (n : Int)) = false := by rw [beq_eq_false_iff_ne]; omega
      have HS := Lib.hid hS
      have HBS := Lib.hid hs
      clear hs hf hS hbl
      go_enter Tryd.func47, Tryd.ntmps47
      go_wp2_with fail
      refine K84.out.mono ?_
      rintro e w1 ⟨rfl, hb1⟩
      have B1 := Lib.hid hb1
      clear hb1
      go_wp2_with fail
      refine (f85_any n A m c s w1 (HBS.out.below B1.out) HS.out).mono ?_
      rintro e w2 ⟨g, rfl, hO, hg, hb2⟩
      have B2 := Lib.hid (below_step B1.out hb2)
      have K86 := f86_any n (opS n s) (some ⟨g, 0, none⟩) n hn7 (fun j _ => opM_lt hn7 s j s.length) n 0 0 w2 (by omega) (by omega) (hO.ints' (by simp [zs_len]) (by omega))
      generalize (wayF n (opS n s) n 0 : Int) = many at *
      have K86 := Lib.hid K86
      clear hO hg hb2
      go_wp2_with fail
      refine K86.out.mono ?_
      rintro e w3 ⟨rfl, rfl⟩
      go_wp2
      go_ret2
      exact ⟨by rw [HE.out.1, HE.out.2]; rfl, B2.out⟩
    · have HE : Hid (roN n s = 0 ∧ roE n s = 0) := by
        unfold roN roE
        rw [if_neg (fun h => h.2 (by omega)), if_pos hf]
        exact ⟨rfl, rfl⟩
      have hq : ((m : Int) == (n : Int)) = true := by rw [beq_iff_eq]; omega
      clear hs hf hS hbl
      go_enter Tryd.func47, Tryd.ntmps47
      go_wp2_with fail
      refine K84.out.mono ?_
      rintro e w1 ⟨rfl, hb⟩
      have HB := Lib.hid hb
      clear hb
      go_wp2
      go_ret2
      exact ⟨by rw [HE.out.1, HE.out.2]; rfl, HB.out⟩
end Go.Proofs.YtiodednhadnekaaDoor
