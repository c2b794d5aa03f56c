/- Walks: slices.Compare, slices.CompareFunc. -/
import Derived.Test.YtiodednhadnekaaDoorW20
namespace Go.Proofs.YtiodednhadnekaaDoor
open Go.RowKit Go.Deep

/-- cmp.isNaN at int -/
theorem f108_any (x : Int) (w : World) : Calls Tryd.prog 108 #[.int .i64 x] w fun e w' => e = .returned (.bool false) ∧ w = w' := by
  go_enter Tryd.func108, Tryd.ntmps108
  go_wp2
  go_ret
  simp
def cmp3 (x y : Int) : Int := if x < y then -1 else if y < x then 1 else 0
/-- cmp.Compare at int -/
theorem f96_any (x y : Int) (w : World) : Calls Tryd.prog 96 #[.int .i64 x, .int .i64 y] w fun e w' => e = .returned (.int .i64 (cmp3 x y)) ∧ w = w' := by
  by_cases h1 : x < y
  · have e : Hid (cmp3 x y = -1) := by unfold cmp3; rw [if_pos h1]; rfl
    go_enter Tryd.func96, Tryd.ntmps96
    go_wp2_with (go_at_call 108; refine (f108_any _ _).mono ?_; rintro e w' ⟨rfl, rfl⟩)
    go_ret
    exact ⟨ret_int e.out.symm, rfl⟩
  by_cases h2 : y < x
  · have e : Hid (cmp3 x y = 1) := by unfold cmp3; rw [if_neg h1, if_pos h2]; rfl
    go_enter Tryd.func96, Tryd.ntmps96
    go_wp2_with (go_at_call 108; refine (f108_any _ _).mono ?_; rintro e w' ⟨rfl, rfl⟩)
    go_ret
    exact ⟨ret_int e.out.symm, rfl⟩
  · have e : Hid (cmp3 x y = 0) := by unfold cmp3; rw [if_neg h1, if_neg h2]; rfl
    go_enter Tryd.func96, Tryd.ntmps96
    go_wp2_with (go_at_call 108; refine (f108_any _ _).mono ?_; rintro e w' ⟨rfl, rfl⟩)
    go_ret
    exact ⟨ret_int e.out.symm, rfl⟩
/-- The lexicographic comparison. -/
def cmpBy {α : Type} (f : α → α → Int) : List α → List α → Int
  | [], [] => 0
  | [], _ :: _ => -1
  | _ :: _, [] => 1
  | x :: a, y :: b => if f x y = 0 then cmpBy f a b else f x y
theorem cmpBy_at {α : Type} {f : α → α → Int} {a b : List α} (d : α) {k : Nat} (ha : k < a.length) (hb : k < b.length) : cmpBy f (a.drop k) (b.drop k) = if f (a.getD k d) (b.getD k d) = 0 then cmpBy f (a.drop (k + 1)) (b.drop (k + 1)) else f (a.getD k d) (b.getD k d) := by
  rw [List.drop_eq_getElem_cons ha, List.drop_eq_getElem_cons hb]
  simp [cmpBy, List.getD_eq_getElem?_getD, ha, hb]
def cmpL (a b : List Int) : Int := cmpBy cmp3 a b
def cmpG (a b : List (List Int)) : Int := cmpBy cmpL a b
set_option maxRecDepth 100000 in
set_option maxHeartbeats 1000000 in
/-- slices.Compare at ints -/
theorem f67_any (A B : Option Addr) (n c d : Nat) (xs ys : List Int) (w : World) (hs : Ints w A n xs) (ho : Ints w B n ys) :
    Calls Tryd.prog 67 #[.slice A n c, .slice B n d] w fun e w' => e = .returned (.int .i64 (cmpL xs ys)) ∧ w = w' := by
  have hsm := hs.small
  have HL := Lib.hid hs.len
  have HL2 := Lib.hid ho.len
  have HS := Lib.hid hs
  have HO := Lib.hid ho
  clear hs ho
  go_enter Tryd.func67, Tryd.ntmps67
  go_wp2
  go_loop [11] (fun i => ∃ k : Nat, k ≤ n ∧ i = .int .i64 (k : Int) ∧ Hid (cmpL xs ys = cmpBy cmp3 (xs.drop k) (ys.drop k))) (fun i => n - (intOf i).toNat)
  case atStart => exact ⟨0, by omega, rfl, rfl⟩
  case round => as_aux_lemma =>
    obtain ⟨k, hk, rfl, hin⟩ := hrel
    by_cases hlt : k < n
    · obtain ⟨b1, o1, rfl, hc1⟩ := HS.out.at_ hlt
      obtain ⟨b2, o2, rfl, hc2⟩ := HO.out.at_ hlt
      have HAT := Lib.hid (cmpBy_at (f := cmp3) (a := xs) (b := ys) 0 (k := k) (by rw [HL.out]; exact hlt) (by rw [HL2.out]; exact hlt))
      have K96 := Lib.hid (f96_any (xs.getD k 0) (ys.getD k 0) w)
      generalize cmp3 (xs.getD k 0) (ys.getD k 0) = z at *
      generalize xs.getD k 0 = x at *
      generalize ys.getD k 0 = y at *
      by_cases hz : z = 0
      · have HN : Hid (cmpL xs ys = cmpBy cmp3 (xs.drop (k + 1)) (ys.drop (k + 1))) := by rw [hin.out, HAT.out, if_pos hz]; rfl
        have hq : (z != 0) = false := by simpa using hz
        clear hz hin
        go_wp2_with fail
        refine K96.out.mono ?_
        rintro e w' ⟨rfl, rfl⟩
        go_wp2
        go_round
        case rel => exact ⟨k + 1, by omega, by go_num, HN.out⟩
        case measure => simp [intOf]; omega
      · have HN : Hid (cmpL xs ys = z) := by rw [hin.out, HAT.out, if_neg hz]; rfl
        have hq : (z != 0) = true := by simpa using hz
        clear hz hin
        go_wp2_with fail
        refine K96.out.mono ?_
        rintro e w' ⟨rfl, rfl⟩
        go_wp2
        go_ret
        exact ⟨ret_int HN.out.symm, rfl⟩
    · obtain rfl : k = n := by omega
      have HN : Hid (cmpL xs ys = 0) := by
        rw [hin.out, List.drop_of_length_le (by rw [HL.out]; omega), List.drop_of_length_le (by rw [HL2.out]; omega)]; rfl
      clear hin
      go_wp2
      go_ret
      exact ⟨ret_int HN.out.symm, rfl⟩
theorem enter66 (args : Array Value) (w : World) : (callFunc 66 args).run Tryd.prog w = .ok (.enter 66 args) w := by simp [go_sem]
/-- bed.Mate$2$1 -/
theorem f66_any (A B : Option Addr) (n c d : Nat) (xs ys : List Int) (w : World) (hs : Ints w A n xs) (ho : Ints w B n ys) :
    Calls Tryd.prog 66 #[.slice A n c, .slice B n d] w fun e w' => e = .returned (.int .i64 (cmpL xs ys)) ∧ w = w' := by
  have K := Lib.hid (f67_any A B n c d xs ys w hs ho)
  generalize cmpL xs ys = z at *
  clear hs ho
  go_enter Tryd.func66, Tryd.ntmps66
  go_wp2_with fail
  refine K.out.mono ?_
  rintro e w' ⟨rfl, rfl⟩
  go_wp2
  go_ret
  exact ⟨rfl, rfl⟩
set_option maxRecDepth 100000 in
set_option maxHeartbeats 1000000 in
/-- slices.CompareFunc at beds -/
theorem f65_any (A B : Option Addr) (n m c d : Nat) (xs ys : List (List Int)) (w : World) (hs : Beds w A n c xs) (ho : Beds w B n d ys) (h1 : ∀ i, i < n → (xs.getD i []).length = m) (h2 : ∀ i, i < n → (ys.getD i []).length = m) :
    Calls Tryd.prog 65 #[.slice A n c, .slice B n d, .func (.func 66) #[] #[]] w fun e w' => e = .returned (.int .i64 (cmpG xs ys)) ∧ w = w' := by
  have hsm := hs.small
  have HL := Lib.hid hs.len
  have HL2 := Lib.hid ho.len
  have HS := Lib.hid hs
  have HO := Lib.hid ho
  have H1 := Lib.hid h1
  have H2 := Lib.hid h2
  have hen := enter66
  clear hs ho h1 h2
  go_enter Tryd.func65, Tryd.ntmps65
  go_wp2
  go_loop [13] (fun i => ∃ k : Nat, k ≤ n ∧ i = .int .i64 (k : Int) ∧ Hid (cmpG xs ys = cmpBy cmpL (xs.drop k) (ys.drop k))) (fun i => n - (intOf i).toNat)
  case atStart => exact ⟨0, by omega, rfl, rfl⟩
  case round => as_aux_lemma =>
    obtain ⟨k, hk, rfl, hin⟩ := hrel
    by_cases hlt : k < n
    · obtain ⟨b1, o1, rfl, B1, d1, hc1, _, _, hi1⟩ := HS.out.at_ hlt
      obtain ⟨b2, o2, rfl, B2, d2, hc2, _, _, hi2⟩ := HO.out.at_ hlt
      rw [H1.out k hlt] at hc1 hi1
      rw [H2.out k hlt] at hc2 hi2
      have HAT := Lib.hid (cmpBy_at (f := cmpL) (a := xs) (b := ys) [] (k := k) (by rw [HL.out]; exact hlt) (by rw [HL2.out]; exact hlt))
      have K66 := Lib.hid (f66_any B1 B2 m d1 d2 (xs.getD k []) (ys.getD k []) w hi1 hi2)
      have hms := hi1.small
      generalize cmpL (xs.getD k []) (ys.getD k []) = z at *
      clear hi1 hi2
      by_cases hz : z = 0
      · have HN : Hid (cmpG xs ys = cmpBy cmpL (xs.drop (k + 1)) (ys.drop (k + 1))) := by rw [hin.out, HAT.out, if_pos hz]; rfl
        have hq : (z != 0) = false := by simpa using hz
        clear hz hin
        go_wp2_with fail
        refine K66.out.mono ?_
        rintro e w' ⟨rfl, rfl⟩
        go_wp2
        go_round
        case rel => exact ⟨k + 1, by omega, by go_num, HN.out⟩
        case measure => simp [intOf]; omega
      · have HN : Hid (cmpG xs ys = z) := by rw [hin.out, HAT.out, if_neg hz]; rfl
        have hq : (z != 0) = true := by simpa using hz
        clear hz hin
        go_wp2_with fail
        refine K66.out.mono ?_
        rintro e w' ⟨rfl, rfl⟩
        go_wp2
        go_ret
        exact ⟨ret_int HN.out.symm, rfl⟩
    · obtain rfl : k = n := by omega
      have HN : Hid (cmpG xs ys = 0) := by
        rw [hin.out, List.drop_of_length_le (by rw [HL.out]; omega), List.drop_of_length_le (by rw [HL2.out]; omega)]; rfl
      clear hin
      go_wp2
      go_ret
      exact ⟨ret_int HN.out.symm, rfl⟩
end Go.Proofs.YtiodednhadnekaaDoor
