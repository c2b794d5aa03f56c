/- Walks: bit (both), bits, slices.IndexFunc and ContainsFunc at ints and at slices of ints. -/
import Derived.Test.YtfaenbaaadjbbaaBase
import Derived.Test.YtfaenbaaadjbbaaPlain1
namespace Go.Proofs.Ytfaenbaaadjbbaa
open Go.RowKit

/-- luck.bit -/
theorem f75_any (x : Int) (w : World) : Calls Try.prog 75 #[.int .i64 x] w fun e w' => e = .returned (.bool (bitB x)) ∧ w = w' := by
  unfold bitB
  go_enter Try.func75, Try.ntmps75
  go_wp2
  all_goals go_ret
  all_goals simp_all
/-- dibberref05.bit -/
theorem f54_any (x : Int) (w : World) : Calls Try.prog 54 #[.int .i64 x] w fun e w' => e = .returned (.bool (bitB x)) ∧ w = w' := by
  unfold bitB
  go_enter Try.func54, Try.ntmps54
  go_wp2
  all_goals go_ret
  all_goals simp_all
/-- luck.bits$1 -/
theorem f74_any (x : Int) (w : World) : Calls Try.prog 74 #[.int .i64 x] w fun e w' => e = .returned (.bool (!bitB x)) ∧ w = w' := by
  go_enter Try.func74, Try.ntmps74
  go_wp2_with fail
  refine (f75_any x w).mono ?_
  rintro e w' ⟨rfl, rfl⟩
  go_wp2
  go_ret
  exact ⟨rfl, rfl⟩
theorem enter74 (args : Array Value) (w : World) : (callFunc 74 args).run Try.prog w = .ok (.enter 74 args) w := by
  simp [go_sem]

set_option maxHeartbeats 400000 in
/-- slices.IndexFunc at ints -/
theorem f85_any (A : Option Addr) (n c : Nat) (xs : List Int) (f : FuncId) (cap : Array Value) (p : Int → Bool) (w : World) (hs : Ints w A n xs)
    (hf : ∀ (args : Array Value) (w : World), (callFunc f args).run Try.prog w = .ok (.enter f args) w)
    (hp : ∀ k, k < n → Calls Try.prog f (#[.int .i64 (xs.getD k 0)] ++ cap) w fun e w' => e = .returned (.bool (p (xs.getD k 0))) ∧ w = w') :
    Calls Try.prog 85 #[.slice A n c, .func (.func f) #[] cap] w fun e w' => e = .returned (.int .i64 (firstIdx p xs)) ∧ w = w' := by
  have hb : n ≤ 17592186044415 := hs.small
  have HP := Lib.hid hp
  clear hp
  go_enter Try.func85, Try.ntmps85
  go_wp2
  go_loop [5, 8] (fun _ i => ∃ k : Nat, k ≤ n ∧ i = .int .i64 k ∧ (∀ j, j < k → p (xs.getD j 0) = false)) (fun _ i => n - (intOf i).toNat)
  case atStart => exact ⟨0, by omega, rfl, fun j hj => absurd hj (by omega)⟩
  case round =>
    obtain ⟨k, hk, rfl, hbef⟩ := hrel
    have HB := Lib.hid hbef
    clear hbef
    by_cases hlt : k < n
    · obtain ⟨b, off, rfl, hc⟩ := hs.at_ hlt
      have HK := Lib.hid (HP.out k hlt)
      go_wp2_with fail
      refine HK.out.mono ?_
      rintro e w' ⟨rfl, rfl⟩
      cases hpk : p (xs.getD k 0)
      · have HQ := Lib.hid hpk
        clear hpk
        go_wp2
        go_round
        case rel => exact ⟨k + 1, by omega, by go_num, fun j hj => by
          rcases Nat.lt_or_ge j k with h | h
          · exact HB.out j h
          · obtain rfl : j = k := by omega
            exact HQ.out⟩
        case measure => simp [intOf]; omega
      · have HQ := Lib.hid hpk
        clear hpk
        go_wp2
        go_ret
        exact ⟨ret_int (firstIdx_hit 0 p xs k (by rw [hs.len]; omega) HQ.out HB.out).symm, rfl⟩
    · obtain rfl : k = n := by omega
      go_wp2
      go_ret
      exact ⟨ret_int (firstIdx_miss 0 p xs (fun j hj => HB.out j (by rw [hs.len] at hj; exact hj))).symm, rfl⟩

/-- slices.ContainsFunc at ints -/
theorem f72_any (A : Option Addr) (n c : Nat) (xs : List Int) (f : FuncId) (cap : Array Value) (p : Int → Bool) (w : World) (hs : Ints w A n xs)
    (hf : ∀ (args : Array Value) (w : World), (callFunc f args).run Try.prog w = .ok (.enter f args) w)
    (hp : ∀ k, k < n → Calls Try.prog f (#[.int .i64 (xs.getD k 0)] ++ cap) w fun e w' => e = .returned (.bool (p (xs.getD k 0))) ∧ w = w') :
    Calls Try.prog 72 #[.slice A n c, .func (.func f) #[] cap] w fun e w' => e = .returned (.bool (xs.any p)) ∧ w = w' := by
  have HP := Lib.hid hp
  clear hp
  have H := Lib.hid (firstIdx_any p xs)
  go_enter Try.func72, Try.ntmps72
  go_wp2_with fail
  refine (f85_any A n c xs f cap p w hs hf HP.out).mono ?_
  rintro e w' ⟨rfl, rfl⟩
  go_wp2
  go_ret
  exact ⟨ret_bool H.out, rfl⟩

theorem any_not_all (l : List Int) (p : Int → Bool) : (!l.any fun x => !p x) = l.all p := by
  induction l with
  | nil => rfl
  | cons a l ih => simp only [List.any_cons, List.all_cons, Bool.not_or, Bool.not_not, ih]
/-- luck.bits -/
theorem f51_any (A : Option Addr) (n c : Nat) (xs : List Int) (m : Int) (w : World) (hs : Ints w A n xs) :
    Calls Try.prog 51 #[.slice A n c, .int .i64 m] w fun e w' => e = .returned (.bool (bitsB m xs)) ∧ w = w' := by
  have k72 : Hid (Calls Try.prog 72 #[.slice A n c, .func (.func 74) #[] #[]] w fun e w' => e = .returned (.bool (xs.any fun x => !bitB x)) ∧ w = w') :=
    f72_any A n c xs 74 #[] (fun x => !bitB x) w hs enter74 (fun k _ => f74_any _ w)
  have hl := Lib.hid hs.len
  have hsm := hs.small
  have hfin : Hid (bitsB m xs = (decide ((n : Int) = m) && xs.all bitB)) := by unfold bitsB; rw [hl.out]; rfl
  have hall : Hid ((!xs.any fun x => !bitB x) = xs.all bitB) := any_not_all xs bitB
  clear hs
  by_cases hm : (n : Int) = m
  · have hq : ((n : Int) == m) = true := by simpa using hm
    have HM := Lib.hid hm
    clear hm
    go_enter Try.func51, Try.ntmps51
    go_wp2_with fail
    refine k72.out.mono ?_
    rintro e w' ⟨rfl, rfl⟩
    go_wp2
    go_ret
    exact ⟨ret_bool (by rw [hfin.out, ← hall.out, decide_eq_true HM.out]; simp), rfl⟩
  · have hq : ((n : Int) == m) = false := by simpa using hm
    have hf2 : Hid (bitsB m xs = false) := by rw [hfin.out, decide_eq_false hm]; rfl
    clear hm
    go_enter Try.func51, Try.ntmps51
    go_wp2
    go_ret
    exact ⟨ret_bool hf2.out.symm, rfl⟩

/-- A slice of slices of ints that reads as a list of lists. -/
def IntsS (w : World) (A : Option Addr) (n : Nat) (xss : List (List Int)) : Prop :=
  xss.length = n ∧ n ≤ 17592186044415 ∧ (0 < n → ∃ b off, A = some ⟨b, off, none⟩ ∧ ∀ j, j < n → ∃ B c, w.cell? ⟨b, off + j, none⟩ = some (.slice B (xss.getD j []).length c) ∧ Ints w B (xss.getD j []).length (xss.getD j []))
section
variable {w w' : World} {A : Option Addr} {n : Nat} {xss : List (List Int)}
theorem IntsS.below (h : IntsS w A n xss) (hb : Below w.heap.size w w') : IntsS w' A n xss :=
  ⟨h.1, h.2.1, fun hn => by
    obtain ⟨b, off, e, hc⟩ := h.2.2 hn
    exact ⟨b, off, e, fun j hj => by
      obtain ⟨B, c, h1, h2⟩ := hc j hj
      exact ⟨B, c, (hb.cell (lt_of_cell h1)).trans h1, h2.below hb⟩⟩⟩
theorem IntsS.drewN (h : IntsS w A n xss) (m : Nat) : IntsS (w.drewN m) A n xss := h
theorem IntsS.len (h : IntsS w A n xss) : xss.length = n := h.1
theorem IntsS.small (h : IntsS w A n xss) : n ≤ 17592186044415 := h.2.1
theorem IntsS.at_ (h : IntsS w A n xss) {k : Nat} (hk : k < n) : ∃ b off, A = some ⟨b, off, none⟩ ∧ ∃ B c, w.cell? ⟨b, off + k, none⟩ = some (.slice B (xss.getD k []).length c) ∧ Ints w B (xss.getD k []).length (xss.getD k []) := by
  obtain ⟨b, off, e, hc⟩ := h.2.2 (by omega)
  exact ⟨b, off, e, hc k hk⟩
theorem IntsS.nil (w : World) (A : Option Addr) : IntsS w A 0 [] := ⟨rfl, by omega, fun h => absurd h (by omega)⟩
end

set_option maxHeartbeats 400000 in
/-- slices.IndexFunc at slices of ints -/
theorem f73_any (A : Option Addr) (n c : Nat) (xss : List (List Int)) (f : FuncId) (cap : Array Value) (p : List Int → Bool) (w : World) (hs : IntsS w A n xss)
    (hf : ∀ (args : Array Value) (w : World), (callFunc f args).run Try.prog w = .ok (.enter f args) w)
    (hp : ∀ (l : List Int) (B : Option Addr) (d : Nat), Ints w B l.length l → Calls Try.prog f (#[.slice B l.length d] ++ cap) w fun e w' => e = .returned (.bool (p l)) ∧ w = w') :
    Calls Try.prog 73 #[.slice A n c, .func (.func f) #[] cap] w fun e w' => e = .returned (.int .i64 (firstIdx p xss)) ∧ w = w' := by
  have hb : n ≤ 17592186044415 := hs.small
  have HL := Lib.hid hs.len
  have HS := Lib.hid hs
  have HP := Lib.hid hp
  clear hp hs
  go_enter Try.func73, Try.ntmps73
  go_wp2
  go_loop [5, 8] (fun _ i => ∃ k : Nat, k ≤ n ∧ i = .int .i64 k ∧ (∀ j, j < k → p (xss.getD j []) = false)) (fun _ i => n - (intOf i).toNat)
  case atStart => exact ⟨0, by omega, rfl, fun j hj => absurd hj (by omega)⟩
  case round =>
    obtain ⟨k, hk, rfl, hbef⟩ := hrel
    have HB := Lib.hid hbef
    clear hbef
    by_cases hlt : k < n
    · obtain ⟨b, off, rfl, B, d, hc, hi⟩ := HS.out.at_ hlt
      have HK := Lib.hid (HP.out _ B d hi)
      clear hi
      generalize hx : xss.getD k [] = x at *
      have HX := Lib.hid hx
      clear hx
      go_wp2_with fail
      refine HK.out.mono ?_
      rintro e w' ⟨rfl, rfl⟩
      cases hpk : p x
      · have HQ := Lib.hid hpk
        clear hpk
        go_wp2
        go_round
        case rel => exact ⟨k + 1, by omega, by go_num, fun j hj => by
          rcases Nat.lt_or_ge j k with h | h
          · exact HB.out j h
          · obtain rfl : j = k := by omega
            rw [HX.out]; exact HQ.out⟩
        case measure => simp [intOf]; omega
      · have HQ := Lib.hid hpk
        clear hpk
        go_wp2
        go_ret
        exact ⟨ret_int (firstIdx_hit [] p xss k (by rw [HL.out]; omega) (by rw [HX.out]; exact HQ.out) HB.out).symm, rfl⟩
    · obtain rfl : k = n := by omega
      go_wp2
      go_ret
      exact ⟨ret_int (firstIdx_miss [] p xss (fun j hj => HB.out j (by rw [HL.out] at hj; exact hj))).symm, rfl⟩

/-- slices.ContainsFunc at slices of ints -/
theorem f49_any (A : Option Addr) (n c : Nat) (xss : List (List Int)) (f : FuncId) (cap : Array Value) (p : List Int → Bool) (w : World) (hs : IntsS w A n xss)
    (hf : ∀ (args : Array Value) (w : World), (callFunc f args).run Try.prog w = .ok (.enter f args) w)
    (hp : ∀ (l : List Int) (B : Option Addr) (d : Nat), Ints w B l.length l → Calls Try.prog f (#[.slice B l.length d] ++ cap) w fun e w' => e = .returned (.bool (p l)) ∧ w = w') :
    Calls Try.prog 49 #[.slice A n c, .func (.func f) #[] cap] w fun e w' => e = .returned (.bool (xss.any p)) ∧ w = w' := by
  have HP := Lib.hid hp
  clear hp
  have H := Lib.hid (firstIdx_any p xss)
  go_enter Try.func49, Try.ntmps49
  go_wp2_with fail
  refine (f73_any A n c xss f cap p w hs hf HP.out).mono ?_
  rintro e w' ⟨rfl, rfl⟩
  go_wp2
  go_ret
  exact ⟨ret_bool H.out, rfl⟩
/-- luck.Regret$1 -/
theorem f50_any (B : Option Addr) (d : Nat) (l : List Int) (g : Nat) (m : Int) (w : World) (hs : Ints w B l.length l) (hc : w.cell? ⟨g, 0, none⟩ = some (.int .i64 m)) :
    Calls Try.prog 50 (#[.slice B l.length d] ++ #[.pointer (some ⟨g, 0, none⟩)]) w fun e w' => e = .returned (.bool (!bitsB m l)) ∧ w = w' := by
  show Calls Try.prog 50 #[.slice B l.length d, .pointer (some ⟨g, 0, none⟩)] w _
  go_enter Try.func50, Try.ntmps50
  go_wp2_with fail
  refine (f51_any B l.length d l m w hs).mono ?_
  rintro e w' ⟨rfl, rfl⟩
  go_wp2
  go_ret
  exact ⟨rfl, rfl⟩
theorem enter50 (args : Array Value) (w : World) : (callFunc 50 args).run Try.prog w = .ok (.enter 50 args) w := by
  simp [go_sem]
/-- luck.record$1 -/
theorem f82_any (B : Option Addr) (d : Nat) (l : List Int) (g : Nat) (m : Int) (w : World) (hs : Ints w B l.length l) (hc : w.cell? ⟨g, 0, none⟩ = some (.int .i64 m)) :
    Calls Try.prog 82 (#[.slice B l.length d] ++ #[.pointer (some ⟨g, 0, none⟩)]) w fun e w' => e = .returned (.bool (!bitsB m l)) ∧ w = w' := by
  show Calls Try.prog 82 #[.slice B l.length d, .pointer (some ⟨g, 0, none⟩)] w _
  go_enter Try.func82, Try.ntmps82
  go_wp2_with fail
  refine (f51_any B l.length d l m w hs).mono ?_
  rintro e w' ⟨rfl, rfl⟩
  go_wp2
  go_ret
  exact ⟨rfl, rfl⟩
theorem enter82 (args : Array Value) (w : World) : (callFunc 82 args).run Try.prog w = .ok (.enter 82 args) w := by
  simp [go_sem]
end Go.Proofs.Ytfaenbaaadjbbaa
