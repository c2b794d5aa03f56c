/- Walks: slices.Index, IndexFunc and what rests on them; the shape of a bed. -/
import Derived.Test.YtiodednhadnekaaDoorW1
import Derived.Test.YtiodednhadnekaaDoorPlain3
namespace Go.Proofs.YtiodednhadnekaaDoor
open Go.RowKit Go.Deep

section
variable {w : World} {A : Option Addr} {n c k : Nat}
theorem Ints.take {xs : List Int} (h : Ints w A n xs) (hk : k ≤ n) : Ints w A k (xs.take k) :=
  ⟨by rw [List.length_take, h.1]; omega, by have := h.2.1; omega, fun hp => by
    obtain ⟨g, o, e, hc⟩ := h.2.2 (by omega)
    exact ⟨g, o, e, fun j hj => by rw [hc j (by omega)]; simp [List.getD_eq_getElem?_getD, hj]⟩⟩
theorem Beds.take {b : List (List Int)} (h : Beds w A n c b) (hk : k ≤ n) : Beds w A k c (b.take k) :=
  ⟨by rw [List.length_take, h.1]; omega, by have := h.2.1; omega, by have := h.cap; omega, fun e => by have := h.2.2.2.1 e; omega, fun hp => by
    obtain ⟨g, o, e, hc⟩ := h.2.2.2.2 (by omega)
    refine ⟨g, o, e, fun j hj => ?_⟩
    have hg : (b.take k).getD j [] = b.getD j [] := by simp [List.getD_eq_getElem?_getD, hj]
    rw [hg]
    exact hc j (by omega)⟩
end
set_option maxHeartbeats 400000 in
/-- slices.Index at ints -/
theorem f105_any (A : Option Addr) (n c : Nat) (xs : List Int) (x : Int) (w : World) (hs : Ints w A n xs) :
    Calls Tryd.prog 105 #[.slice A n c, .int .i64 x] w fun e w' => e = .returned (.int .i64 (fIdx (fun y => x == y) xs)) ∧ w = w' := by
  have hb : n ≤ 17592186044415 := hs.small
  have HL := Lib.hid hs.len
  go_enter Tryd.func105, Tryd.ntmps105
  go_wp2
  go_loop [5, 8] (fun _ i => ∃ k : Nat, k ≤ n ∧ i = .int .i64 k ∧ (∀ j, j < k → (x == xs.getD j 0) = false)) (fun _ i => n - (intOf i).toNat)
  case atStart => exact ⟨0, by omega, rfl, fun j hj => absurd hj (by omega)⟩
  case round =>
    obtain ⟨k, hk, rfl, hbef⟩ := hrel
    have HB := Lib.hid hbef
    clear hbef
    by_cases hlt : k < n
    · obtain ⟨b, off, rfl, hc⟩ := hs.at_ hlt
      have HIT : Hid ((x == xs.getD k 0) = true → fIdx (fun y => x == y) xs = (k : Int)) := fun h => fIdx_hit _ xs 0 k (by rw [HL.out]; exact hlt) h HB.out
      have HGO : Hid ((x == xs.getD k 0) = false → ∀ j, j < k + 1 → (x == xs.getD j 0) = false) := fun h j hj => by
        rcases Nat.lt_or_ge j k with h1 | h1
        · exact HB.out j h1
        · obtain rfl : j = k := by omega
          exact h
      generalize xs.getD k 0 = y at *
      cases hpk : (x == y)
      · have HQ := Lib.hid (HGO.out hpk)
        go_wp2
        go_round
        case rel => exact ⟨k + 1, by omega, by go_num, HQ.out⟩
        case measure => simp [intOf]; omega
      · have HQ := Lib.hid (HIT.out hpk)
        go_wp2
        go_ret
        exact ⟨ret_int HQ.out.symm, rfl⟩
    · obtain rfl : k = n := by omega
      have HQ := Lib.hid (fIdx_miss (fun y => x == y) xs 0 (fun j hj => HB.out j (by rw [HL.out] at hj; exact hj)))
      go_wp2
      go_ret
      exact ⟨ret_int HQ.out.symm, rfl⟩
/-- slices.Contains at ints -/
theorem f93_any (A : Option Addr) (n c : Nat) (xs : List Int) (x : Int) (w : World) (hs : Ints w A n xs) :
    Calls Tryd.prog 93 #[.slice A n c, .int .i64 x] w fun e w' => e = .returned (.bool (hasB x xs)) ∧ w = w' := by
  have H := Lib.hid (fIdx_any (fun y => x == y) xs)
  have K := Lib.hid (f105_any A n c xs x w hs)
  generalize fIdx (fun y => x == y) xs = z at *
  clear hs
  go_enter Tryd.func93, Tryd.ntmps93
  go_wp2_with fail
  refine K.out.mono ?_
  rintro e w' ⟨rfl, rfl⟩
  go_wp2
  go_ret
  exact ⟨ret_bool H.out, rfl⟩
set_option maxHeartbeats 400000 in
/-- slices.IndexFunc at ints -/
theorem f109_any (A : Option Addr) (n c : Nat) (xs : List Int) (f : FuncId) (cap : Array Value) (p : Int → Bool) (w : World) (hs : Ints w A n xs)
    (hf : ∀ (args : Array Value) (w : World), (callFunc f args).run Tryd.prog w = .ok (.enter f args) w)
    (hp : ∀ k, k < n → Calls Tryd.prog f (#[.int .i64 (xs.getD k 0)] ++ cap) w fun e w' => e = .returned (.bool (p (xs.getD k 0))) ∧ w = w') :
    Calls Tryd.prog 109 #[.slice A n c, .func (.func f) #[] cap] w fun e w' => e = .returned (.int .i64 (fIdx p xs)) ∧ w = w' := by
  have hb : n ≤ 17592186044415 := hs.small
  have HL := Lib.hid hs.len
  have HP := Lib.hid hp
  clear hp
  go_enter Tryd.func109, Tryd.ntmps109
  go_wp2
  go_loop [5, 8] (fun _ i => ∃ k : Nat, k ≤ n ∧ i = .int .i64 k ∧ (∀ j, j < k → p (xs.getD j 0) = false)) (fun _ i => n - (intOf i).toNat)
  case atStart => exact ⟨0, by omega, rfl, fun j hj => absurd hj (by omega)⟩
  case round =>
    obtain ⟨k, hk, rfl, hbef⟩ := hrel
    have HB := Lib.hid hbef
    clear hbef
    by_cases hlt : k < n
    · obtain ⟨b, off, rfl, hc⟩ := hs.at_ hlt
      have HK := Lib.hid (HP.out k hlt)
      go_wp2_with fail
      refine HK.out.mono ?_
      rintro e w' ⟨rfl, rfl⟩
      cases hpk : p (xs.getD k 0)
      · have HQ := Lib.hid hpk
        clear hpk
        go_wp2
        go_round
        case rel => exact ⟨k + 1, by omega, by go_num, fun j hj => by
          rcases Nat.lt_or_ge j k with h | h
          · exact HB.out j h
          · obtain rfl : j = k := by omega
            exact HQ.out⟩
        case measure => simp [intOf]; omega
      · have HQ := Lib.hid hpk
        clear hpk
        go_wp2
        go_ret
        exact ⟨ret_int (fIdx_hit p xs 0 k (by rw [HL.out]; omega) HQ.out HB.out).symm, rfl⟩
    · obtain rfl : k = n := by omega
      go_wp2
      go_ret
      exact ⟨ret_int (fIdx_miss p xs 0 (fun j hj => HB.out j (by rw [HL.out] at hj; exact hj))).symm, rfl⟩
/-- slices.ContainsFunc at ints -/
theorem f98_any (A : Option Addr) (n c : Nat) (xs : List Int) (f : FuncId) (cap : Array Value) (p : Int → Bool) (w : World) (hs : Ints w A n xs)
    (hf : ∀ (args : Array Value) (w : World), (callFunc f args).run Tryd.prog w = .ok (.enter f args) w)
    (hp : ∀ k, k < n → Calls Tryd.prog f (#[.int .i64 (xs.getD k 0)] ++ cap) w fun e w' => e = .returned (.bool (p (xs.getD k 0))) ∧ w = w') :
    Calls Tryd.prog 98 #[.slice A n c, .func (.func f) #[] cap] w fun e w' => e = .returned (.bool (xs.any p)) ∧ w = w' := by
  have K := Lib.hid (f109_any A n c xs f cap p w hs hf hp)
  have H := Lib.hid (fIdx_any p xs)
  clear hp hs
  go_enter Tryd.func98, Tryd.ntmps98
  go_wp2_with fail
  refine K.out.mono ?_
  rintro e w' ⟨rfl, rfl⟩
  go_wp2
  go_ret
  exact ⟨ret_bool H.out, rfl⟩
set_option maxHeartbeats 400000 in
/-- slices.IndexFunc at slices of ints -/
theorem f104_any (A : Option Addr) (n c : Nat) (xs : List (List Int)) (f : FuncId) (cap : Array Value) (p : List Int → Bool) (w : World) (hs : Beds w A n c xs)
    (hf : ∀ (args : Array Value) (w : World), (callFunc f args).run Tryd.prog w = .ok (.enter f args) w)
    (hp : ∀ k, k < n → ∀ B d x, Ints w B (xs.getD k []).length (xs.getD k []) → Calls Tryd.prog f (#[.slice B (xs.getD k []).length d] ++ cap) (w.drewN x) fun e w' => e = .returned (.bool (p (xs.getD k []))) ∧ ∃ q, w' = w.drewN q) :
    Calls Tryd.prog 104 #[.slice A n c, .func (.func f) #[] cap] w fun e w' => e = .returned (.int .i64 (fIdx p xs)) ∧ ∃ q, w' = w.drewN q := by
  have hb : n ≤ 1000000 := hs.small
  have HS := Lib.hid hs
  have HL := Lib.hid hs.len
  have HP := Lib.hid hp
  clear hp hs
  go_enter Tryd.func104, Tryd.ntmps104
  go_wp2
  go_loopw [5, 8] (fun _ i wr => ∃ k : Nat, k ≤ n ∧ i = .int .i64 k ∧ (∀ j, j < k → p (xs.getD j []) = false) ∧ ∃ q, wr = w.drewN q) (fun _ i _ => n - (intOf i).toNat)
  case atStart => exact ⟨0, by omega, rfl, fun j hj => absurd hj (by omega), 0, rfl⟩
  case round =>
    obtain ⟨k, hk, rfl, hbef, q, rfl⟩ := hrel
    have HB := Lib.hid hbef
    clear hbef
    by_cases hlt : k < n
    · obtain ⟨b, off, rfl, B, d, hc, _, _, hi⟩ := HS.out.at_ hlt
      have HK := Lib.hid (HP.out k hlt B d q hi)
      have hll := hi.small
      clear hi
      go_wp2_with fail
      refine HK.out.mono ?_
      rintro e w' ⟨rfl, q2, rfl⟩
      cases hpk : p (xs.getD k [])
      · have HQ := Lib.hid hpk
        clear hpk
        go_wp2
        go_roundw
        case rel => exact ⟨k + 1, by omega, by go_num, fun j hj => by
          rcases Nat.lt_or_ge j k with h | h
          · exact HB.out j h
          · obtain rfl : j = k := by omega
            exact HQ.out, q2, rfl⟩
        case measure => simp [intOf]; omega
      · have HQ := Lib.hid hpk
        clear hpk
        go_wp2
        go_ret
        exact ⟨ret_int (fIdx_hit p xs [] k (by rw [HL.out]; omega) HQ.out HB.out).symm, q2, rfl⟩
    · obtain rfl : k = n := by omega
      go_wp2
      go_ret
      exact ⟨ret_int (fIdx_miss p xs [] (fun j hj => HB.out j (by rw [HL.out] at hj; exact hj))).symm, q, rfl⟩
/-- slices.ContainsFunc at slices of ints -/
theorem f91_any (A : Option Addr) (n c : Nat) (xs : List (List Int)) (f : FuncId) (cap : Array Value) (p : List Int → Bool) (w : World) (hs : Beds w A n c xs)
    (hf : ∀ (args : Array Value) (w : World), (callFunc f args).run Tryd.prog w = .ok (.enter f args) w)
    (hp : ∀ k, k < n → ∀ B d x, Ints w B (xs.getD k []).length (xs.getD k []) → Calls Tryd.prog f (#[.slice B (xs.getD k []).length d] ++ cap) (w.drewN x) fun e w' => e = .returned (.bool (p (xs.getD k []))) ∧ ∃ q, w' = w.drewN q) :
    Calls Tryd.prog 91 #[.slice A n c, .func (.func f) #[] cap] w fun e w' => e = .returned (.bool (xs.any p)) ∧ ∃ q, w' = w.drewN q := by
  have K := Lib.hid (f104_any A n c xs f cap p w hs hf hp)
  have H := Lib.hid (fIdx_any p xs)
  clear hp hs
  go_enter Tryd.func91, Tryd.ntmps91
  go_wp2_with fail
  refine K.out.mono ?_
  rintro e w' ⟨rfl, q, rfl⟩
  go_wp2
  go_ret
  exact ⟨ret_bool H.out, q, rfl⟩
/-- bed.shaped$1$1 -/
theorem f99_any (x : Int) (a : Addr) (N : Nat) (w : World) (hc : w.cell? a = some (.int .i64 (N : Int))) :
    Calls Tryd.prog 99 #[.int .i64 x, .pointer (some a)] w fun e w' => e = .returned (.bool (outB (-1) N x)) ∧ w = w' := by
  unfold outB
  by_cases h1 : x < -1
  · go_enter Tryd.func99, Tryd.ntmps99
    go_wp2
    go_ret
    exact ⟨ret_bool (by simp [h1]), rfl⟩
  · skip
    go_enter Tryd.func99, Tryd.ntmps99
    go_wp2
    go_ret
    exact ⟨ret_bool (by simp; omega), rfl⟩
theorem enter99 (args : Array Value) (w : World) : (callFunc 99 args).run Tryd.prog w = .ok (.enter 99 args) w := by simp [go_sem]
theorem enter97 (args : Array Value) (w : World) : (callFunc 97 args).run Tryd.prog w = .ok (.enter 97 args) w := by simp [go_sem]
set_option maxHeartbeats 400000 in
/-- bed.shaped$1 -/
theorem f97_any (B : Option Addr) (l : List Int) (d : Nat) (a : Addr) (N : Nat) (w : World) (hi : Ints w B l.length l) (hc : w.cell? a = some (.int .i64 (N : Int))) :
    Calls Tryd.prog 97 #[.slice B l.length d, .pointer (some a)] w fun e w' => e = .returned (.bool (badRow (-1) N l)) ∧ w = w' := by
  have K := Lib.hid (f98_any B l.length d l 99 #[.pointer (some a)] (outB (-1) N) w hi enter99 (fun k _ => f99_any _ a N w hc))
  have hl := hi.small
  by_cases h : l.length = N
  · have hq : ((l.length : Int) != (N : Int)) = false := by simp; omega
    have HF : Hid (badRow (-1) N l = l.any (outB (-1) N)) := by unfold badRow; rw [decide_eq_false (fun e => e h), Bool.false_or]; rfl
    generalize l.any (outB (-1) N) = r at *
    generalize l.length = m at *
    clear hi h
    go_enter Tryd.func97, Tryd.ntmps97
    go_wp2_with fail
    refine K.out.mono ?_
    rintro e w' ⟨rfl, rfl⟩
    go_wp2
    go_ret
    exact ⟨ret_bool HF.out.symm, rfl⟩
  · have hq : ((l.length : Int) != (N : Int)) = true := by simp; omega
    have HF := Lib.hid (badRow_len (lo := -1) h)
    generalize l.length = m at *
    clear hi K h
    go_enter Tryd.func97, Tryd.ntmps97
    go_wp2
    go_ret
    exact ⟨ret_bool HF.out.symm, rfl⟩
set_option maxHeartbeats 400000 in
/-- bed.shaped -/
theorem f70_any (A : Option Addr) (n c : Nat) (b : List (List Int)) (w : World) (hs : Beds w A n c b) :
    Calls Tryd.prog 70 #[.slice A n c] w fun e w' => e = .returned (.bool (shapedB b)) ∧ Below w.heap.size w w' := by
  have hl := hs.small
  have K := Lib.hid (f91_any A n c b 97 #[.pointer (some ⟨w.heap.size, 0, none⟩)] (badRow (-1) n) (w.alloc (.cells #[.int .i64 (n : Int)] 3)) (hs.below (below_alloc _ _)) enter97 (fun k _ B d x hi => (f97_any B _ d ⟨w.heap.size, 0, none⟩ n ((w.alloc (.cells #[.int .i64 (n : Int)] 3)).drewN x) (hi.drewN x) (cell_new w _ 3 0)).mono fun e w' h => ⟨h.1, x, h.2.symm⟩))
  have HF : Hid (shapedB b = (decide (1 ≤ n) && decide (n ≤ 7) && !b.any (badRow (-1) n))) := by unfold shapedB; rw [hs.len]; rfl
  have hb := Lib.hid (below_alloc w (.cells #[.int .i64 (n : Int)] 3))
  generalize b.any (badRow (-1) n) = r at *
  have hc := cell_new w #[.int .i64 (n : Int)] 3 0
  simp at hc
  clear hs
  by_cases h1 : n < 1
  · have HF2 : Hid (shapedB b = false) := by rw [HF.out, decide_eq_false (by omega : ¬ 1 ≤ n)]; rfl
    go_enter Tryd.func70, Tryd.ntmps70
    go_wp2
    go_ret
    exact ⟨ret_bool HF2.out.symm, hb.out⟩
  · by_cases h2 : 7 < n
    · have HF2 : Hid (shapedB b = false) := by rw [HF.out, decide_eq_false (by omega : ¬ n ≤ 7), Bool.and_false]; rfl
      go_enter Tryd.func70, Tryd.ntmps70
      go_wp2
      go_ret
      exact ⟨ret_bool HF2.out.symm, hb.out⟩
    · have HF2 : Hid (shapedB b = !r) := by rw [HF.out, decide_eq_true (by omega : 1 ≤ n), decide_eq_true (by omega : n ≤ 7)]; rfl
      go_enter Tryd.func70, Tryd.ntmps70
      go_wp2_with fail
      refine K.out.mono ?_
      rintro e w' ⟨rfl, q, rfl⟩
      have hb2 := Lib.hid (below_drewN hb.out q)
      go_wp2
      go_ret
      exact ⟨ret_bool HF2.out.symm, hb2.out⟩
end Go.Proofs.YtiodednhadnekaaDoor
