/- Walks: parts. -/
import Derived.Test.YtiodednhadnekaaDoorW46
namespace Go.Proofs.YtiodednhadnekaaDoor
open Go.RowKit Go.Deep
attribute [local go_sem ↓] Go.wp_at_zero Go.wp_at_succ

section
variable (n : Nat) (b : List (List Int)) (w0 : World) (B : Option Addr) (cb gU cU : Nat) (gr : Nat → Nat)
set_option maxHeartbeats 2000000 in
theorem f23_end : PartsC n b w0 B cb gU cU gr 0 n := by
  intro o w _ hU _
  have HU := Lib.hid hU
  have HR : Hid (mtAny n (trans b n) 0 n o = true) := rfl
  have hq : ((n : Int) == (n : Int)) = true := by simp
  clear hU
  go_enter Tryd.func23, Tryd.ntmps23
  go_wp2
  go_ret
  exact ⟨ret_bool HR.out.symm, Kept.refl _ _, HU.out⟩
set_option maxHeartbeats 2000000 in
theorem f23_step (hn5 : n ≤ 5) (f k : Nat) (hk : k < n) (ih : PartC n b w0 B cb gU cU gr f k (n - 1) [k]) : PartsC n b w0 B cb gU cU gr (f + 1) k := by
  intro o w hS hU hbel
  have h0 : o 0 k < 0 := (hS.top k hk).2 (Nat.le_refl _)
  have HR : Hid (mtAny n (trans b n) (f + 1) k o = partF b n f k o (n - 1) [k]) := mtAny_part b n f k o hk h0
  have hq : ((k : Int) == (n : Int)) = false := by simp; omega
  have HNEW : Own (w.alloc (.cells #[.int .i64 (k : Int)] 3)) w.heap.size [(k : Int)] := heap_alloc_new w _
  have hint : IntsN (fun _ i => OwnU n gr i) (w.alloc (.cells #[.int .i64 (k : Int)] 3)) (some ⟨w.heap.size, 0, none⟩) [k] := ⟨HNEW.ints' rfl (by show 1 ≤ _; omega), fun g o' e ⟨p, hp, e2⟩ => by
    injection e with e
    injection e with e3 _
    have h := lt_of_cell (hU.val p 0 hp (by omega))
    have h : gr p < w.heap.size := h
    omega⟩
  have K69 : Hid (Calls Tryd.prog 69 #[.slice B n cb, .slice (some ⟨gU, 0, none⟩) n cU, .int .i64 (k : Int), .slice (some ⟨w.heap.size, 0, none⟩) 1 1] (w.alloc (.cells #[.int .i64 (k : Int)] 3)) fun e w' => e = .returned (.bool (partF b n f k o (n - 1) [k])) ∧ Kept (fun _ i => OwnU n gr i) (w.alloc (.cells #[.int .i64 (k : Int)] 3)) w' ∧ UsedM w' gU gr n (usedO o)) :=
    Lib.hid (ih o (some ⟨w.heap.size, 0, none⟩) 1 (w.alloc (.cells #[.int .i64 (k : Int)] 3)) hS (hU.below (below_alloc w _)) (hbel.alloc hbel.size _) hint (Nat.le_refl _) (fun i hi => by
      have hi : i < 1 := hi
      obtain rfl : i = 0 := by omega
      exact h0))
  have HK := Lib.hid (keptU_below (Kept.refl (fun _ i => OwnU n gr i) w) (below_alloc w (.cells #[.int .i64 (k : Int)] 3)))
  clear hS hU hbel HNEW hint ih h0
  go_enter Tryd.func23, Tryd.ntmps23
  go_wp2_with fail
  refine K69.out.mono ?_
  rintro e w2 ⟨rfl, h1, h2⟩
  have K2 := Lib.hid (HK.out.trans h1)
  have U2 := Lib.hid h2
  clear h1 h2 K69
  go_wp2
  go_ret
  exact ⟨ret_bool HR.out.symm, K2.out, U2.out⟩
/-- dibberlaw01.part -/
theorem f69_any (hb : IsFull n b) (hs : Beds w0 B n cb b) (hn : 0 < n) (hn5 : n ≤ 5) (hgr : ∀ r, r < n → w0.heap.size ≤ gr r) (f k : Nat) (hk : k < n) (ih : PartsC n b w0 B cb gU cU gr f (k + 1)) : ∀ (j : Nat) (l : List Nat), l.length + j = n → 0 < l.length → l.getD 0 0 = k → (∀ i, i < l.length → l.getD i 0 < n) → PartC n b w0 B cb gU cU gr f k j l
  | 0, l, h, h1, h2, h3 => f69_end n b w0 B cb gU cU gr hn hn5 hgr f k hk l (by omega) h2 (fun i hi => h3 i (by omega)) ih
  | j + 1, l, h, h1, h2, h3 => f69_step n b w0 B cb gU cU gr hb hs hn5 hgr f k hk j l h h1 h3 fun c hc => f69_any hb hs hn hn5 hgr f k hk ih j (l ++ [c]) (by simp; omega) (by simp) (by rw [getD_app1 h1]; exact h2) (fun i hi => by
      rw [List.length_append, List.length_singleton] at hi
      rcases Nat.lt_or_ge i l.length with h4 | h4
      · rw [getD_app1 h4]; exact h3 i h4
      · obtain rfl : i = l.length := by omega
        rw [getD_app2]; exact hc)
/-- dibberlaw01.parts -/
theorem f23_any (hb : IsFull n b) (hs : Beds w0 B n cb b) (hn : 0 < n) (hn5 : n ≤ 5) (hgr : ∀ r, r < n → w0.heap.size ≤ gr r) : ∀ (f k : Nat), k + f = n → PartsC n b w0 B cb gU cU gr f k
  | 0, k, h => by
    obtain rfl : k = n := by omega
    exact f23_end k b w0 B cb gU cU gr
  | f + 1, k, h => f23_step n b w0 B cb gU cU gr hn5 f k (by omega) (f69_any n b w0 B cb gU cU gr hb hs hn hn5 hgr f k (by omega) (f23_any hb hs hn hn5 hgr f (k + 1) (by omega)) (n - 1) [k] (by simp; omega) (by simp) rfl (fun i hi => by
      have hi : i < 1 := hi
      obtain rfl : i = 0 := by omega
      show k < n
      omega))
end
end Go.Proofs.YtiodednhadnekaaDoor
