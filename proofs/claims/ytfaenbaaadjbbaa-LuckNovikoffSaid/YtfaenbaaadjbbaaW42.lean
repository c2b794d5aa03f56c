/- Walks: Halving; wrong. -/
import Derived.Test.YtfaenbaaadjbbaaW41
import Derived.Test.YtfaenbaaadjbbaaPlain14
namespace Go.Proofs.Ytfaenbaaadjbbaa
open Go.RowKit

theorem m89f (p : Nat) (w : World) : (method 249 89 (.pointer (some ⟨p, 0, none⟩)) "dibber/luck.foretell").run Try.prog w = .ok (125, .pointer (some ⟨p, 0, none⟩)) w := by kernel_rfl
theorem m89l (p : Nat) (w : World) : (method 249 89 (.pointer (some ⟨p, 0, none⟩)) "dibber/luck.learn").run Try.prog w = .ok (64, .pointer (some ⟨p, 0, none⟩)) w := by kernel_rfl
theorem n89l (p : Nat) (w : World) : (nilAhead 249 89 (.pointer (some ⟨p, 0, none⟩)) "dibber/luck.learn").run Try.prog w = .ok (some false) w := by kernel_rfl
theorem enter125 (args : Array Value) (w : World) : (callFunc 125 args).run Try.prog w = .ok (.enter 125 args) w := by simp [go_sem]
/-- Of the first k, so many have 0 faults; and so many of them say 1. -/
def alL (ws : List Int) : Nat → Nat := sumN fun f => if ws.getD f 0 = 0 then 1 else 0
def onL (ss ws : List Int) : Nat → Nat := sumN fun f => if ws.getD f 0 = 0 ∧ ss.getD f 0 = 1 then 1 else 0
theorem alL_le (ws : List Int) (k : Nat) : alL ws k ≤ k := by
  induction k with
  | zero => exact Nat.le_refl _
  | succ k ih => show alL ws k + (if ws.getD k 0 = 0 then 1 else 0) ≤ k + 1; split <;> omega
theorem onL_le (ss ws : List Int) (k : Nat) : onL ss ws k ≤ k := by
  induction k with
  | zero => exact Nat.le_refl _
  | succ k ih => show onL ss ws k + (if ws.getD k 0 = 0 ∧ ss.getD k 0 = 1 then 1 else 0) ≤ k + 1; split <;> omega
theorem alL_wr (said : List (List Int)) (came : List Int) (n i : Nat) : alL (wrL said came n i) n = alTo said came i n := by
  unfold alL alTo
  refine sumN_congr fun f hf => ?_
  rw [wrL_get hf]
  by_cases h : wr said came f i = 0 <;> simp [h]
theorem onL_wr (said : List (List Int)) (came : List Int) (n i : Nat) : onL (said.getD i []) (wrL said came n i) n = onTo said came i n := by
  unfold onL onTo
  refine sumN_congr fun f hf => ?_
  rw [wrL_get hf]
  by_cases h : wr said came f i = 0 <;> simp [h]
set_option maxRecDepth 100000 in
set_option maxHeartbeats 2000000 in
/-- (*luck.halving).foretell -/
theorem f125_any (p g n c : Nat) (A : Option Addr) (ss ws : List Int) (w : World) (hs : Ints w A n ss) (hp : w.cell? ⟨p, 0, none⟩ = some (.slice (some ⟨g, 0, none⟩) n n)) (ho : Own w g ws) (hl : ws.length = n) (hn : n ≤ 20)
    (hb : ∀ j, j < n → ss.getD j 0 = 0 ∨ ss.getD j 0 = 1) :
    Calls Try.prog 125 #[.pointer (some ⟨p, 0, none⟩), .slice A n c] w fun e w' => e = .returned (.int .i64 (if alL ws n < 2 * onL ss ws n then 1 else 0)) ∧ w = w' := by
  have HB := Lib.hid hb
  have HO := Lib.hid ho
  have HS := Lib.hid hs
  have HL := Lib.hid hl
  have HA : Hid (∀ k, alL ws (k + 1) = alL ws k + if ws.getD k 0 = 0 then 1 else 0) := fun k => rfl
  have HN : Hid (∀ k, onL ss ws (k + 1) = onL ss ws k + if ws.getD k 0 = 0 ∧ ss.getD k 0 = 1 then 1 else 0) := fun k => rfl
  have b1 := Lib.hid (alL_le ws)
  have b2 := Lib.hid (onL_le ss ws)
  have z1 : Hid (alL ws 0 = 0) := rfl
  have z2 : Hid (onL ss ws 0 = 0) := rfl
  obtain ⟨F, hF⟩ : ∃ F, F = alL ws := ⟨_, rfl⟩
  obtain ⟨G, hG⟩ : ∃ G, G = onL ss ws := ⟨_, rfl⟩
  rw [← hF] at HA b1 z1 ⊢
  rw [← hG] at HN b2 z2 ⊢
  obtain ⟨r, hr⟩ : ∃ r : Int, r = if F n < 2 * G n then 1 else 0 := ⟨_, rfl⟩
  rw [← hr]
  have HRR := Lib.hid hr
  clear hs ho hl hb hF hG hr
  go_enter Try.func125, Try.ntmps125
  go_wp2
  go_loop [5, 6, 7, 8, 11] (fun o a _ _ i => ∃ k : Nat, k ≤ n ∧ i = .int .i64 (k : Int) ∧ o = .int .i64 (G k : Int) ∧ a = .int .i64 (F k : Int)) (fun _ _ _ _ i => n - (intOf i).toNat)
  case atStart => exact ⟨0, by omega, rfl, by rw [z2.out]; rfl, by rw [z1.out]; rfl⟩
  case round => as_aux_lemma =>
    obtain ⟨k, hk, rfl, rfl, rfl⟩ := hrel
    have v1 := b1.out k
    have v2 := b2.out k
    by_cases hlt : k < n
    · obtain ⟨b, off, rfl, hc⟩ := HS.out.at_ hlt
      have hcg := HO.out.cell k (by rw [HL.out]; exact hlt)
      have s1 := Lib.hid (HA.out k)
      have s2 := Lib.hid (HN.out k)
      have hbk := HB.out k hlt
      generalize ss.getD k 0 = s at *
      generalize ws.getD k 0 = y at *
      generalize F k = u at *
      generalize G k = v at *
      have hki : (0 : Int) ≤ (k : Int) := by omega
      have hkn : (k : Int) < (n : Int) := by omega
      by_cases h : y = 0
      · have hq : (y == 0) = true := by simpa using h
        rw [if_pos h] at s1
        obtain ⟨t, ht⟩ : ∃ t : Nat, s = t := nat_of s (by omega)
        have ht1 : t ≤ 1 := by omega
        have hsv : Hid (G (k + 1) = v + t) := by rw [s2.out]; subst h; unfold Hid; rcases hbk with h1 | h1 <;> simp [h1] <;> omega
        subst ht h
        clear hbk s2
        go_wp2
        go_round
        case rel => exact ⟨k + 1, by omega, by go_num, by rw [hsv.out]; go_num, by rw [s1.out]; go_num⟩
        case measure => simp [intOf]; omega
      · have hq : (y == 0) = false := by simpa using h
        rw [if_neg h] at s1
        rw [if_neg (fun h2 => h h2.1)] at s2
        clear h hbk
        go_wp2
        go_round
        case rel => exact ⟨k + 1, by omega, by go_num, by rw [s2.out]; rfl, by rw [s1.out]; rfl⟩
        case measure => simp [intOf]; omega
    · obtain rfl : k = n := by omega
      generalize F k = u at *
      generalize G k = v at *
      by_cases h : u < 2 * v
      · have hq : (u : Int) < 2 * (v : Int) := by omega
        have hfin : Hid (r = 1) := by rw [HRR.out, if_pos h]; rfl
        clear h HRR
        go_wp2
        go_ret
        exact ⟨ret_int hfin.out.symm, rfl⟩
      · have hq : ¬ (u : Int) < 2 * (v : Int) := by omega
        have hfin : Hid (r = 0) := by rw [HRR.out, if_neg h]; rfl
        clear h HRR
        go_wp2
        go_ret
        exact ⟨ret_int hfin.out.symm, rfl⟩
/-- A new list and an error came back. -/
def SlE (w : World) (xs : List Int) (err : Int) (e : Ending) (w' : World) : Prop := ∃ A k c, e = .returned (.tuple #[.slice A k c, .int .i64 err]) ∧ Ints w' A k xs ∧ Below w.heap.size w w'
def tellH (n : Int) (said : List (List Int)) (came : List Int) : List Int := if recErr n said came = 0 then toldL (halfF said came n.toNat) said.length else []
set_option maxRecDepth 100000 in
set_option maxHeartbeats 4000000 in
theorem f41_any (A B : Option Addr) (n : Int) (k c m d : Nat) (said : List (List Int)) (came : List Int) (w : World) (hs : IntsS w A k said) (ho : Ints w B m came) :
    Calls Try.prog 41 #[.int .i64 n, .slice A k c, .slice B m d] w (SlE w (tellH n said came) (recErr n said came)) := by
  have k60 := Lib.hid (f60_any A B n k c m d said came w hs ho)
  by_cases h0 : recErr n said came = 0
  · obtain ⟨N, rfl, g1, g2, g3, g4, g5, g6⟩ := recErr_facts h0
    have e1 : tellH (N : Int) said came = toldL (halfF said came N) k := by unfold tellH; rw [if_pos h0, Int.toNat_natCast, hs.len]
    have hmk0 : m = k := by have := ho.len; have := hs.len; omega
    rw [e1, h0]
    rw [h0] at k60
    subst hmk0
    have HS := Lib.hid hs
    have HO := Lib.hid ho
    have hlen := hs.len
    have HR : Hid (∀ i, i < m → (said.getD i []).length = N ∧ ∀ j, j < N → (said.getD i []).getD j 0 = 0 ∨ (said.getD i []).getD j 0 = 1) := fun i hi => ⟨(g5 i (by omega)).1, fun j _ => bit_get (g5 i (by omega)).2 j⟩
    have hm200 : m ≤ 200 := by omega
    clear hs ho h0 g3 g4 g5 g6 e1 hlen
    go_enter Try.func41, Try.ntmps41
    go_wp2_with fail
    refine k60.out.mono ?_
    rintro e w1 ⟨rfl, hb⟩
    have B1 := Lib.hid hb
    clear hb
    have hmk := make_ints N (by omega) w1
    obtain ⟨w2, hw2⟩ : ∃ w2, w2 = w1.alloc (.cells ((List.replicate N (0 : Int)).map (Value.int .i64)).toArray 3) := ⟨_, rfl⟩
    rw [← hw2] at hmk
    have hz2 : w2.heap.size = w1.heap.size + 1 := by rw [hw2]; simp
    have B2 : Hid (Below w.heap.size w w2) := by rw [hw2]; exact below_step B1.out (below_alloc _ _)
    have O2 : Hid (Own w2 w1.heap.size (wrL said came N 0)) := by rw [hw2, wrL_zero]; exact Own.made w1 N
    have HZ2 := Lib.hid hz2
    clear hw2 hz2
    have S0 : Hid (StF w2.heap.size w1.heap.size N said came 0 (w2.alloc (.cells #[.slice (some ⟨w1.heap.size, 0, none⟩) N N] 90))) := ⟨cell_new _ _ _ _, O2.out.alloc _⟩
    have hz1 : w.heap.size ≤ w1.heap.size := B1.out.size
    have hbig : Hid (∀ W : World, W.heap = (w2.alloc (.cells #[.slice (some ⟨w1.heap.size, 0, none⟩) N N] 90)).heap → Below w.heap.size w W → Calls Try.prog 61 #[.iface 89 (.pointer (some ⟨w2.heap.size, 0, none⟩)), .slice A m c, .slice B m d] W
        fun e w' => ∃ v, e = .returned v ∧ Row w' W.heap.size v (toldL (halfF said came N) m) ∧ Below w.heap.size w w' ∧ StF w2.heap.size w1.heap.size N said came m w') := fun W hW hB =>
      f61_any 89 125 64 w2.heap.size w1.heap.size m c d A B said came (halfF said came N) (StF w2.heap.size w1.heap.size N said came) w W (m89f _) (m89l _) (n89l _) enter125 enter64 HS.out HO.out hm200 hB
        (by rw [HZ2.out]; omega) hz1 (by rw [hW]; simp) (by rw [hW]; simp [HZ2.out]; omega) (S0.out.keep (by rw [hW]) (by rw [hW])) (fun i w w' h1 h2 h3 => h1.keep h2 h3)
        (fun i hi W D e hI hst => by
          obtain ⟨hl, hb⟩ := HR.out i hi
          rw [hl] at hI ⊢
          have h := f125_any w2.heap.size w1.heap.size N e D _ _ W hI hst.1 hst.2 (wrL_len _ _ _ _) g2 hb
          rw [alL_wr, onL_wr] at h
          refine h.mono ?_
          rintro e w' ⟨rfl, rfl⟩
          exact ⟨rfl, Below.refl _ _⟩)
        (fun i hi W D e hI hD hst => StF.learn (by omega) (HR.out i hi).1 (by omega) (by rw [HZ2.out]; omega) hI hD hst)
    have B3 := Lib.hid (B2.out.alloc B2.out.size (.cells #[.slice (some ⟨w1.heap.size, 0, none⟩) N N] 90))
    have hcp := S0.out.1
    have K61 := Lib.hid (hbig.out _ rfl B3.out)
    clear hz1 hbig
    go_wp2_with fail
    refine K61.out.mono ?_
    rintro e w4 ⟨v, rfl, hrow, hb4, hst⟩
    obtain ⟨A4, c4, hv, hi4⟩ := hrow.form
    have hi4 := hi4 200 (by rw [toldL_len]; omega) (by omega)
    rw [toldL_len] at hv hi4
    subst hv
    have HI4 := Lib.hid hi4
    have HB4 := Lib.hid hb4
    clear hrow hi4 hb4 hst hcp
    go_wp2
    go_ret2
    exact ⟨_, _, _, rfl, HI4.out, HB4.out⟩
  · have e1 : tellH n said came = [] := by unfold tellH; rw [if_neg h0]
    rw [e1]
    generalize recErr n said came = er at *
    have hq : (er != 0) = true := by simpa using h0
    clear hs ho h0 e1
    go_enter Try.func41, Try.ntmps41
    go_wp2_with fail
    refine k60.out.mono ?_
    rintro e w1 ⟨rfl, hb⟩
    have HB := Lib.hid hb
    clear hb
    go_wp2
    go_ret2
    exact ⟨_, _, _, rfl, Ints.nil _ _, HB.out⟩
set_option maxRecDepth 100000 in
set_option maxHeartbeats 2000000 in
/-- dibberlaw05.wrong -/
theorem f36_any (A B : Option Addr) (k c d : Nat) (xs ys : List Int) (w : World) (hx : Ints w A k xs) (hy : Ints w B k ys) :
    Calls Try.prog 36 #[.slice A k c, .slice B k d] w fun e w' => e = .returned (.int .i64 (missTo xs ys k : Int)) ∧ ∃ q, w' = w.drewN q := by
  have HX := Lib.hid hx
  have HY := Lib.hid hy
  have hks := hx.small
  have HM : Hid (∀ j, missTo xs ys (j + 1) = missTo xs ys j + if xs.getD j 0 = ys.getD j 0 then 0 else 1) := fun j => rfl
  have HLE := Lib.hid (missTo_le xs ys)
  have HZ : Hid (missTo xs ys 0 = 0) := rfl
  obtain ⟨F, hF⟩ : ∃ F, F = missTo xs ys := ⟨_, rfl⟩
  rw [← hF] at HM HLE HZ ⊢
  clear hx hy hF
  go_enter Try.func36, Try.ntmps36
  go_wp2
  go_loopw [5, 6] (fun n i wr => ∃ j : Nat, j ≤ k ∧ i = .int .i64 (j : Int) ∧ n = .int .i64 (F j : Int) ∧ ∃ q, wr = w.drewN q) (fun _ i _ => k - (intOf i).toNat)
  case atStart => exact ⟨0, by omega, rfl, by rw [HZ.out]; rfl, 0, rfl⟩
  case round => as_aux_lemma =>
    obtain ⟨j, hj, rfl, rfl, q, rfl⟩ := hrel
    have hv := HLE.out j
    by_cases hlt : j < k
    · obtain ⟨b1, o1, rfl, h1⟩ := HX.out.at_ hlt
      obtain ⟨b2, o2, rfl, h2⟩ := HY.out.at_ hlt
      have hst := Lib.hid (HM.out j)
      generalize xs.getD j 0 = x at *
      generalize ys.getD j 0 = y at *
      generalize F j = v at *
      have j0 : (0 : Int) ≤ (j : Int) := by omega
      have j1 : (j : Int) < (k : Int) := by omega
      by_cases he : x = y
      · have hq : (x != y) = false := by simpa using he
        rw [if_pos he] at hst
        clear he
        go_wp2
        go_quiet (fail)
        go_wp2
        go_roundw
        case rel => exact ⟨j + 1, by omega, by go_num, by rw [hst.out]; rfl, by first | exact ⟨_, rfl⟩ | exact ⟨_, World.drewN_drewN _ _ _⟩⟩
        case measure => simp [intOf]; omega
      · have hq : (x != y) = true := by simpa using he
        rw [if_neg he] at hst
        clear he
        go_wp2
        go_quiet (fail)
        go_wp2
        go_roundw
        case rel => exact ⟨j + 1, by omega, by go_num, by rw [hst.out]; go_num, by first | exact ⟨_, rfl⟩ | exact ⟨_, World.drewN_drewN _ _ _⟩⟩
        case measure => simp [intOf]; omega
    · obtain rfl : j = k := by omega
      go_wp2
      go_ret
      exact ⟨rfl, q, rfl⟩
end Go.Proofs.Ytfaenbaaadjbbaa
