/- Walks: Regret (both). -/
import Derived.Test.YtfaenbaaadjbbaaW3
import Derived.Deep.RegionWith
namespace Go.Proofs.Ytfaenbaaadjbbaa
open Go.RowKit

def regErr (k folk : Int) (said : List (List Int)) : Int := if saidOk k folk said then 0 else 2
def regX (k folk : Int) (said : List (List Int)) : Int := if saidOk k folk said then regN k.toNat folk.toNat said else 0
def regY (k folk : Int) (said : List (List Int)) : Int := if saidOk k folk said then regD k.toNat folk.toNat said else 0
theorem saidOk_facts {k folk : Int} {said : List (List Int)} (h : saidOk k folk said = true) : ∃ m f : Nat, k = m ∧ folk = f ∧ 1 ≤ m ∧ m ≤ 10 ∧ 1 ≤ f ∧ f ≤ 20 ∧ said.length = m ∧ (∀ i, i < m → (said.getD i []).length = f) ∧ Bits said m f := by
  have h' := h
  unfold saidOk at h'
  rw [Bool.and_eq_true, decide_eq_true_eq, List.all_eq_true] at h'
  obtain ⟨⟨h1, h2, h3, h4, h5⟩, h6⟩ := h'
  obtain ⟨m, rfl⟩ := nat_of k (by omega)
  obtain ⟨f, rfl⟩ := nat_of folk (by omega)
  refine ⟨m, f, rfl, rfl, by omega, by omega, by omega, by omega, by omega, fun i hi => ?_, bits_of h⟩
  have hil : i < said.length := by omega
  have := h6 _ (List.getElem_mem hil)
  unfold bitsB at this
  rw [Bool.and_eq_true, decide_eq_true_eq] at this
  have e : said.getD i [] = said[i] := by simp [List.getD_eq_getElem?_getD, hil]
  rw [e]; omega
theorem below_alloc2 (w : World) (o p : Obj) : Below w.heap.size w ((w.alloc o).alloc p) := (below_alloc w o).alloc (by simp) p
theorem bcell {W w1 : World} (hb : Below W.heap.size W w1) : (∀ b o, b < W.heap.size → w1.cell? ⟨b, o, none⟩ = W.cell? ⟨b, o, none⟩) ∧ (∀ b o, b < W.heap.size → w1.frozen? ⟨b, o, none⟩ = W.frozen? ⟨b, o, none⟩) :=
  ⟨fun b o h => hb.cell (p := ⟨b, o, none⟩) h, fun b o h => hb.frozen (p := ⟨b, o, none⟩) h⟩
/-- A ratio and an error came back. -/
def RatErr (w : World) (x y err : Int) (e : Ending) (w' : World) : Prop := e = .returned (.tuple #[.agg #[.int .i64 x, .int .i64 y], .int .i64 err]) ∧ Below w.heap.size w w'
set_option maxHeartbeats 2000000 in
theorem f18_good (A : Option Addr) (k folk c : Nat) (said : List (List Int)) (w : World) (hs : IntsS w A k said) (hk1 : 1 ≤ k) (hk : k ≤ 10) (hf1 : 1 ≤ folk) (hf : folk ≤ 20) (hok : saidOk k folk said = true) (hl : ∀ i, i < k → (said.getD i []).length = folk) (hbt : Bits said k folk) :
    Calls Try.prog 18 #[.int .i64 (k : Int), .int .i64 (folk : Int), .slice A k c] w (RatErr w (regN k folk said) (regD k folk said) 0) := by
  have k19 := Lib.hid (f19_any A k folk k c said (w.alloc (.cells #[.int .i64 0, .int .i64 0] 26)) (hs.below (below_alloc _ _)))
  rw [hok] at k19
  have hH := Lib.hid (hs.below (below_alloc w (.cells #[.int .i64 0, .int .i64 0] 26)))
  have HL := Lib.hid hl
  obtain ⟨N, hN, hshl⟩ := shl_one k (by omega)
  have hN2 : N ≤ 1024 := by rw [hN]; exact pow10 k hk
  have HN := Lib.hid hN
  have hsum := Lib.hid (sum_le hbt hk1 hf1)
  clear hs hok hl hN
  go_enter Try.func18, Try.ntmps18
  go_wp2_with fail
  refine k19.out.mono ?_
  rintro e w' ⟨rfl, rfl⟩
  go_wp2
  go_loopw [8, 9] (fun t i wr => ∃ n : Nat, n ≤ N ∧ i = .int .i64 (n : Int) ∧ t = .int .i64 (sumTo said k folk n : Int) ∧ ∃ m, wr = (w.alloc (.cells #[.int .i64 0, .int .i64 0] 26)).drewN m) (fun _ i _ => N - (intOf i).toNat)
  case atStart => exact ⟨0, by omega, rfl, rfl, 0, rfl⟩
  case round =>
    obtain ⟨n, hn, rfl, rfl, m, rfl⟩ := hrel
    have hle := sumTo_le said k folk n
    have hle2 : sumTo said k folk n ≤ 10240 := Nat.le_trans hle (Nat.le_trans (Nat.mul_le_mul hn hk) (by omega))
    clear hle
    by_cases hlt : n < N
    · have hst : Hid (sumTo said k folk (n + 1) = sumTo said k folk n + bestTo said k n folk) := rfl
      have hble := bestTo_le said k n folk
      have k21 := Lib.hid (f21_any A k folk c n said _ (hH.out.drewN m) hk hf HL.out)
      generalize sumTo said k folk n = v at *
      generalize bestTo said k n folk = t at *
      go_wp2_with fail
      refine k21.out.mono ?_
      rintro e w' ⟨rfl, m2, rfl⟩
      go_wp2
      go_roundw
      case rel => exact ⟨n + 1, by omega, by go_num, by rw [hst.out]; go_num, by first | exact ⟨_, rfl⟩ | exact ⟨_, World.drewN_drewN _ _ _⟩⟩
      case measure => simp [intOf]; omega
    · obtain rfl : n = N := by omega
      have hp1 : 2 ^ (k - 1) ≤ 512 := Nat.le_trans (Nat.pow_le_pow_right (by omega) (by omega : k - 1 ≤ 9)) (by decide)
      have hM : k * 2 ^ (k - 1) ≤ 5120 := Nat.le_trans (Nat.mul_le_mul hk hp1) (by omega)
      have hsum2 : sumTo said k folk n ≤ k * 2 ^ (k - 1) := by rw [HN.out]; exact hsum.out
      have hXX : Hid (k * 2 ^ (k - 1) - sumTo said k folk n = k * 2 ^ (k - 1) - sumTo said k folk (2 ^ k)) := by rw [← HN.out]; rfl
      have hpos : 0 < n := by rw [HN.out]; exact Nat.pow_pos (by omega)
      have f1 : IntKind.i64.wrap ((k : Int) - 1) = ((k - 1 : Nat) : Int) := by rw [IntWalk.i64_in _ (by omega)]; omega
      have f2 : IntKind.i64.wrap ((k : Int) * 2 ^ (k - 1)) = ((k * 2 ^ (k - 1) : Nat) : Int) := by
        have e : ((k : Int) * 2 ^ (k - 1)) = ((k * 2 ^ (k - 1) : Nat) : Int) := by simp
        rw [e]; exact IntWalk.i64_in _ (by omega)
      generalize sumTo said k folk n = S at *
      have f3 : IntKind.i64.wrap (((k * 2 ^ (k - 1) : Nat) : Int) - S) = ((k * 2 ^ (k - 1) - S : Nat) : Int) := by rw [IntWalk.i64_in _ (by omega)]; omega
      have hM2 : k * 2 ^ (k - 1) - S ≤ 5120 := by omega
      obtain ⟨X, hXd⟩ : ∃ X, X = k * 2 ^ (k - 1) - S := ⟨_, rfl⟩
      rw [← hXd] at hXX f3 hM2
      obtain ⟨M, hMd⟩ : ∃ M, M = k * 2 ^ (k - 1) := ⟨_, rfl⟩
      rw [← hMd] at f2 f3
      clear hXd hMd
      have k53 := Lib.hid (fun w => f53_any X n w (by omega) (by omega) hpos)
      clear hpos hM2 hM hp1 hsum2
      go_wp2
      go_region_with ((go_at_call 53; refine (k53.out _).mono ?_; rintro e w' ⟨rfl, hb⟩; obtain ⟨hc1, hc2⟩ := bcell hb; have hz := hb.size; simp at hz; have HB := Lib.hid hb; clear hb))
      go_wp2
      have hX2 : Hid (X = k * 2 ^ (k - 1) - sumTo said k folk (2 ^ k)) := hXX.out
      have hr : Hid ((ratN X n : Int) = regN k folk said ∧ (ratD X n : Int) = regD k folk said) := by
        rw [hX2.out, HN.out]; exact ⟨rfl, rfl⟩
      refine bodyPost_ret (v := .tuple #[.agg #[.int .i64 (ratN X n : Int), .int .i64 (ratD X n : Int)], .int .i64 0]) (by simp [results, Try.results18, go_sem, hc1]) rfl ?_
      exact ⟨by rw [hr.out.1, hr.out.2], ((below_step (below_drewN (below_alloc w _) _) HB.out).setCell (by simp) _).setCell (by simp) _⟩
theorem ratErr_no {w : World} {k folk : Int} {said : List (List Int)} (h : saidOk k folk said = false) : RatErr w (regX k folk said) (regY k folk said) (regErr k folk said) = RatErr w 0 0 2 := by
  simp [regX, regY, regErr, h]
theorem ratErr_yes {w : World} {k folk : Nat} {said : List (List Int)} (h : saidOk k folk said = true) : RatErr w (regX k folk said) (regY k folk said) (regErr k folk said) = RatErr w (regN k folk said) (regD k folk said) 0 := by
  simp [regX, regY, regErr, h]
set_option maxHeartbeats 1000000 in
/-- dibberref05.Regret -/
theorem f18_any (A : Option Addr) (k folk : Int) (n c : Nat) (said : List (List Int)) (w : World) (hs : IntsS w A n said) :
    Calls Try.prog 18 #[.int .i64 k, .int .i64 folk, .slice A n c] w (RatErr w (regX k folk said) (regY k folk said) (regErr k folk said)) := by
  cases hok : saidOk k folk said
  · rw [ratErr_no hok]
    have k19 := Lib.hid (f19_any A k folk n c said (w.alloc (.cells #[.int .i64 0, .int .i64 0] 26)) (hs.below (below_alloc _ _)))
    rw [hok] at k19
    clear hs hok
    go_enter Try.func18, Try.ntmps18
    go_wp2_with fail
    refine k19.out.mono ?_
    rintro e w' ⟨rfl, rfl⟩
    go_wp2
    refine bodyPost_ret (v := .tuple #[.agg #[.int .i64 0, .int .i64 0], .int .i64 2]) (by simp [results, Try.results18, go_sem]) rfl ?_
    exact ⟨rfl, below_alloc w _⟩
  · obtain ⟨m, f, rfl, rfl, h1, h2, h3, h4, h5, h6, h7⟩ := saidOk_facts hok
    rw [ratErr_yes hok]
    obtain rfl : n = m := by rw [← hs.len]; exact h5
    exact f18_good A n f c said w hs h1 h2 h3 h4 hok h6 h7
theorem said_rows {k folk : Int} {said : List (List Int)} (h1 : 1 ≤ k ∧ k ≤ 10 ∧ 1 ≤ folk ∧ folk ≤ 20 ∧ (said.length : Int) = k) : (said.any fun l => !bitsB folk l) = !saidOk k folk said := by
  unfold saidOk
  rw [decide_eq_true h1, Bool.true_and]
  induction said with
  | nil => rfl
  | cons a l ih =>
    have hg : ∀ l : List (List Int), (l.any fun l => !bitsB folk l) = !l.all (bitsB folk) := by
      intro l
      induction l with
      | nil => rfl
      | cons a l ih => simp only [List.any_cons, List.all_cons, Bool.not_and, ih]
    exact hg _
set_option maxHeartbeats 2000000 in
/-- luck.Regret, refused -/
theorem f17_no (A : Option Addr) (k folk : Int) (n c : Nat) (said : List (List Int)) (w : World) (hs : IntsS w A n said) (hok : saidOk k folk said = false) :
    Calls Try.prog 17 #[.int .i64 k, .int .i64 folk, .slice A n c] w (RatErr w 0 0 2) := by
  have hsm := hs.small
  by_cases h : 1 ≤ k ∧ k ≤ 10 ∧ 1 ≤ folk ∧ folk ≤ 20 ∧ (n : Int) = k
  · have hany := said_rows (k := k) (folk := folk) (said := said) (by rw [hs.len]; exact h)
    rw [hok] at hany
    have k49 : Hid (Calls Try.prog 49 #[.slice A n c, .func (.func 50) #[] #[.pointer (some ⟨w.heap.size, 0, none⟩)]] ((w.alloc (.cells #[.int .i64 folk] 3)).alloc (.cells #[.int .i64 0, .int .i64 0] 26)) fun e w' =>
        e = .returned (.bool (said.any fun l => !bitsB folk l)) ∧ (w.alloc (.cells #[.int .i64 folk] 3)).alloc (.cells #[.int .i64 0, .int .i64 0] 26) = w') :=
      f49_any A n c said 50 #[.pointer (some ⟨w.heap.size, 0, none⟩)] (fun l => !bitsB folk l) _ (hs.below ((below_alloc w _).alloc (by simp) _)) enter50 (fun l B d hi => f50_any B d l w.heap.size folk _ hi (by simp [go_sem]))
    rw [hany] at k49
    obtain ⟨h1, h2, h3, h4, rfl⟩ := h
    clear hs hok hany
    have hq : ((n : Int) != n) = false := by simp
    go_enter Try.func17, Try.ntmps17
    go_wp2_with fail
    refine k49.out.mono ?_
    rintro e w' ⟨rfl, rfl⟩
    go_wp2
    refine bodyPost_ret (v := .tuple #[.agg #[.int .i64 0, .int .i64 0], .int .i64 2]) (by simp [results, Try.results17, go_sem]) rfl ?_
    exact ⟨rfl, below_alloc2 w _ _⟩
  · clear hs hok
    by_cases t1 : k < 1
    · clear h
      go_enter Try.func17, Try.ntmps17
      go_wp2
      exact bodyPost_ret (v := .tuple #[.agg #[.int .i64 0, .int .i64 0], .int .i64 2]) (by simp [results, Try.results17, go_sem]) rfl ⟨rfl, below_alloc2 w _ _⟩
    by_cases t2 : 10 < k
    · clear h
      go_enter Try.func17, Try.ntmps17
      go_wp2
      exact bodyPost_ret (v := .tuple #[.agg #[.int .i64 0, .int .i64 0], .int .i64 2]) (by simp [results, Try.results17, go_sem]) rfl ⟨rfl, below_alloc2 w _ _⟩
    by_cases t3 : folk < 1
    · clear h
      go_enter Try.func17, Try.ntmps17
      go_wp2
      exact bodyPost_ret (v := .tuple #[.agg #[.int .i64 0, .int .i64 0], .int .i64 2]) (by simp [results, Try.results17, go_sem]) rfl ⟨rfl, below_alloc2 w _ _⟩
    by_cases t4 : 20 < folk
    · clear h
      go_enter Try.func17, Try.ntmps17
      go_wp2
      exact bodyPost_ret (v := .tuple #[.agg #[.int .i64 0, .int .i64 0], .int .i64 2]) (by simp [results, Try.results17, go_sem]) rfl ⟨rfl, below_alloc2 w _ _⟩
    have hq : ((n : Int) != k) = true := by simp; omega
    clear h
    go_enter Try.func17, Try.ntmps17
    go_wp2
    exact bodyPost_ret (v := .tuple #[.agg #[.int .i64 0, .int .i64 0], .int .i64 2]) (by simp [results, Try.results17, go_sem]) rfl ⟨rfl, below_alloc2 w _ _⟩
set_option maxHeartbeats 4000000 in
theorem f17_good (A : Option Addr) (k folk c : Nat) (said : List (List Int)) (w : World) (hs : IntsS w A k said) (hk1 : 1 ≤ k) (hk : k ≤ 10) (hf1 : 1 ≤ folk) (hf : folk ≤ 20) (hok : saidOk k folk said = true) (hl : ∀ i, i < k → (said.getD i []).length = folk) (hbt : Bits said k folk) :
    Calls Try.prog 17 #[.int .i64 (k : Int), .int .i64 (folk : Int), .slice A k c] w (RatErr w (regN k folk said) (regD k folk said) 0) := by
  have hany := said_rows (k := k) (folk := folk) (said := said) (by rw [hs.len]; omega)
  rw [hok] at hany
  have hH := Lib.hid (hs.below (below_alloc2 w (.cells #[.int .i64 (folk : Int)] 3) (.cells #[.int .i64 0, .int .i64 0] 26)))
  have k49 : Hid (Calls Try.prog 49 #[.slice A k c, .func (.func 50) #[] #[.pointer (some ⟨w.heap.size, 0, none⟩)]] ((w.alloc (.cells #[.int .i64 (folk : Int)] 3)).alloc (.cells #[.int .i64 0, .int .i64 0] 26)) fun e w' =>
        e = .returned (.bool (said.any fun l => !bitsB folk l)) ∧ (w.alloc (.cells #[.int .i64 (folk : Int)] 3)).alloc (.cells #[.int .i64 0, .int .i64 0] 26) = w') :=
      f49_any A k c said 50 #[.pointer (some ⟨w.heap.size, 0, none⟩)] (fun l => !bitsB folk l) _ hH.out enter50 (fun l B d hi => f50_any B d l w.heap.size folk _ hi (by simp [go_sem]))
  rw [hany] at k49
  have HL := Lib.hid hl
  obtain ⟨N, hN, hshl⟩ := shl_one k (by omega)
  have hN2 : N ≤ 1024 := by rw [hN]; exact pow10 k hk
  have HN := Lib.hid hN
  have hsum := Lib.hid (twice_le hbt hf1)
  have hq : ((k : Int) != k) = false := by simp
  clear hs hok hany hl hN
  go_enter Try.func17, Try.ntmps17
  go_wp2_with fail
  refine k49.out.mono ?_
  rintro e w' ⟨rfl, rfl⟩
  go_wp2
  go_loopw [8, 9, 10, 11, 12, 13, 14, 43] (fun t _ _ _ _ _ _ i wr => ∃ n : Nat, n ≤ N ∧ i = .int .i64 (n : Int) ∧ t = .int .i64 (sumTo said k folk n : Int) ∧ ∃ m, wr = ((w.alloc (.cells #[.int .i64 (folk : Int)] 3)).alloc (.cells #[.int .i64 0, .int .i64 0] 26)).drewN m) (fun _ _ _ _ _ _ _ i _ => N - (intOf i).toNat)
  case atStart => exact ⟨0, by omega, rfl, rfl, 0, rfl⟩
  case round =>
    obtain ⟨s, hn, rfl, rfl, m, rfl⟩ := hrel
    have hle := sumTo_le said k folk s
    have hle2 : sumTo said k folk s ≤ 10240 := Nat.le_trans hle (Nat.le_trans (Nat.mul_le_mul hn hk) (by omega))
    clear hle
    by_cases hlt : s < N
    · have hst : Hid (sumTo said k folk (s + 1) = sumTo said k folk s + bestTo said k s folk) := rfl
      generalize sumTo said k folk s = v at *
      go_wp2
      go_loopw [10, 11, 12, 13, 14, 48] (fun b _ _ _ _ f wr => ∃ j : Nat, j ≤ folk ∧ f = .int .i64 (j : Int) ∧ b = .int .i64 (bestTo said k s j : Int) ∧ ∃ m, wr = ((w.alloc (.cells #[.int .i64 (folk : Int)] 3)).alloc (.cells #[.int .i64 0, .int .i64 0] 26)).drewN m) (fun _ _ _ _ _ f _ => folk - (intOf f).toNat)
      case atStart => exact ⟨0, by omega, rfl, rfl, m, rfl⟩
      case round =>
        obtain ⟨j, hj, rfl, rfl, m', rfl⟩ := hrel
        have hble := bestTo_le said k s j
        by_cases hlt2 : j < folk
        · have hst2 : Hid (bestTo said k s (j + 1) = min (bestTo said k s j) (wrongTo said k s j k)) := rfl
          generalize bestTo said k s j = bj at *
          go_wp2
          go_loopw [12, 13, 14, 53] (fun wr0 _ _ i wr => ∃ n : Nat, n ≤ k ∧ i = .int .i64 (n : Int) ∧ wr0 = .int .i64 (wrongTo said k s j n : Int) ∧ ∃ m, wr = ((w.alloc (.cells #[.int .i64 (folk : Int)] 3)).alloc (.cells #[.int .i64 0, .int .i64 0] 26)).drewN m) (fun _ _ _ i _ => k - (intOf i).toNat)
          case atStart => exact ⟨0, by omega, rfl, rfl, m', rfl⟩
          case round =>
            obtain ⟨n, hn3, rfl, rfl, m3, rfl⟩ := hrel
            have hwle := wrongTo_le said k s j n
            by_cases hlt3 : n < k
            · have hst3 : Hid (wrongTo said k s j (n + 1) = wrongTo said k s j n + if (said.getD n []).getD j 0 = nightB k s n then 0 else 1) := rfl
              obtain ⟨b, off, rfl, B, d, hc, hi⟩ := hH.out.at_ hlt3
              rw [HL.out n hlt3] at hc hi
              obtain ⟨b2, off2, rfl, hc2⟩ := hi.at_ (show j < folk from hlt2)
              have hnt : nightB k s n = if s.testBit (k - 1 - n) then 1 else 0 := rfl
              have es := shr_and s (k - 1 - n) (by omega)
              rw [← hnt] at es
              clear hi hnt
              generalize (said.getD n []).getD j 0 = x at *
              generalize wrongTo said k s j n = u at *
              generalize nightB k s n = t at *
              by_cases hx : x = t
              · have hq : (x != t) = false := by simpa using hx
                rw [if_pos hx] at hst3
                clear hx
                go_wp2
                go_quiet (fail)
                go_wp2
                go_roundw
                case rel => exact ⟨n + 1, by omega, by go_num, by rw [hst3.out]; rfl, by first | exact ⟨_, rfl⟩ | exact ⟨_, World.drewN_drewN _ _ _⟩⟩
                case measure => simp [intOf]; omega
              · have hq : (x != t) = true := by simpa using hx
                rw [if_neg hx] at hst3
                clear hx
                go_wp2
                go_quiet (fail)
                go_wp2
                go_roundw
                case rel => exact ⟨n + 1, by omega, by go_num, by rw [hst3.out]; go_num, by first | exact ⟨_, rfl⟩ | exact ⟨_, World.drewN_drewN _ _ _⟩⟩
                case measure => simp [intOf]; omega
            · obtain rfl : n = k := by omega
              go_wp2
              go_roundw
              case rel => exact ⟨j + 1, by omega, by go_num, by rw [hst2.out]; go_num, _, rfl⟩
              case measure => simp [intOf]; omega
        · obtain rfl : j = folk := by omega
          go_wp2
          go_roundw
          case rel => exact ⟨s + 1, by omega, by go_num, by rw [hst.out]; go_num, _, rfl⟩
          case measure => simp [intOf]; omega
    · obtain rfl : s = N := by omega
      have hM : k * 2 ^ k ≤ 10240 := Nat.le_trans (Nat.mul_le_mul hk (pow10 k hk)) (by omega)
      have hsum2 : 2 * sumTo said k folk s ≤ k * 2 ^ k := by rw [HN.out]; exact hsum.out
      have hXX : Hid (k * 2 ^ k - 2 * sumTo said k folk s = k * 2 ^ k - 2 * sumTo said k folk (2 ^ k)) := by rw [← HN.out]; rfl
      have hpos : 0 < 2 * s := by rw [HN.out]; have := Nat.pow_pos (n := k) (by omega : 0 < 2); omega
      have f2 : IntKind.i64.wrap ((k : Int) * 2 ^ k) = ((k * 2 ^ k : Nat) : Int) := by
        have e : ((k : Int) * 2 ^ k) = ((k * 2 ^ k : Nat) : Int) := by simp
        rw [e]; exact IntWalk.i64_in _ (by omega)
      have f4 : IntKind.i64.wrap ((2 : Int) * 2 ^ k) = ((2 * s : Nat) : Int) := by
        have e : ((2 : Int) * 2 ^ k) = ((2 * 2 ^ k : Nat) : Int) := by simp
        rw [e, ← HN.out]; exact IntWalk.i64_in _ (by omega)
      generalize sumTo said k folk s = S at *
      have f5 : IntKind.i64.wrap ((2 : Int) * (S : Int)) = ((2 * S : Nat) : Int) := by rw [IntWalk.i64_in _ (by omega)]; omega
      have f3 : IntKind.i64.wrap (((k * 2 ^ k : Nat) : Int) - ((2 * S : Nat) : Int)) = ((k * 2 ^ k - 2 * S : Nat) : Int) := by rw [IntWalk.i64_in _ (by omega)]; omega
      have hM2 : k * 2 ^ k - 2 * S ≤ 10240 := by omega
      obtain ⟨X, hXd⟩ : ∃ X, X = k * 2 ^ k - 2 * S := ⟨_, rfl⟩
      rw [← hXd] at hXX f3 hM2
      obtain ⟨M, hMd⟩ : ∃ M, M = k * 2 ^ k := ⟨_, rfl⟩
      rw [← hMd] at f2 f3
      have h2s : 2 * s ≤ 2048 := by omega
      obtain ⟨D, hDd⟩ : ∃ D, D = 2 * s := ⟨_, rfl⟩
      have HD : Hid (D = 2 * 2 ^ k) := by rw [← HN.out]; exact hDd
      obtain ⟨S2, hSd⟩ : ∃ S2, S2 = 2 * S := ⟨_, rfl⟩
      rw [← hDd] at hpos f4 h2s
      rw [← hSd] at f5 f3
      clear hXd hMd hDd hSd
      have k52 := Lib.hid (fun w => f52_any X D w (by omega) (by omega) hpos)
      clear hpos hM2 hM hsum2 h2s
      go_wp2
      go_region_with ((go_at_call 52; refine (k52.out _).mono ?_; rintro e w' ⟨rfl, hb⟩; obtain ⟨hc1, hc2⟩ := bcell hb; have hz := hb.size; simp at hz; have HB := Lib.hid hb; clear hb))
      go_wp2
      have hr : Hid ((ratN X D : Int) = regN k folk said ∧ (ratD X D : Int) = regD k folk said) := by
        have h1 := reg_double (said := said) (folk := folk) hk1
        rw [hXX.out, HD.out, h1.1, h1.2]; exact ⟨rfl, rfl⟩
      refine bodyPost_ret (v := .tuple #[.agg #[.int .i64 (ratN X D : Int), .int .i64 (ratD X D : Int)], .int .i64 0]) (by simp [results, Try.results17, go_sem, hc1]) rfl ?_
      exact ⟨by rw [hr.out.1, hr.out.2], ((below_step (below_drewN (below_alloc2 w _ _) _) HB.out).setCell (by simp) _).setCell (by simp) _⟩
/-- luck.Regret -/
theorem f17_any (A : Option Addr) (k folk : Int) (n c : Nat) (said : List (List Int)) (w : World) (hs : IntsS w A n said) :
    Calls Try.prog 17 #[.int .i64 k, .int .i64 folk, .slice A n c] w (RatErr w (regX k folk said) (regY k folk said) (regErr k folk said)) := by
  cases hok : saidOk k folk said
  · rw [ratErr_no hok]
    exact f17_no A k folk n c said w hs hok
  · obtain ⟨m, f, rfl, rfl, h1, h2, h3, h4, h5, h6, h7⟩ := saidOk_facts hok
    rw [ratErr_yes hok]
    obtain rfl : n = m := by rw [← hs.len]; exact h5
    exact f17_good A n f c said w hs h1 h2 h3 h4 hok h6 h7
end Go.Proofs.Ytfaenbaaadjbbaa
