/- Walks: Winnow. -/
import Derived.Test.YtfaenbaaadjbbaaW44
import Derived.Test.YtfaenbaaadjbbaaPlain15
namespace Go.Proofs.Ytfaenbaaadjbbaa
open Go.RowKit

theorem m91f (p : Nat) (w : World) : (method 249 91 (.pointer (some ⟨p, 0, none⟩)) "dibber/luck.foretell").run Try.prog w = .ok (126, .pointer (some ⟨p, 0, none⟩)) w := by kernel_rfl
theorem m91l (p : Nat) (w : World) : (method 249 91 (.pointer (some ⟨p, 0, none⟩)) "dibber/luck.learn").run Try.prog w = .ok (127, .pointer (some ⟨p, 0, none⟩)) w := by kernel_rfl
theorem n91l (p : Nat) (w : World) : (nilAhead 249 91 (.pointer (some ⟨p, 0, none⟩)) "dibber/luck.learn").run Try.prog w = .ok (some false) w := by kernel_rfl
theorem enter126 (args : Array Value) (w : World) : (callFunc 126 args).run Try.prog w = .ok (.enter 126 args) w := by simp [go_sem]
theorem enter127 (args : Array Value) (w : World) : (callFunc 127 args).run Try.prog w = .ok (.enter 127 args) w := by simp [go_sem]
theorem dot_in {ss ws : List Int} (hb : ∀ j, ss.getD j 0 = 0 ∨ ss.getD j 0 = 1) (hw : ∀ j, 0 ≤ ws.getD j 0 ∧ ws.getD j 0 ≤ 40) (k : Nat) : 0 ≤ dotTo ss ws k ∧ dotTo ss ws k ≤ 40 * k := by
  induction k with
  | zero => exact ⟨Int.le_refl _, by simp [dotTo, sumI]⟩
  | succ k ih =>
    have e : dotTo ss ws (k + 1) = dotTo ss ws k + ss.getD k 0 * ws.getD k 0 := rfl
    have h := hw k
    rw [e]
    rcases hb k with h1 | h1 <;> rw [h1] <;> omega
set_option maxRecDepth 100000 in
set_option maxHeartbeats 2000000 in
/-- (*luck.winnow).foretell -/
theorem f126_any (p g n c : Nat) (A : Option Addr) (ss ws : List Int) (r : Int) (w : World) (hs : Ints w A n ss) (hp : w.cell? ⟨p, 0, none⟩ = some (.slice (some ⟨g, 0, none⟩) n n)) (ho : Own w g ws) (hl : ws.length = n) (hn : n ≤ 20)
    (hb : ∀ j, ss.getD j 0 = 0 ∨ ss.getD j 0 = 1) (hw : ∀ j, 0 ≤ ws.getD j 0 ∧ ws.getD j 0 ≤ 40) (hr : r = if (n : Int) ≤ dotTo ss ws n then 1 else 0) :
    Calls Try.prog 126 #[.pointer (some ⟨p, 0, none⟩), .slice A n c] w fun e w' => e = .returned (.int .i64 r) ∧ w = w' := by
  have HB := Lib.hid hb
  have HW := Lib.hid hw
  have HO := Lib.hid ho
  have HS := Lib.hid hs
  have HL := Lib.hid hl
  have HRR := Lib.hid hr
  have HA : Hid (∀ k, dotTo ss ws (k + 1) = dotTo ss ws k + ss.getD k 0 * ws.getD k 0) := fun k => rfl
  have b1 := Lib.hid (dot_in hb hw)
  have z1 : Hid (dotTo ss ws 0 = 0) := rfl
  obtain ⟨F, hF⟩ : ∃ F, F = dotTo ss ws := ⟨_, rfl⟩
  rw [← hF] at HA b1 z1 HRR
  clear hs ho hl hb hF hr hw
  go_enter Try.func126, Try.ntmps126
  go_wp2
  go_loop [5, 6, 7, 10] (fun o _ _ i => ∃ k : Nat, k ≤ n ∧ i = .int .i64 (k : Int) ∧ o = .int .i64 (F k)) (fun _ _ _ i => n - (intOf i).toNat)
  case atStart => exact ⟨0, by omega, rfl, by rw [z1.out]⟩
  case round => as_aux_lemma =>
    obtain ⟨k, hk, rfl, rfl⟩ := hrel
    have v1 := b1.out k
    by_cases hlt : k < n
    · obtain ⟨b, off, rfl, hc⟩ := HS.out.at_ hlt
      have hcg := HO.out.cell k (by rw [HL.out]; exact hlt)
      have s1 := Lib.hid (HA.out k)
      have hbk := HB.out k
      have hwk := HW.out k
      have hmul : Hid (0 ≤ ss.getD k 0 * ws.getD k 0 ∧ ss.getD k 0 * ws.getD k 0 ≤ 40) := by unfold Hid; rcases hbk with h | h <;> rw [h] <;> omega
      generalize ss.getD k 0 = s at *
      generalize ws.getD k 0 = y at *
      generalize F k = u at *
      have hki : (0 : Int) ≤ (k : Int) := by omega
      have hkn : (k : Int) < (n : Int) := by omega
      obtain ⟨m1, m2⟩ := hmul.out
      have w1 : IntKind.i64.wrap (s * y) = s * y := IntWalk.i64_in _ (by omega)
      have w2 : IntKind.i64.wrap (u + s * y) = u + s * y := IntWalk.i64_in _ (by omega)
      clear hbk hwk
      go_wp2
      go_round
      case rel => exact ⟨k + 1, by omega, by go_num, by rw [s1.out]⟩
      case measure => simp [intOf]; omega
    · obtain rfl : k = n := by omega
      generalize F k = u at *
      by_cases h : (k : Int) ≤ u
      · have hfin : Hid (r = 1) := by rw [HRR.out, if_pos h]; rfl
        clear HRR
        go_wp2
        go_ret
        exact ⟨ret_int hfin.out.symm, rfl⟩
      · have hfin : Hid (r = 0) := by rw [HRR.out, if_neg h]; rfl
        clear HRR
        go_wp2
        go_ret
        exact ⟨ret_int hfin.out.symm, rfl⟩
/-- What has been learned, after the first k weights. -/
def winTo (ss ws : List Int) (x : Int) (k j : Nat) : Int := if j < k ∧ ss.getD j 0 = 1 then ws.getD j 0 * (2 * x) else ws.getD j 0
set_option maxRecDepth 100000 in
set_option maxHeartbeats 2000000 in
/-- (*luck.winnow).learn -/
theorem f127_any (p g n c : Nat) (A : Option Addr) (ss ws : List Int) (r x : Int) (w : World) (hs : Ints w A n ss) (hp : w.cell? ⟨p, 0, none⟩ = some (.slice (some ⟨g, 0, none⟩) n n)) (ho : Own w g ws) (hl : ws.length = n) (hn : n ≤ 20) (hpg : p ≠ g)
    (hAg : ∀ b off, A = some ⟨b, off, none⟩ → b ≠ g) (hb : ∀ j, ss.getD j 0 = 0 ∨ ss.getD j 0 = 1) (hw : ∀ j, 0 ≤ ws.getD j 0 ∧ ws.getD j 0 ≤ 40) (hr : r = if (n : Int) ≤ dotTo ss ws n then 1 else 0) (hx : x = 0 ∨ x = 1) :
    Calls Try.prog 127 #[.pointer (some ⟨p, 0, none⟩), .slice A n c, .int .i64 x] w fun e w' => e = .returned (.tuple #[]) ∧ ∃ ys, Own w' g ys ∧ ys.length = n ∧ (∀ j, j < n → ys.getD j 0 = if r = x then ws.getD j 0 else winTo ss ws x n j) ∧ w.grownBy w' (some g) := by
  have k126 := Lib.hid (f126_any p g n c A ss ws r w hs hp ho hl hn hb hw hr)
  have HS := Lib.hid hs
  have HO := Lib.hid ho
  have HL := Lib.hid hl
  have HP := Lib.hid hp
  have HW := Lib.hid hw
  have HAG := Lib.hid hAg
  have HPG := Lib.hid hpg
  have hns := hs.small
  have x0 : 0 ≤ x := by omega
  have x1 : x ≤ 1 := by omega
  clear hs ho hl hp hw hAg hpg hb hr hx
  by_cases hrx : r = x
  · have hq : (r != x) = false := by simpa using hrx
    have HRX := Lib.hid hrx
    clear hrx
    go_enter Try.func127, Try.ntmps127
    go_wp2_with fail
    refine k126.out.mono ?_
    rintro e w1 ⟨rfl, rfl⟩
    go_wp2
    go_loop [7, 8, 16] (fun _ _ i => ∃ k : Nat, k ≤ n ∧ i = .int .i64 (k : Int)) (fun _ _ i => n - (intOf i).toNat)
    case atStart => exact ⟨0, by omega, rfl⟩
    case round => as_aux_lemma =>
      obtain ⟨k, hk, rfl⟩ := hrel
      by_cases hlt : k < n
      · obtain ⟨b, off, rfl, hc⟩ := HS.out.at_ hlt
        have hki : (0 : Int) ≤ (k : Int) := by omega
        have hkn : (k : Int) < (n : Int) := by omega
        go_wp2
        go_round
        case rel => exact ⟨k + 1, by omega, by go_num⟩
        case measure => simp [intOf]; omega
      · obtain rfl : k = n := by omega
        go_wp2
        go_end0
        exact ⟨rfl, ws, HO.out, HL.out, fun j _ => by first | rfl | (rw [if_pos HRX.out]), World.grownBy.refl _ _⟩
  · have hq : (r != x) = true := by simpa using hrx
    have HRX := Lib.hid hrx
    clear hrx
    go_enter Try.func127, Try.ntmps127
    go_wp2_with fail
    refine k126.out.mono ?_
    rintro e w1 ⟨rfl, rfl⟩
    go_wp2
    go_loopw [7, 8, 16] (fun _ _ i wr => ∃ (k : Nat) (L : List Int), k ≤ n ∧ i = .int .i64 (k : Int) ∧ Own wr g L ∧ Hid (L.length = n ∧ (∀ j, j < n → L.getD j 0 = winTo ss ws x k j)) ∧ w.grownBy wr (some g)) (fun _ _ i _ => n - (intOf i).toNat)
    case atStart => exact ⟨0, ws, by omega, rfl, HO.out, ⟨HL.out, fun j _ => by unfold winTo; rw [if_neg (by omega)]⟩, World.grownBy.refl _ _⟩
    case round => as_aux_lemma =>
      obtain ⟨k, L, hk, rfl, hown, hL, hg⟩ := hrel
      have HWn := Lib.hid hown
      have HG := Lib.hid hg
      by_cases hlt : k < n
      · obtain ⟨b, off, rfl, hc0⟩ := HS.out.at_ hlt
        have hc := hg.cell hc0 (fun e => HAG.out b off rfl (by injection e))
        have hp := hg.cell HP.out (fun e => HPG.out (by injection e))
        have hco := hown.cell k (by rw [hL.out.1]; exact hlt)
        have hfz := hown.frozen k
        have hLk : L.getD k 0 = ws.getD k 0 := by rw [hL.out.2 k hlt]; unfold winTo; rw [if_neg (by omega)]
        have hxk := HW.out k
        rw [hLk] at hco
        have hoth : Hid (∀ j, j ≠ k → winTo ss ws x (k + 1) j = winTo ss ws x k j) := fun j hj => by
          unfold winTo
          by_cases h1 : j < k
          · by_cases h2 : ss.getD j 0 = 1
            · rw [if_pos ⟨by omega, h2⟩, if_pos ⟨h1, h2⟩]
            · rw [if_neg (fun h => h2 h.2), if_neg (fun h => h2 h.2)]
          · rw [if_neg (fun h => by omega), if_neg (fun h => h1 h.1)]
        have hnx : Hid (winTo ss ws x (k + 1) k = if ss.getD k 0 = 1 then ws.getD k 0 * (2 * x) else ws.getD k 0) := by
          unfold winTo Hid
          by_cases h2 : ss.getD k 0 = 1
          · rw [if_pos ⟨by omega, h2⟩, if_pos h2]
          · rw [if_neg (fun h => h2 h.2), if_neg h2]
        have HLK := Lib.hid hLk
        generalize ss.getD k 0 = s at *
        generalize ws.getD k 0 = y at *
        have hki : (0 : Int) ≤ (k : Int) := by omega
        have hkn : (k : Int) < (n : Int) := by omega
        clear hown hg hc0 hLk
        by_cases he : s = 1
        · have hq2 : (s == 1) = true := by simpa using he
          rw [if_pos he] at hnx
          have hm : 0 ≤ y * (2 * x) ∧ y * (2 * x) ≤ 80 := by
            refine ⟨Int.mul_nonneg hxk.1 (by omega), ?_⟩
            have h1 : y * (2 * x) ≤ y * 2 := Int.mul_le_mul_of_nonneg_left (by omega) hxk.1
            omega
          obtain ⟨m1, m2⟩ := hm
          have w1 : IntKind.i64.wrap (2 * x) = 2 * x := IntWalk.i64_in _ (by omega)
          have w2 : IntKind.i64.wrap (y * (2 * x)) = y * (2 * x) := IntWalk.i64_in _ (by omega)
          clear he
          go_wp2
          go_roundw
          case rel => exact ⟨k + 1, L.set k (y * (2 * x)), by omega, by go_num, HWn.out.set_ k _, ⟨by rw [List.length_set]; exact hL.out.1, fun j hj => by
            by_cases hjk : j = k
            · subst hjk; rw [getS_set _ _ _ (by rw [hL.out.1]; exact hlt), hnx.out]
            · rw [getN_set _ _ _ _ (by rw [hL.out.1]; exact hlt) hjk, hoth.out j hjk]; exact hL.out.2 j hj⟩, grown_trans HG.out (grown_set _ _ _ _)⟩
          case measure => simp [intOf]; omega
        · have hq2 : (s == 1) = false := by simpa using he
          rw [if_neg he] at hnx
          clear he
          go_wp2
          go_roundw
          case rel => exact ⟨k + 1, L, by omega, by go_num, HWn.out, ⟨hL.out.1, fun j hj => by
            by_cases hjk : j = k
            · subst hjk; rw [hnx.out, HLK.out]
            · rw [hoth.out j hjk]; exact hL.out.2 j hj⟩, HG.out⟩
          case measure => simp [intOf]; omega
      · obtain rfl : k = n := by omega
        clear hown hg
        go_wp2
        go_end0
        exact ⟨rfl, L, HWn.out, hL.out.1, fun j hj => by first | exact hL.out.2 j hj | (rw [if_neg HRX.out]; exact hL.out.2 j hj), HG.out⟩
/-- What a listener knows who doubles weights. -/
def StW (p g n : Nat) (said : List (List Int)) (came : List Int) (i : Nat) (w : World) : Prop := w.cell? ⟨p, 0, none⟩ = some (.slice (some ⟨g, 0, none⟩) n n) ∧ Own w g (winW said came n i)
theorem StW.keep {p g n : Nat} {said : List (List Int)} {came : List Int} {i : Nat} {w w' : World} (h : StW p g n said came i w) (h1 : w'.heap[p]? = w.heap[p]?) (h2 : w'.heap[g]? = w.heap[g]?) : StW p g n said came i w' :=
  ⟨cell_same h.1 h1, h2.trans h.2⟩
theorem win_next {said : List (List Int)} {came : List Int} {n i : Nat} {ys : List Int} (h2 : ys.length = n) (h3 : ∀ j, j < n → ys.getD j 0 = if winF said came n i = came.getD i 0 then (winW said came n i).getD j 0 else winTo (said.getD i []) (winW said came n i) (came.getD i 0) n j) : ys = winW said came n (i + 1) := by
  refine getD_ext (by rw [h2, winW_len]) fun j hj => ?_
  have hj : j < n := by omega
  rw [h3 j hj]
  by_cases h : winF said came n i = came.getD i 0
  · rw [if_pos h, winW_same h]
  · rw [if_neg h, winW_step h hj]
    unfold winTo
    by_cases h4 : (said.getD i []).getD j 0 = 1
    · rw [if_pos ⟨hj, h4⟩, if_pos h4]
    · rw [if_neg (fun h5 => h4 h5.2), if_neg h4]
def tellN (n : Int) (said : List (List Int)) (came : List Int) : List Int := if recErr n said came = 0 then toldL (winF said came n.toNat) said.length else []
set_option maxRecDepth 100000 in
set_option maxHeartbeats 4000000 in
/-- luck.Winnow -/
theorem f42_any (A B : Option Addr) (n : Int) (k c m d : Nat) (said : List (List Int)) (came : List Int) (w : World) (hs : IntsS w A k said) (ho : Ints w B m came) :
    Calls Try.prog 42 #[.int .i64 n, .slice A k c, .slice B m d] w (SlE w (tellN n said came) (recErr n said came)) := by
  have k60 := Lib.hid (f60_any A B n k c m d said came w hs ho)
  by_cases h0 : recErr n said came = 0
  · obtain ⟨N, rfl, g1, g2, g3, g4, g5, g6⟩ := recErr_facts h0
    have e1 : tellN (N : Int) said came = toldL (winF said came N) k := by unfold tellN; rw [if_pos h0, Int.toNat_natCast, hs.len]
    have hmk0 : m = k := by have := ho.len; have := hs.len; omega
    rw [e1, h0]
    rw [h0] at k60
    subst hmk0
    have HS := Lib.hid hs
    have HO := Lib.hid ho
    have hlen := hs.len
    have HR : Hid (∀ i, i < m → (said.getD i []).length = N ∧ (∀ j, (said.getD i []).getD j 0 = 0 ∨ (said.getD i []).getD j 0 = 1) ∧ (came.getD i 0 = 0 ∨ came.getD i 0 = 1)) := fun i hi => ⟨(g5 i (by omega)).1, fun j => bit_get (g5 i (by omega)).2 j, bit_get g6 i⟩
    have hm200 : m ≤ 200 := by omega
    clear hs ho h0 g3 g4 g5 g6 e1 hlen
    go_enter Try.func42, Try.ntmps42
    go_wp2_with fail
    refine k60.out.mono ?_
    rintro e w1 ⟨rfl, hb⟩
    have B1 := Lib.hid hb
    have k70 : Hid (Calls Try.prog 70 #[.slice (some ⟨w1.heap.size, 0, none⟩) 1 1, .int .i64 (N : Int)] (w1.alloc (.cells #[.int .i64 1] 3)) fun e w' => ∃ g, e = .returned (.slice (some ⟨g, 0, none⟩) N N) ∧ Own w' g (List.replicate N 1) ∧ (w1.alloc (.cells #[.int .i64 1] 3)).heap.size ≤ g ∧ Below (w1.alloc (.cells #[.int .i64 1] 3)).heap.size (w1.alloc (.cells #[.int .i64 1] 3)) w') :=
      f70_one w1.heap.size N g1 g2 _ (cell_new w1 _ 3 0)
    clear hb
    go_wp2_with fail
    refine k70.out.mono ?_
    rintro e w2 ⟨g, rfl, hown, hgs, hb⟩
    have hgs2 : w1.heap.size + 1 ≤ g := by simpa using hgs
    have B2 : Hid (Below w.heap.size w w2) := below_step B1.out (below_step (below_alloc w1 _) hb)
    have hz1 : w.heap.size ≤ g := by have := B1.out.size; omega
    have hgl : g < w2.heap.size := hown.lt
    have O2 : Hid (Own w2 g (winW said came N 0)) := hown
    have S0 : Hid (StW w2.heap.size g N said came 0 (w2.alloc (.cells #[.slice (some ⟨g, 0, none⟩) N N] 94))) := ⟨cell_new _ _ _ _, O2.out.alloc _⟩
    have hbig : Hid (∀ W : World, W.heap = (w2.alloc (.cells #[.slice (some ⟨g, 0, none⟩) N N] 94)).heap → Below w.heap.size w W → Calls Try.prog 61 #[.iface 91 (.pointer (some ⟨w2.heap.size, 0, none⟩)), .slice A m c, .slice B m d] W
        fun e w' => ∃ v, e = .returned v ∧ Row w' W.heap.size v (toldL (winF said came N) m) ∧ Below w.heap.size w w' ∧ StW w2.heap.size g N said came m w') := fun W hW hB =>
      f61_any 91 126 127 w2.heap.size g m c d A B said came (winF said came N) (StW w2.heap.size g N said came) w W (m91f _) (m91l _) (n91l _) enter126 enter127 HS.out HO.out hm200 hB
        (by omega) hz1 (by rw [hW]; simp) (by rw [hW]; simp; omega) (S0.out.keep (by rw [hW]) (by rw [hW])) (fun i w w' h1 h2 h3 => h1.keep h2 h3)
        (fun i hi W D e hI hst => by
          obtain ⟨hl, hb, hc⟩ := HR.out i hi
          rw [hl] at hI ⊢
          refine (f126_any w2.heap.size g N e D _ _ (winF said came N i) W hI hst.1 hst.2 (winW_len _ _ _ _) g2 hb (fun j => by
            have := winW_in (n := N) i (fun j hj => ⟨fun f _ => (HR.out j (by omega)).2.1 f, (HR.out j (by omega)).2.2⟩) j
            omega) rfl).mono ?_
          rintro e w' ⟨rfl, rfl⟩
          exact ⟨rfl, Below.refl _ _⟩)
        (fun i hi W D e hI hD hst => by
          obtain ⟨hl, hb, hc⟩ := HR.out i hi
          rw [hl] at hI hD ⊢
          refine (f127_any w2.heap.size g N e D _ _ (winF said came N i) (came.getD i 0) W hI hst.1 hst.2 (winW_len _ _ _ _) g2 (by omega) (hD (by omega)) hb (fun j => by
            have := winW_in (n := N) i (fun j hj => ⟨fun f _ => (HR.out j (by omega)).2.1 f, (HR.out j (by omega)).2.2⟩) j
            omega) rfl hc).mono ?_
          rintro e w' ⟨rfl, ys, h1, h2, h3, h4⟩
          exact ⟨rfl, ⟨h4.cell hst.1 (fun e => by injection e with e; simp only at e; omega), by rw [← win_next h2 h3]; exact h1⟩, h4⟩)
    have B3 := Lib.hid (B2.out.alloc B2.out.size (.cells #[.slice (some ⟨g, 0, none⟩) N N] 94))
    have K61 := Lib.hid (hbig.out _ rfl B3.out)
    clear hz1 hbig hown hgs hb
    go_wp2_with fail
    refine K61.out.mono ?_
    rintro e w4 ⟨v, rfl, hrow, hb4, hst⟩
    obtain ⟨A4, c4, hv, hi4⟩ := hrow.form
    have hi4 := hi4 200 (by rw [toldL_len]; omega) (by omega)
    rw [toldL_len] at hv hi4
    subst hv
    have HI4 := Lib.hid hi4
    have HB4 := Lib.hid hb4
    clear hrow hi4 hb4 hst
    go_wp2
    go_ret2
    exact ⟨_, _, _, rfl, HI4.out, HB4.out⟩
  · have e1 : tellN n said came = [] := by unfold tellN; rw [if_neg h0]
    rw [e1]
    generalize recErr n said came = er at *
    have hq : (er != 0) = true := by simpa using h0
    clear hs ho h0 e1
    go_enter Try.func42, Try.ntmps42
    go_wp2_with fail
    refine k60.out.mono ?_
    rintro e w1 ⟨rfl, hb⟩
    have HB := Lib.hid hb
    clear hb
    go_wp2
    go_ret2
    exact ⟨_, _, _, rfl, Ints.nil _ _, HB.out⟩
end Go.Proofs.Ytfaenbaaadjbbaa
