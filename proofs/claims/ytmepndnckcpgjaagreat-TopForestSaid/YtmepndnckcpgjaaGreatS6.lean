/- Walk: TopForest. -/
import Derived.Test.YtmepndnckcpgjaaGreatS5
import Derived.Test.YtmepndnckcpgjaaGreatS1
namespace Go.Proofs.YtmepndnckcpgjaaGreat
open Go.RowKit
/-- A slice of bytes. -/
def Byts (w : World) (B : Option Addr) (q : Nat) (bs : List Int) : Prop :=
  bs.length = q ∧ (∀ j, 0 ≤ bs.getD j 0 ∧ bs.getD j 0 < 256) ∧ (0 < q → ∃ b off, B = some ⟨b, off, none⟩ ∧ ∀ j, j < q → w.cell? ⟨b, off + j, none⟩ = some (.int .u8 (bs.getD j 0)))
theorem Byts.below {w w' : World} {B : Option Addr} {q : Nat} {bs : List Int} (h : Byts w B q bs) (hb : Below w.heap.size w w') : Byts w' B q bs :=
  ⟨h.1, h.2.1, fun hn => by
    obtain ⟨b, off, e, hc⟩ := h.2.2 hn
    exact ⟨b, off, e, fun j hj => (hb.cell (lt_of_cell (hc j hj))).trans (hc j hj)⟩⟩
theorem Byts.at_ {w : World} {B : Option Addr} {q k : Nat} {bs : List Int} (h : Byts w B q bs) (hk : k < q) : ∃ b off, B = some ⟨b, off, none⟩ ∧ w.cell? ⟨b, off + k, none⟩ = some (.int .u8 (bs.getD k 0)) := by
  obtain ⟨b, off, e, hc⟩ := h.2.2 (by omega)
  exact ⟨b, off, e, hc k hk⟩
theorem take_snoc (bs : List Int) {k : Nat} (hk : k < bs.length) : bs.take (k + 1) = bs.take k ++ [bs.getD k 0] := by
  rw [List.take_add_one, List.getElem?_eq_getElem hk]
  simp [List.getD_eq_getElem?_getD, List.getElem?_eq_getElem hk]
theorem take_in {bs : List Int} (h : ∀ j, 0 ≤ bs.getD j 0 ∧ bs.getD j 0 < 256) (m j : Nat) : 0 ≤ (bs.take m).getD j 0 ∧ (bs.take m).getD j 0 ≤ 1000 := by
  rcases Nat.lt_or_ge j m with hj | hj
  · have e : (bs.take m).getD j 0 = bs.getD j 0 := by simp [List.getD_eq_getElem?_getD, hj]
    rw [e]
    have := h j
    omega
  · rw [List.getD_eq_getElem?_getD, List.getElem?_eq_none (by rw [List.length_take]; omega)]
    simp
theorem wOk_mk' {n : Nat} {ws : List Int} (hl : ws.length = n) (h : ∀ j, 0 ≤ ws.getD j 0 ∧ ws.getD j 0 ≤ 1000) : wOk n ws = true := by
  unfold wOk
  simp only [Bool.and_eq_true, decide_eq_true_eq, Bool.not_eq_true', List.any_eq_false]
  refine ⟨hl, fun x hx => ?_⟩
  obtain ⟨j, hj, rfl⟩ := List.getElem_of_mem hx
  have := h j
  simp only [List.getD_eq_getElem?_getD, List.getElem?_eq_getElem hj, Option.getD_some] at this
  simp only [outW, Bool.or_eq_true, decide_eq_true_eq, not_or]
  omega
theorem mx_max (a b : Int) : mx a b = max a b := by unfold mx; split <;> omega
set_option maxRecDepth 100000 in
set_option maxHeartbeats 16000000 in
/-- dibbertop.TopForest -/
theorem f5_any (n : Int) (A : Option Addr) (m c : Nat) (fs : List (Int × Int)) (B : Option Addr) (q d : Nat) (bs : List Int) (w : World) (hs : Fens w A m fs) (hsm : m ≤ 9223372036854775807) (hb : Byts w B q bs) (hsq : q ≤ 9223372036854775807) :
    Calls Tryz.prog 5 #[.int .i64 n, .slice A m c, .slice B q d] w fun e w' => e = .returned (.bool true) ∧ Below w.heap.size w w' := by
  have HS := Lib.hid hs
  have HL := Lib.hid hs.len
  have HY := Lib.hid hb
  have heq : ∀ (A : Option Addr) (l c : Nat) W, (binOp .eql 23 (.slice A l c) (.slice none 0 0)).run Tryz.prog W = .ok (.bool A.isNone) W := fun A l c W => Go.Lib.run_eql_slice_nil W 23 3 _ l c 0 0 und23
  have K6 := Lib.hid (f6_any n A m c fs w hs hsm)
  clear hs hb
  go_enter Tryz.func5, Tryz.ntmps5
  go_wp2_with fail
  refine K6.out.mono ?_
  rintro e w1 ⟨A1, k1, c1, rfl, hR, hb⟩
  have HB1 := Lib.hid hb
  rcases hR with ⟨hm1, hm6, hE, rfl, ⟨a1, rfl⟩, hi⟩ | ⟨_, rfl, rfl, rfl⟩
  · by_cases hq : q < m
    · have hqi : (q : Int) < (m : Int) := by omega
      clear hb hi hE
      go_wp2_with fail
      refine (f7_any _).mono ?_
      rintro e w2 ⟨rfl, hb⟩
      have HB2 := Lib.hid (below_step HB1.out hb)
      clear hb
      go_wp2
      go_ret
      exact ⟨rfl, HB2.out⟩
    · have hqi : ¬ (q : Int) < (m : Int) := by omega
      obtain ⟨n, rfl⟩ := garE_pos hE
      rw [Int.toNat_natCast] at hi
      have HI1 := Lib.hid hi
      have hl := HL.out
      have HG := Lib.hid (rk_good hE (by omega) (by omega))
      have HAS := Lib.hid (rk_asked hE (by omega) (by omega))
      have HBL := Lib.hid (bst_law (ws := bs.take m) hE (by omega) (by omega) (by rw [List.length_take, HY.out.1, hl]; omega) (take_in HY.out.2.1 m))
      have HBI := Lib.hid (bst_in (n := n) (fs := fs) (take_in HY.out.2.1 m))
      have HTS : Hid (∀ k, k < m → bs.take (k + 1) = bs.take k ++ [bs.getD k 0]) := Lib.hid fun k hk => take_snoc bs (by rw [HY.out.1]; omega)
      have HTL : Hid (∀ k, k ≤ m → (bs.take k).length = k) := Lib.hid fun k hk => by rw [List.length_take, HY.out.1]; omega
      have HT0 : Hid (bs.take 0 = []) := Lib.hid rfl
      clear hi
      go_wp2
      go_loopw [8, 9] (fun vi ii wr => ∃ (k : Nat) (v : Value), k ≤ m ∧ ii = .int .i64 (k : Int) ∧ v = vi ∧ Hid (Row wr w1.heap.size v (bs.take k)) ∧ Hid (Below w1.heap.size w1 wr)) (fun _ ii _ => m - (intOf ii).toNat)
      case atStart => exact ⟨0, _, by omega, rfl, rfl, Lib.hid (by rw [HT0.out]; exact Row.nil _ _), Lib.hid (Below.refl _ _)⟩
      case round => as_aux_lemma =>
        obtain ⟨k, v5, hk, rfl, rfl, HR, HB⟩ := hrel
        by_cases hkm : k < m
        · have k0 : (0 : Int) ≤ (k : Int) := by omega
          have km : (k : Int) < (m : Int) := by omega
          have kq : (k : Int) < (q : Int) := by omega
          obtain ⟨b, off, rfl, c2⟩ := ((HY.out.below hb).below HB.out).at_ (k := k) (by omega)
          have hx := HY.out.2.1 k
          have HT1 := Lib.hid (HTS.out k hkm)
          have hl2 : (bs.take k).length ≤ 1000000 := by rw [HTL.out k (by omega)]; omega
          generalize bs.getD k 0 = x at *
          have hw1 : IntKind.i64.wrap x = x := IntWalk.i64_in _ (by omega)
          have ba := below_alloc wr (.cells #[.int .i64 x] 3)
          have hrow := HR.out.alloc (.cells #[.int .i64 x] 3)
          have HROW := Lib.hid hrow
          have HB3 := Lib.hid (below_step HB.out ba)
          have hbz2 := HB3.out.size
          have hc : (wr.alloc (.cells #[.int .i64 x] 3)).cell? ⟨wr.heap.size, 0, none⟩ = some (.int .i64 x) := (cell_new wr _ 3 0).trans rfl
          generalize bs.take k = tk at *
          clear ba
          go_wp2_with (first | refine wpList_push rfl (.tmp 39) (.tmp 45) rfl w1.heap.size _ tk rfl hrow wr.heap.size 1 x rfl hc hl2 hbz2 ?_)
          rintro v' w' hv' hg
          have HV3 := Lib.hid hv'
          have HB4 := Lib.hid (below_grown HB3.out hg hbz2 HROW.out (Nat.le_refl _))
          clear hv' hg hrow hc
          go_wp2
          go_roundw
          case rel => exact ⟨k + 1, _, by omega, by go_num, rfl, Lib.hid (by rw [HT1.out]; exact HV3.out), HB4⟩
          case measure => simp [intOf]; omega
        · obtain rfl : k = m := by omega
          obtain ⟨Aw, cw, rfl, hiw⟩ := Row.form HR.out
          have hwl := HTL.out k (Nat.le_refl _)
          have hi2 := hiw 100 (by omega) (by omega)
          have hwr := take_in HY.out.2.1 k
          have HWI := Lib.hid hwr
          rw [hwl] at hi2 ⊢
          obtain ⟨ws, hws⟩ : ∃ ws, ws = bs.take k := ⟨_, rfl⟩
          rw [← hws] at hi2 hwl HBL HBI HWI hwr
          clear hiw HTS HTL HT0 hws
          have hg := HG.out
          have has := HAS.out
          have hbl := HBL.out
          rw [hl] at hg has hbl
          have hdE : dearErr (k : Int) (rkL n fs) ws = 0 := by
            unfold dearErr
            rw [if_pos has, Int.toNat_natCast, if_pos (wOk_mk' hwl hwr)]
          have hdS : dearS (k : Int) (rkL n fs) ws = fills (rkL n fs) ws := by
            unfold dearS
            rw [if_pos hdE, Int.toNat_natCast]
            exact dear_dot hg hwl hwr
          have hdR : (dearR (k : Int) (rkL n fs) ws).length = k := by
            unfold dearR
            rw [if_pos hdE, Int.toNat_natCast]
            exact dear_len
          have hcok := (asked_zero has).1
          have hfE : fillsErr (k : Int) (rkL n fs) ws = 0 := by unfold fillsErr; rw [hcok, Int.toNat_natCast, wOk_mk' hwl hwr]; rfl
          have hfR : fillsR (k : Int) (rkL n fs) ws = fills (rkL n fs) ws := by unfold fillsR; rw [hcok, Int.toNat_natCast, wOk_mk' hwl hwr]; rfl
          have hiR := HI1.out.below HB.out
          have K15 := Lib.hid (f35_any (some a1) Aw (k : Int) (2 ^ k) c1 k cw (rkL n fs) ws wr hiR hi2)
          have K16 : Hid (∀ W, Below wr.heap.size wr W → _) := Lib.hid fun W hW => f33_any (some a1) Aw (k : Int) (2 ^ k) c1 k cw (rkL n fs) ws W (hiR.below hW) (hi2.below hW)
          rw [hdE, hdS] at K15
          rw [hfE, hfR] at K16
          have hlen : ∀ l : List Int, l.length = k → l.length = k := fun _ h => h
          obtain ⟨b1, o1, e1, hc1⟩ := hiR.ad (Nat.two_pow_pos k)
          injection e1 with e1
          subst e1
          obtain ⟨bw, ow, rfl, hcw⟩ := hi2.ad (by omega)
          obtain ⟨L, hL⟩ : ∃ L, 2 ^ k = L + 1 := ⟨2 ^ k - 1, by have := Nat.two_pow_pos k; omega⟩
          have HC1 : Hid (∀ x, x < L + 1 → wr.cell? ⟨b1, o1 + x, none⟩ = some (.int .i64 (rk n fs x))) := Lib.hid fun x hx => by
            rw [hc1 x (by omega), rkL_get n fs (by rw [hl]; omega)]
          have HCW := Lib.hid hcw
          have HL1 : Hid (2 ^ fs.length - 1 = L) := Lib.hid (by rw [hl]; omega)
          rw [hL] at hbl K15 K16 ⊢
          have hL64 : L + 1 ≤ 64 := by rw [← hL]; exact Nat.le_trans (Nat.pow_le_pow_right (by omega) (show k ≤ 6 by omega)) (by decide)
          have HBL2 := Lib.hid hbl
          have HB0 : Hid (bstTo n fs ws 0 = 0) := Lib.hid rfl
          have HBS : Hid (∀ S, bstTo n fs ws (S + 1) = if sizeTo S k = rk n fs S ∧ sizeTo S k = rk n fs L then mx (bstTo n fs ws S) (payTo ws S k) else bstTo n fs ws S) := Lib.hid fun S => by
            have hbas : Bas n fs S ↔ (sizeTo S k = rk n fs S ∧ sizeTo S k = rk n fs L) := by unfold Bas; rw [HL1.out, hl]
            have hbb : bstTo n fs ws (S + 1) = if Bas n fs S then mx (bstTo n fs ws S) (payTo ws S fs.length) else bstTo n fs ws S := rfl
            rw [hbb, hl]
            by_cases h : Bas n fs S
            · rw [if_pos h, if_pos (hbas.1 h)]
            · rw [if_neg h, if_neg (fun e => h (hbas.2 e))]
          have HPI := Lib.hid (pay_pos HWI.out)
          have HSI := Lib.hid sizeTo_in
          have HS0 : Hid (∀ S, sizeTo S 0 = 0) := Lib.hid fun _ => rfl
          have HSS : Hid (∀ S i, sizeTo S (i + 1) = sizeTo S i + if S.testBit i = true then 1 else 0) := Lib.hid fun _ _ => rfl
          have HP0 : Hid (∀ S, payTo ws S 0 = 0) := Lib.hid fun _ => rfl
          have HPS : Hid (∀ S i, payTo ws S (i + 1) = payTo ws S i + if S.testBit i then ws.getD i 0 else 0) := Lib.hid fun _ _ => rfl
          have HDR := Lib.hid hdR
          generalize fills (rkL n fs) ws = F at *
          clear hg has hbl hdE hdS hcok hfE hfR hiR hi2 hc1 hcw hL hlen hwr HR hdR
          go_wp2_with fail
          refine K15.out.mono ?_
          rintro e w3 ⟨A3, k3, c3, rfl, hi3, hb3⟩
          have hk3 : k3 = k := by have := hi3.len; rw [HDR.out] at this; exact this.symm
          subst hk3
          have K16b := Lib.hid (K16.out w3 hb3)
          have HB3 := Lib.hid hb3
          clear hi3 hb3
          go_wp2_with fail
          refine K16b.out.mono ?_
          rintro e w4 ⟨rfl, hb4⟩
          have HB4 := Lib.hid (below_step HB3.out hb4)
          have HC4 : Hid (∀ x, x < L + 1 → w4.cell? ⟨b1, o1 + x, none⟩ = some (.int .i64 (rk n fs x))) := Lib.hid fun x hx => (HB4.out.cell (lt_of_cell (HC1.out x hx))).trans (HC1.out x hx)
          have HW4 : Hid (∀ x, x < k3 → w4.cell? ⟨bw, ow + x, none⟩ = some (.int .i64 (ws.getD x 0))) := Lib.hid fun x hx => (HB4.out.cell (lt_of_cell (HCW.out x hx))).trans (HCW.out x hx)
          have HBZ := Lib.hid (below_step HB1.out (below_step HB.out HB4.out))
          clear hb4 K15 K16 K16b HC1 HCW
          go_wp2
          go_loopw [15, 16] (fun bi si wq => ∃ S : Nat, S ≤ L + 1 ∧ si = .int .i64 (S : Int) ∧ bi = .int .i64 (bstTo n fs ws S) ∧ w4 = wq) (fun _ si _ => L + 1 - (intOf si).toNat)
          case atStart => exact ⟨0, by omega, rfl, by rw [HB0.out], rfl⟩
          case round => as_aux_lemma =>
            obtain ⟨S, hS, rfl, rfl, rfl⟩ := hrel
            by_cases hSL : S < L + 1
            · have s0 : (0 : Int) ≤ (S : Int) := by omega
              have sl : (S : Int) < (L : Int) + 1 := by omega
              have HBS1 := Lib.hid (HBS.out S)
              have hbi := HBI.out S
              have hc1 := HC4.out S hSL
              have hc2 := HC4.out L (by omega)
              have HSI1 := Lib.hid (HSI.out S)
              have HPI1 := Lib.hid (HPI.out S)
              have HSS1 := Lib.hid (HSS.out S)
              have HPS1 := Lib.hid (HPS.out S)
              have HS01 := Lib.hid (HS0.out S)
              have HP01 := Lib.hid (HP0.out S)
              generalize bstTo n fs ws S = bst at *
              generalize rk n fs S = r1 at *
              generalize rk n fs L = r2 at *
              go_wp2
              go_loopw [17, 18, 19] (fun mi oi ii wq => ∃ i : Nat, i ≤ k3 ∧ ii = .int .i64 (i : Int) ∧ mi = .int .i64 (sizeTo S i) ∧ oi = .int .i64 (payTo ws S i) ∧ w4 = wq) (fun _ _ ii _ => k3 - (intOf ii).toNat)
              case atStart => exact ⟨0, by omega, rfl, by rw [HS01.out], by rw [HP01.out], rfl⟩
              case round => as_aux_lemma =>
                obtain ⟨i, hi, rfl, rfl, rfl, rfl⟩ := hrel
                by_cases hik : i < k3
                · have i0 : (0 : Int) ≤ (i : Int) := by omega
                  have ik : (i : Int) < (k3 : Int) := by omega
                  have hsh := shr_tmod S i
                  have hc3 := HW4.out i hik
                  have hsi := HSI1.out i
                  have hpi := HPI1.out i
                  have hwi := HWI.out i
                  have HSS2 := Lib.hid (HSS1.out i)
                  have HPS2 := Lib.hid (HPS1.out i)
                  generalize sizeTo S i = si at *
                  generalize payTo ws S i = pi at *
                  generalize ws.getD i 0 = wi at *
                  have hw1 : IntKind.i64.wrap (si + 1) = si + 1 := IntWalk.i64_in _ (by omega)
                  have hw2 : IntKind.i64.wrap (pi + wi) = pi + wi := IntWalk.i64_in _ (by omega)
                  cases hb : S.testBit i
                  · rw [hb] at hsh HSS2 HPS2
                    have hsh2 : ((S : Int) / 2 ^ i).tmod 2 = 0 := hsh
                    have HSQ : Hid (sizeTo S (i + 1) = si) := Lib.hid (by rw [HSS2.out]; simp)
                    have HPQ : Hid (payTo ws S (i + 1) = pi) := Lib.hid (by rw [HPS2.out]; simp)
                    clear hb hsh HSS2 HPS2 hsi hpi hwi
                    go_wp2
                    go_roundw
                    case rel => exact ⟨i + 1, by omega, by go_num, by rw [HSQ.out], by rw [HPQ.out], trivial⟩
                    case measure => simp [intOf]; omega
                  · rw [hb] at hsh HSS2 HPS2
                    have hsh2 : ((S : Int) / 2 ^ i).tmod 2 = 1 := hsh
                    have HSQ : Hid (sizeTo S (i + 1) = si + 1) := Lib.hid (by rw [HSS2.out]; simp)
                    have HPQ : Hid (payTo ws S (i + 1) = pi + wi) := Lib.hid (by rw [HPS2.out]; simp)
                    clear hb hsh HSS2 HPS2 hsi hpi hwi
                    go_wp2
                    go_roundw
                    case rel => exact ⟨i + 1, by omega, by go_num, by rw [HSQ.out], by rw [HPQ.out], trivial⟩
                    case measure => simp [intOf]; omega
                · obtain rfl : i = k3 := by omega
                  generalize sizeTo S i = sz at *
                  generalize payTo ws S i = own at *
                  by_cases h1 : sz = r1
                  · have q1 : (sz == r1) = true := by simp [h1]
                    by_cases h2 : sz = r2
                    · have q2 : (sz == r2) = true := by simp [h2]
                      have HBQ : Hid (bstTo n fs ws (S + 1) = mx bst own) := Lib.hid (by rw [HBS1.out, if_pos ⟨h1, h2⟩])
                      clear h1 h2 HBS1
                      go_wp2
                      go_roundw
                      case rel => exact ⟨S + 1, by omega, by go_num, by rw [HBQ.out, mx_max], trivial⟩
                      case measure => simp [intOf]; omega
                    · have q2 : (sz == r2) = false := by simp [h2]
                      have HBQ : Hid (bstTo n fs ws (S + 1) = bst) := Lib.hid (by rw [HBS1.out, if_neg (fun e => h2 e.2)])
                      clear h1 h2 HBS1
                      go_wp2
                      go_roundw
                      case rel => exact ⟨S + 1, by omega, by go_num, by rw [HBQ.out], trivial⟩
                      case measure => simp [intOf]; omega
                  · have q1 : (sz == r1) = false := by simp [h1]
                    have HBQ : Hid (bstTo n fs ws (S + 1) = bst) := Lib.hid (by rw [HBS1.out, if_neg (fun e => h1 e.1)])
                    clear h1 HBS1
                    go_wp2
                    go_roundw
                    case rel => exact ⟨S + 1, by omega, by go_num, by rw [HBQ.out], trivial⟩
                    case measure => simp [intOf]; omega
            · obtain rfl : S = L + 1 := by omega
              rw [HBL2.out]
              go_wp2_with fail
              refine (f7_any _).mono ?_
              rintro e w5 ⟨rfl, hb⟩
              have HB5 := Lib.hid (below_step HBZ.out hb)
              clear hb
              go_wp2
              go_ret
              exact ⟨rfl, HB5.out⟩
  · clear hb
    go_wp2_with fail
    refine (f7_any _).mono ?_
    rintro e w2 ⟨rfl, hb⟩
    have HB2 := Lib.hid (below_step HB1.out hb)
    clear hb
    go_wp2
    go_ret
    exact ⟨rfl, HB2.out⟩
end Go.Proofs.YtmepndnckcpgjaaGreat
