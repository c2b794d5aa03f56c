/- Walks: chosen, ranked. -/
import Derived.Test.YtmepndnckcpgjaaGreatM1
import Derived.Test.YtmepndnckcpgjaaGreatF4
import Derived.Test.YtmepndnckcpgjaaGreatPlain25
import Derived.Test.YtmepndnckcpgjaaGreatW18
namespace Go.Proofs.YtmepndnckcpgjaaGreat
open Go.RowKit
/-! ### a growing row of fences -/
def RowF (w : World) (base : Nat) (v : Value) (fs : List (Int × Int)) : Prop := w.ownsRow base 37 2 v fs.length (fenV fs)
theorem RowF.nil (w : World) (base : Nat) : RowF w base (.slice none 0 0) [] := World.ownsRow_nil w base 37 2
theorem RowF.alloc {w : World} {base : Nat} {v : Value} {fs : List (Int × Int)} (h : RowF w base v fs) (o : Obj) : RowF (w.alloc o) base v fs := World.ownsRow.alloc h o
theorem RowF.form {w : World} {base : Nat} {v : Value} {fs : List (Int × Int)} (h : RowF w base v fs) : ∃ A c, v = .slice A fs.length c ∧ Fens w A fs.length fs := by
  by_cases h0 : 0 < fs.length
  · obtain ⟨g, cap, e, _, hF⟩ := own_fenB h h0 rfl
    exact ⟨_, cap, e, hF.fens⟩
  · have hf : fs = [] := List.eq_nil_of_length_eq_zero (by omega)
    subst hf
    rcases h.2 with ⟨e, _⟩ | ⟨g, cap, cur, e, _⟩
    · exact ⟨none, 0, e, Fens.nil _ _⟩
    · exact ⟨_, cap, e, Fens.nil _ _⟩
theorem fenV_snoc (fs : List (Int × Int)) (f : Int × Int) : fenV (fs ++ [f]) = fenV fs ++ [.int .i64 f.1, .int .i64 f.2] := by
  apply List.ext_getElem?
  intro x
  by_cases h1 : x < fs.length * 2
  · rw [fenV_get _ (by rw [List.length_append]; omega), List.getElem?_append_left (by rw [fenV_len]; exact h1), fenV_get _ h1]
    unfold fvF
    rw [List.getD_eq_getElem?_getD, List.getD_eq_getElem?_getD, List.getElem?_append_left (by omega)]
  · rw [List.getElem?_append_right (by rw [fenV_len]; omega), fenV_len]
    by_cases h2 : x < (fs.length + 1) * 2
    · rw [fenV_get _ (by rw [List.length_append]; exact h2)]
      unfold fvF
      have e : (fs ++ [f]).getD (x / 2) (0, 0) = f := by
        rw [List.getD_eq_getElem?_getD, List.getElem?_append_right (by omega), show x / 2 - fs.length = 0 by omega]
        rfl
      rw [e]
      by_cases h3 : x % 2 = 0
      · rw [if_pos h3, show x - fs.length * 2 = 0 by omega]; rfl
      · rw [if_neg h3, show x - fs.length * 2 = 1 by omega]; rfl
    · rw [List.getElem?_eq_none (by rw [fenV_len, List.length_append, List.length_singleton]; omega), List.getElem?_eq_none (by simp; omega)]
theorem wpList_pushF {w : World} {ops : Array Oper} {rest : List Oper} {o : Oper} {a : Act} {Q : Exit → Act → World → Prop} (hgd : o.guard = none) (s x : Operand)
    (ho : o.op = .call { callee := .builtin .append, args := #[s, x], argTypes := #[22, 22] })
    (base : Nat) (v : Value) (fs : List (Int × Int)) (f : Int × Int) (hs : a.eval s = v) (hrow : RowF w base v fs) (g c : Nat) (hx : a.eval x = .slice (some ⟨g, 0, none⟩) 1 c)
    (h1c : w.cell? ⟨g, 0, none⟩ = some (.int .i64 f.1)) (h2c : w.cell? ⟨g, 1, none⟩ = some (.int .i64 f.2)) (hl : fs.length ≤ 1000000) (hb : base ≤ w.heap.size)
    (h : ∀ v' w', RowF w' base v' (fs ++ [f]) → w.grownBy w' v.ownBlock → wpList Tryz.prog ops Q rest (a.put o.dst v') w') : wpList Tryz.prog ops Q (o :: rest) a w := by
  obtain ⟨i0, hi, hz0, hz1, hz2⟩ := info37
  refine wpList_append_own w hgd s x 22 ho base 37 i0 _ 2 16 und22 hi hz0 hz1 hz2 rfl (by decide) v fs.length (fenV fs) hs hrow ⟨g, 0, none⟩ 1 c [.int .i64 f.1, .int .i64 f.2] hx rfl ?_ ?_ (by unfold maxLen; omega) (by omega) hb ?_
  · intro j u hj
    rw [Addr.add_mid]
    match j, hj with
    | 0, hj => simp at hj; subst hj; exact h1c
    | 1, hj => simp at hj; subst hj; exact h2c
  · intro u hu
    simp at hu
    rcases hu with rfl | rfl <;> rfl
  · intro v' w' k1 k2 _
    refine h v' w' ?_ k2
    unfold RowF
    rw [fenV_snoc, List.length_append]
    exact k1
theorem below_grownF {B : Nat} {a w w' : World} {v : Value} (h : Below B a w) (hg : w.grownBy w' v.ownBlock) (hb : B ≤ w.heap.size) {base : Nat} {fs : List (Int × Int)} (hr : RowF w base v fs) (hB : B ≤ base) : Below B a w' :=
  h.grown hg hb fun k hk => Nat.le_trans hB (World.ownsRow.lt hr k hk).1
set_option maxRecDepth 100000 in
set_option maxHeartbeats 8000000 in
/-- dibbertop.chosen -/
theorem f12_any (A : Option Addr) (m c : Nat) (fs : List (Int × Int)) (set : Nat) (w : World) (hs : Fens w A m fs) (hm : m ≤ 14) :
    Calls Tryz.prog 12 #[.slice A m c, .int .i64 (set : Int)] w fun e w' => ∃ A' c', e = .returned (.slice A' (cho fs set).length c') ∧ Fens w' A' (cho fs set).length (cho fs set) ∧ Below w.heap.size w w' := by
  have HS := Lib.hid hs
  have HC : Hid (choTo fs set m = cho fs set) := Lib.hid (by unfold cho; rw [hs.len])
  have H0 : Hid (choTo fs set 0 = []) := Lib.hid rfl
  have HST : Hid (∀ k, choTo fs set (k + 1) = if set.testBit k = true then choTo fs set k ++ [fs.getD k (0, 0)] else choTo fs set k) := Lib.hid fun _ => rfl
  have HLE := Lib.hid (choTo_len fs set)
  clear hs
  go_enter Tryz.func12, Tryz.ntmps12
  go_wp2
  go_loopw [5, 6] (fun vi ii wr => ∃ (k : Nat) (v : Value), k ≤ m ∧ ii = .int .i64 (k : Int) ∧ v = vi ∧ Hid (RowF wr w.heap.size v (choTo fs set k)) ∧ Hid (Below w.heap.size w wr)) (fun _ ii _ => m - (intOf ii).toNat)
  case atStart => exact ⟨0, _, by omega, rfl, rfl, Lib.hid (by rw [H0.out]; exact RowF.nil _ _), Lib.hid (Below.refl _ _)⟩
  case round => as_aux_lemma =>
    obtain ⟨k, v5, hk, rfl, rfl, HR, HB⟩ := hrel
    by_cases hkm : k < m
    · have k0 : (0 : Int) ≤ (k : Int) := by omega
      have km : (k : Int) < (m : Int) := by omega
      have hsh := shr_tmod set k
      have HST1 := Lib.hid (HST.out k)
      have hle := HLE.out k
      cases hb : set.testBit k
      · rw [hb] at HST1 hsh
        have HQ : Hid (choTo fs set (k + 1) = choTo fs set k) := Lib.hid (by rw [HST1.out]; rfl)
        have hsh2 : ((set : Int) / 2 ^ k).tmod 2 = 0 := hsh
        clear hb hsh HST1
        go_wp2
        go_roundw
        case rel => exact ⟨k + 1, _, by omega, by go_num, rfl, Lib.hid (by rw [HQ.out]; exact HR.out), HB⟩
        case measure => simp [intOf]; omega
      · rw [hb] at HST1 hsh
        have HQ : Hid (choTo fs set (k + 1) = choTo fs set k ++ [fs.getD k (0, 0)]) := Lib.hid (by rw [HST1.out]; rfl)
        have hsh2 : ((set : Int) / 2 ^ k).tmod 2 = 1 := hsh
        clear hb hsh HST1
        obtain ⟨b, off, rfl, c1, c2⟩ := (HS.out.below HB.out).at_ hkm
        generalize fs.getD k (0, 0) = f at *
        obtain ⟨fa, fb⟩ := f
        have ba := below_alloc wr (.cells #[.int .i64 fa, .int .i64 fb] 37)
        have hrow := HR.out.alloc (.cells #[.int .i64 fa, .int .i64 fb] 37)
        have HROW := Lib.hid hrow
        have HB1 := Lib.hid (below_step HB.out ba)
        have hbz := HB1.out.size
        have hl : (choTo fs set k).length ≤ 1000000 := by omega
        have e1 : (wr.alloc (.cells #[.int .i64 fa, .int .i64 fb] 37)).cell? ⟨wr.heap.size, 0, none⟩ = some (.int .i64 fa) := (cell_new wr _ 37 0).trans rfl
        have e2 : (wr.alloc (.cells #[.int .i64 fa, .int .i64 fb] 37)).cell? ⟨wr.heap.size, 1, none⟩ = some (.int .i64 fb) := (cell_new wr _ 37 1).trans rfl
        generalize choTo fs set k = ch at *
        clear ba
        go_wp2_with (first | refine wpList_pushF rfl (.tmp 18) (.tmp 23) rfl w.heap.size _ ch (fa, fb) rfl hrow wr.heap.size 1 rfl e1 e2 hl hbz ?_)
        rintro v' w' hv' hg
        have HV3 := Lib.hid hv'
        have HB3 := Lib.hid (below_grownF HB1.out hg hbz HROW.out (Nat.le_refl _))
        clear hv' hg hrow e1 e2
        go_wp2
        go_roundw
        case rel => exact ⟨k + 1, _, by omega, by go_num, rfl, Lib.hid (by rw [HQ.out]; exact HV3.out), HB3⟩
        case measure => simp [intOf]; omega
    · obtain rfl : k = m := by omega
      have hr := HR.out
      rw [HC.out] at hr
      obtain ⟨A', c', rfl, hF⟩ := RowF.form hr
      have HF := Lib.hid hF
      clear hF hr HR
      go_wp2
      go_ret
      exact ⟨A', c', rfl, HF.out, HB.out⟩
end Go.Proofs.YtmepndnckcpgjaaGreat
