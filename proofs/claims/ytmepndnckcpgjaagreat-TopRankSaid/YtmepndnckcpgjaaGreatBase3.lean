/- A row that grows by one int; a without b on bits. No condition. -/
import Derived.Test.YtmepndnckcpgjaaGreatBase2
import Derived.Test.YtmepndnckcpgjaaGreatPlain4
namespace Go.Proofs.YtmepndnckcpgjaaGreat
open Go.RowKit

theorem bits_andNot_nat (a b : Nat) (ha : a < 9223372036854775808) (hb : b < 9223372036854775808) : bits .andNot .i64 (a : Int) (b : Int) = ((nd a b : Nat) : Int) := by
  have e1 : BitVec.ofInt 64 (a : Int) = BitVec.ofNat 64 a := by simp
  have e2 : BitVec.ofInt 64 (b : Int) = BitVec.ofNat 64 b := by simp
  have h1 : a % 18446744073709551616 = a := Nat.mod_eq_of_lt (by omega)
  have h2 : b % 18446744073709551616 = b := Nat.mod_eq_of_lt (by omega)
  have h3 : nd a b < 2 ^ 63 := nd_le a b 63 (by omega)
  have e : ((BitVec.ofNat 64 a) &&& ~~~(BitVec.ofNat 64 b)).toNat = nd a b := by
    apply Nat.eq_of_testBit_eq
    intro i
    rw [nd_testBit, ← BitVec.getLsbD, BitVec.getLsbD_and, BitVec.getLsbD_not, BitVec.getLsbD_ofNat, BitVec.getLsbD_ofNat]
    by_cases hi : i < 64
    · simp [hi]
    · have : a.testBit i = false := Nat.testBit_lt_two_pow (Nat.lt_of_lt_of_le ha (Nat.le_trans (by decide) (Nat.pow_le_pow_right (by omega) (by omega : 63 ≤ i))))
      simp [hi, this]
  show IntKind.i64.wrap (((BitVec.ofInt 64 (a : Int)) &&& ~~~(BitVec.ofInt 64 (b : Int))).toNat : Int) = _
  rw [e1, e2, e]
  exact IntWalk.i64_in _ (by omega)

/-- The slice value v owns a row of the call's own whose elements are xs. -/
def Row (w : World) (base : Nat) (v : Value) (xs : List Int) : Prop := w.ownsRow base 3 1 v xs.length (xs.map (Value.int .i64))
section
variable {w w' : World} {base : Nat} {v : Value} {xs : List Int}
theorem Row.nil (w : World) (base : Nat) : Row w base (.slice none 0 0) [] := World.ownsRow_nil w base 3 1
theorem Row.alloc (h : Row w base v xs) (o : Obj) : Row (w.alloc o) base v xs := World.ownsRow.alloc h o
theorem Row.drewN (h : Row w base v xs) (m : Nat) : Row (w.drewN m) base v xs := h
theorem Row.form (h : Row w base v xs) : ∃ A c, v = .slice A xs.length c ∧ (∀ n, xs.length ≤ n → n ≤ 17592186044415 → Ints w A xs.length xs) := by
  rcases h.2 with ⟨e, hn⟩ | ⟨g, cap, cur, e, hb, hh, hc, hm, hsz, ht⟩
  · refine ⟨none, 0, by rw [e, hn], fun n h1 h2 => ⟨rfl, by omega, fun h => absurd hn (by omega)⟩⟩
  · refine ⟨_, cap, e, fun n h1 h2 => ⟨rfl, by omega, fun _ => ⟨g, 0, rfl, fun j hj => ?_⟩⟩⟩
    rw [Nat.zero_add, cell_of_row w g j cur 3 (0, 0) hh]
    have hlt : j < cur.size := by omega
    rw [Nat.mul_one] at ht
    have h3 : (cur.toList.take xs.length)[j]? = cur.toList[j]? := List.getElem?_take_of_lt hj
    rw [ht] at h3
    rw [← Array.getElem?_toList, ← h3]
    simp [hj]
theorem wpList_push {ops : Array Oper} {rest : List Oper} {o : Oper} {a : Act} {Q : Exit → Act → World → Prop} (hgd : o.guard = none) (s x : Operand)
    (ho : o.op = .call { callee := .builtin .append, args := #[s, x], argTypes := #[23, 23] })
    (base : Nat) (v : Value) (xs : List Int) (hs : a.eval s = v) (hrow : Row w base v xs) (g c : Nat) (y : Int) (hx : a.eval x = .slice (some ⟨g, 0, none⟩) 1 c)
    (hc : w.cell? ⟨g, 0, none⟩ = some (.int .i64 y)) (hl : xs.length ≤ 1000000) (hb : base ≤ w.heap.size)
    (h : ∀ v' w', Row w' base v' (xs ++ [y]) → w.grownBy w' v.ownBlock → wpList Tryz.prog ops Q rest (a.put o.dst v') w') : wpList Tryz.prog ops Q (o :: rest) a w := by
  obtain ⟨i0, hi, hz0, hz1, hz2⟩ := info_parts (show (Tryz.prog.info? 3).map (fun i => (i.zero, i.size, i.bytes)) = some (some (.int .i64 0), 1, 8) from by kernel_rfl)
  refine wpList_append_own w hgd s x 23 ho base 3 i0 (.int .i64 0) 1 8 Tryz.underlying23 hi hz0 hz1 hz2 rfl (by decide) v xs.length (xs.map (Value.int .i64)) hs hrow ⟨g, 0, none⟩ 1 c [.int .i64 y] hx rfl ?_ ?_ ?_ ?_ hb ?_
  · intro j u hj
    match j, hj with
    | 0, hj => simp at hj; subst hj; simpa [Addr.add] using hc
  · intro u hu; simp at hu; subst hu; rfl
  · unfold maxLen; omega
  · omega
  · intro v' w' h1 h2 _
    exact h v' w' (by unfold Row; simpa using h1) h2
end
theorem below_grown {B : Nat} {a w w' : World} {v : Value} (h : Below B a w) (hg : w.grownBy w' v.ownBlock) (hb : B ≤ w.heap.size) {base : Nat} {xs : List Int} (hr : Row w base v xs) (hB : B ≤ base) : Below B a w' :=
  h.grown hg hb fun k hk => Nat.le_trans hB (World.ownsRow.lt hr k hk).1
end Go.Proofs.YtmepndnckcpgjaaGreat
