/- Walks: transversals, whatever is done at each. -/
import Derived.Test.YtiodednhadnekaaDoorW15
import Derived.Test.YtiodednhadnekaaDoorPlain5
import Derived.ArgAppend
namespace Go.Proofs.YtiodednhadnekaaDoor
open Go.RowKit Go.Deep
attribute [local go_sem ↓] Go.wp_at_zero Go.wp_at_succ

/-- No block that lay there has turned, but for those that are owned; none of them has come to be owned. -/
structure Kept (Own : World → Nat → Prop) (w w' : World) : Prop where
  os : w'.os = w.os
  tape : w'.tape = w.tape
  output : w'.output = w.output
  size : w.heap.size ≤ w'.heap.size
  block : ∀ i, i < w.heap.size → ¬ Own w i → w'.heap[i]? = w.heap[i]?
  own : ∀ i, i < w.heap.size → Own w' i → Own w i
theorem Kept.refl (Own : World → Nat → Prop) (w : World) : Kept Own w w := ⟨rfl, rfl, rfl, Nat.le_refl _, fun _ _ _ => rfl, fun _ _ h => h⟩
theorem Kept.trans {Own : World → Nat → Prop} {a b c : World} (h : Kept Own a b) (k : Kept Own b c) : Kept Own a c :=
  ⟨k.os.trans h.os, k.tape.trans h.tape, k.output.trans h.output, Nat.le_trans h.size k.size,
   fun i hi hn => (k.block i (Nat.lt_of_lt_of_le hi h.size) (fun ho => hn (h.own i hi ho))).trans (h.block i hi hn),
   fun i hi ho => h.own i hi (k.own i (Nat.lt_of_lt_of_le hi h.size) ho)⟩
theorem Kept.below {Own : World → Nat → Prop} {B : Nat} {a w w' : World} (h : Below B a w) (k : Kept Own w w') (hB : B ≤ w.heap.size) (ho : ∀ i, Own w i → B ≤ i) : Below B a w' :=
  ⟨k.os.trans h.os, k.tape.trans h.tape, k.output.trans h.output, Nat.le_trans h.size k.size, fun i hi => (k.block i (Nat.lt_of_lt_of_le hi hB) (fun h => absurd (ho i h) (by omega))).trans (h.block i hi)⟩
/-- What is done at each transversal: it may turn the blocks that are owned alone. -/
structure Visit (n base : Nat) (fv : FuncId) (caps : Array Value) (stop : Bool) (Own : World → Nat → Prop) (I : List (List Nat) → World → Prop) : Prop where
  enter : ∀ (args : Array Value) (w : World), (callFunc fv args).run Tryd.prog w = .ok (.enter fv args) w
  keep : ∀ done w w', I done w → Below w.heap.size w w' → I done w' ∧ ∀ i, Own w' i → Own w i
  lt : ∀ done w i, I done w → Own w i → base ≤ i ∧ i < w.heap.size
  call : ∀ done l A c w, I done w → done.length ≤ 1000000 → l.length = n → (∀ i, i < n → l.getD i 0 < n) → Ints w A n (zs l) → (∀ g o, A = some ⟨g, o, none⟩ → ¬ Own w g) →
    Calls Tryd.prog fv (#[.slice A n c] ++ caps) w fun e w' => e = .returned (.bool stop) ∧ I (done ++ [l]) w' ∧ Kept Own w w'
section
variable {n base : Nat} {fv : FuncId} {caps : Array Value} {stop : Bool} {Own : World → Nat → Prop} {I : List (List Nat) → World → Prop} (V : Visit n base fv caps stop Own I)
include V
theorem Visit.grow {done : List (List Nat)} {w w' : World} (h : I done w) (hb : Below w.heap.size w w') : Kept Own w w' :=
  ⟨hb.os, hb.tape, hb.output, hb.size, fun i hi _ => hb.block i hi, fun i _ ho => (V.keep done w w' h hb).2 i ho⟩
/-- A new block is not owned. -/
theorem Visit.new {done : List (List Nat)} {w w' : World} (h : I done w) (hb : Below w.heap.size w w') {i : Nat} (hi : w.heap.size ≤ i) : ¬ Own w' i := fun ho => by
  have := (V.lt done w i h ((V.keep done w w' h hb).2 i ho)).2
  omega
end
/-- A cell that is nobody's. -/
def CellS (Own : World → Nat → Prop) (w : World) (p : Nat) (v : Value) : Prop := w.cell? ⟨p, 0, none⟩ = some v ∧ ¬ Own w p
theorem CellS.kept {Own : World → Nat → Prop} {w w' : World} {p : Nat} {v : Value} (h : CellS Own w p v) (k : Kept Own w w') : CellS Own w' p v := by
  have hlt := lt_of_cell h.1
  exact ⟨(World.cell?_of_block (k.block p hlt h.2)).trans h.1, fun ho => h.2 (k.own p hlt ho)⟩
/-- A slice that is nobody's. -/
def IntsN (Own : World → Nat → Prop) (w : World) (A : Option Addr) (l : List Nat) : Prop := Ints w A l.length (zs l) ∧ ∀ g o, A = some ⟨g, o, none⟩ → ¬ Own w g
theorem IntsN.kept {Own : World → Nat → Prop} {w w' : World} {A : Option Addr} {l : List Nat} (h : IntsN Own w A l) (k : Kept Own w w') (h0 : 0 < l.length) : IntsN Own w' A l := by
  obtain ⟨g, o, e, hc⟩ := h.1.2.2 h0
  have hlt := lt_of_cell (hc 0 h0)
  have hn := h.2 g o e
  refine ⟨⟨h.1.1, h.1.2.1, fun _ => ⟨g, o, e, fun j hj => (World.cell?_of_block (k.block g hlt hn)).trans (hc j hj)⟩⟩, fun g' o' e' => ?_⟩
  rw [e] at e'
  injection e' with e'
  injection e' with e1 e2
  subst e1
  exact fun ho => hn (k.own g hlt ho)
theorem IntsN.nil (Own : World → Nat → Prop) (w : World) : IntsN Own w none [] := ⟨Ints.nil _ _, fun g o e => (by cases e)⟩
/-- What the function on is told. -/
def Ctx (n base : Nat) (fv : FuncId) (caps : Array Value) (Own : World → Nat → Prop) (w0 : World) (B : Option Addr) (cb pn pv pb po : Nat) (w : World) : Prop :=
  CellS Own w pn (.int .i64 (n : Int)) ∧ CellS Own w pv (.func (.func fv) #[] caps) ∧ CellS Own w pb (.slice B n cb) ∧ CellS Own w po (.func (.func 94) #[] #[.pointer (some ⟨pn, 0, none⟩), .pointer (some ⟨pv, 0, none⟩), .pointer (some ⟨pb, 0, none⟩), .pointer (some ⟨po, 0, none⟩)]) ∧ Below base w0 w ∧ base ≤ w.heap.size
theorem Ctx.kept {n base : Nat} {fv : FuncId} {caps : Array Value} {Own : World → Nat → Prop} {w0 : World} {B : Option Addr} {cb pn pv pb po : Nat} {w w' : World} (h : Ctx n base fv caps Own w0 B cb pn pv pb po w) (k : Kept Own w w') (ho : ∀ i, Own w i → base ≤ i) : Ctx n base fv caps Own w0 B cb pn pv pb po w' := by
  obtain ⟨h1, h2, h3, h4, h5, h6⟩ := h
  exact ⟨h1.kept k, h2.kept k, h3.kept k, h4.kept k, k.below h5 h6 ho, Nat.le_trans h6 k.size⟩
theorem below_of_none {w w' : World} (h : w.grownBy w' none) : Below w.heap.size w w' := ⟨h.os, h.tape, h.output, h.size, fun i hi => h.block i hi (by simp)⟩
/-- append to a slice of ints that has no room. -/
theorem step_growI {w : World} {ops : Array Oper} {o : Oper} {a : Act} {K : Act → World → Prop} {Q : Exit → Act → World → Prop} {E : Prop} (hwant : Region.wanted o (yielded ops a.tmps) = true) (s x : Operand)
    (ho : o.op = .call { callee := .builtin .append, args := #[s, x], argTypes := #[29, 29] })
    (A : Option Addr) (m : Nat) (l : List Nat) (hs : a.eval s = .slice A m m) (hm : l.length = m) (hn : A = none → m = 0) (hi : Ints w A m (zs l)) (g c : Nat) (y : Nat) (hx : a.eval x = .slice (some ⟨g, 0, none⟩) 1 c)
    (hc : w.cell? ⟨g, 0, none⟩ = some (.int .i64 (y : Int))) (hl : m ≤ 1000000)
    (h : ∀ A' c' w', IntsN (fun _ i => i < w.heap.size) w' A' (l ++ [y]) → A' ≠ none → m + 1 ≤ c' → Below w.heap.size w w' → K (a.put o.dst (.slice A' (m + 1) c')) w') : if Region.wanted o (yielded ops a.tmps) = true then Oper.wp Tryd.prog o a w K Q else E := by
  rw [if_pos hwant]
  obtain ⟨i0, hi0, hz0, hz1, hz2⟩ := info_parts (show (Tryd.prog.info? 3).map (fun i => (i.zero, i.size, i.bytes)) = some (some (.int .i64 0), 1, 8) from by kernel_rfl)
  have fin : ∀ v' w', w'.ownsRow w.heap.size 3 1 v' (m + 1) ((zs l).map (Value.int .i64) ++ [.int .i64 (y : Int)]) → w.grownBy w' none → K (a.put o.dst v') w' := fun v' w' h1 h2 => by
    have h3 : Row w' w.heap.size v' (zs (l ++ [y])) := by
      have e : zs (l ++ [y]) = zs l ++ [(y : Int)] := zs_app l [y]
      rw [e]
      unfold Row
      rw [List.length_append, zs_len, hm, List.map_append]
      exact h1
    have hl3 : (zs (l ++ [y])).length = m + 1 := by rw [zs_len, List.length_append, hm]; rfl
    obtain ⟨A', c', e, hI, hcap⟩ := h3.form3 (by omega)
    rw [hl3] at e hI hcap
    subst e
    refine h A' c' w' ⟨by rw [show (l ++ [y]).length = m + 1 by rw [List.length_append, hm]; rfl]; exact hI, fun g' o' e' hlt => ?_⟩ (fun e => ?_) hcap (below_of_none h2)
    · subst e'
      have := (World.ownsRow.lt h3 g' rfl).1
      omega
    · subst e
      obtain ⟨b, off, e, _⟩ := hI.at_ (show 0 < m + 1 by omega)
      cases e
  have hnews : ∀ (j : Nat) (u : Value), ([Value.int .i64 (y : Int)] : List Value)[j]? = some u → w.cell? ((⟨g, 0, none⟩ : Addr).add j) = some u := by
    intro j u hj
    match j, hj with
    | 0, hj => simp at hj; subst hj; simpa [Addr.add] using hc
  cases A with
  | some b =>
    obtain ⟨v', w', hrun, r1, r2⟩ := run_append_arg_grows (P := Tryd.prog) w 29 o.type 3 i0 (.int .i64 0) 1 8 Tryd.underlying29 hi0 hz0 hz1 hz2 rfl (by decide) b m m ((zs l).map (Value.int .i64)) (by rw [List.length_map, zs_len, hm, Nat.mul_one]) (by
      intro j u hu
      have hj : j < m := by
        rcases Nat.lt_or_ge j m with h | h
        · exact h
        · rw [List.getElem?_eq_none (by rw [List.length_map, zs_len, hm]; exact h)] at hu; cases hu
      obtain ⟨b', off, e, hc⟩ := hi.ad (by omega)
      cases e
      rw [Go.WideShapes.add_plain, hc j hj, ← hu]
      have hjl : j < (zs l).length := by rw [zs_len, hm]; exact hj
      simp [List.getD_eq_getElem?_getD, hjl]) ⟨g, 0, none⟩ 1 c [.int .i64 (y : Int)] rfl hnews (by omega) (by unfold maxLen; omega) (by omega)
    unfold Oper.wp
    simp [execOp, ho, resolve, invoke, builtin, hs, hx, hrun, Result.andThen]
    exact fin v' w' r1 r2
  | none =>
    obtain rfl := hn rfl
    have hl0 : l = [] := List.eq_nil_of_length_eq_zero hm
    subst hl0
    obtain ⟨v', w', hrun, r1, r2, _⟩ := run_append_own (P := Tryd.prog) w w.heap.size 29 o.type 3 i0 (.int .i64 0) 1 8 Tryd.underlying29 hi0 hz0 hz1 hz2 rfl (by decide) (.slice none 0 0) 0 [] (World.ownsRow_nil w _ 3 1) ⟨g, 0, none⟩ 1 c [.int .i64 (y : Int)] rfl hnews (by intro u hu; simp at hu; subst hu; rfl) (by unfold maxLen; omega) (by omega) (Nat.le_refl _)
    unfold Oper.wp
    simp [execOp, ho, resolve, invoke, builtin, hs, hx, hrun, Result.andThen]
    exact fin v' w' r1 r2
end Go.Proofs.YtiodednhadnekaaDoor
