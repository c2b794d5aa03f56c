/- Plain laws: the transversals of a bed, in order. No condition. Walks: transversals, whatever is done at each. Walks: transversals. Walks: transversals; Transversals. Walks: Transversals. Walks: slices.Repeat of one number. Walks: slices.Compare, slices.CompareFunc. Walks: the transversals by their first column. Walks: Mate$1. The mates of a bed, in order; the memory of Mate. Walks: Mate$2, at its end. Walks: Mate$2. Before the walk of Mate. Walks: Mate. Walks: alive. Walks: alive. -/
import Derived.Test.YtiodednhadnekaaDoorA1
import Derived.ArgAppend
import Derived.Laws.CopyOwn
import Derived.Lib.SliceRun
namespace Go.Proofs.YtiodednhadnekaaDoor
def zs (l : List Nat) : List Int := l.map Int.ofNat
theorem zs_len (l : List Nat) : (zs l).length = l.length := by simp [zs]
theorem zs_get (l : List Nat) (i : Nat) : (zs l).getD i 0 = (l.getD i 0 : Int) := by
  simp only [zs, List.getD_eq_getElem?_getD, List.getElem?_map]
  cases l[i]? <;> rfl
theorem zs_app (l m : List Nat) : zs (l ++ m) = zs l ++ zs m := by simp [zs]
/-- The columns that are taken, and the crops. -/
def colsM (l : List Nat) : Nat := orN (fun i => 2 ^ l.getD i 0) l.length
def cropsM (b : List (List Int)) (l : List Nat) : Nat := orN (fun i => 2 ^ (gAt b i (l.getD i 0)).toNat) l.length
theorem getD_app1 {l : List Nat} {i : Nat} (h : i < l.length) (c : Nat) : (l ++ [c]).getD i 0 = l.getD i 0 := by
  simp [List.getD_eq_getElem?_getD, List.getElem?_append_left h]
theorem getD_app2 (l : List Nat) (c : Nat) : (l ++ [c]).getD l.length 0 = c := by simp [List.getD_eq_getElem?_getD]
theorem colsM_app (l : List Nat) (c : Nat) : colsM (l ++ [c]) = colsM l ||| 2 ^ c := by
  unfold colsM
  rw [List.length_append, List.length_singleton, orN, getD_app2, orN_congr fun i hi => by rw [getD_app1 hi]]
theorem cropsM_app (b : List (List Int)) (l : List Nat) (c : Nat) : cropsM b (l ++ [c]) = cropsM b l ||| 2 ^ (gAt b l.length c).toNat := by
  unfold cropsM
  rw [List.length_append, List.length_singleton, orN, getD_app2, orN_congr fun i hi => by rw [getD_app1 hi]]
def okT (b : List (List Int)) (l : List Nat) (c : Nat) : Bool := !(colsM l).testBit c && !(cropsM b l).testBit (gAt b l.length c).toNat
/-- The transversals that begin with some columns. -/
def trF (b : List (List Int)) (n : Nat) : Nat → List Nat → List (List Nat)
  | 0, l => [l]
  | k + 1, l => (List.range n).flatMap fun c => if okT b l c = true then trF b n k (l ++ [c]) else []
def trans (b : List (List Int)) (n : Nat) : List (List Nat) := trF b n n []
def trC (b : List (List Int)) (n k : Nat) (l : List Nat) (c : Nat) : List (List Nat) := if okT b l c = true then trF b n k (l ++ [c]) else []
def trTo (b : List (List Int)) (n k : Nat) (l : List Nat) (c : Nat) : List (List Nat) := (List.range c).flatMap fun c => trC b n k l c
theorem trTo_succ (b : List (List Int)) (n k : Nat) (l : List Nat) (c : Nat) : trTo b n k l (c + 1) = trTo b n k l c ++ trC b n k l c := by
  unfold trTo; rw [List.range_succ, List.flatMap_append]; simp
theorem trTo_zero (b : List (List Int)) (n k : Nat) (l : List Nat) : trTo b n k l 0 = [] := rfl
theorem trF_succ (b : List (List Int)) (n k : Nat) (l : List Nat) : trF b n (k + 1) l = trTo b n k l n := rfl
theorem trTo_pre {b : List (List Int)} {n k : Nat} {l : List Nat} {c d : Nat} (h : c ≤ d) : ∃ t, trTo b n k l d = trTo b n k l c ++ t := by
  induction d with
  | zero => obtain rfl : c = 0 := by omega
            exact ⟨[], by simp⟩
  | succ d ih =>
    rcases Nat.lt_or_ge c (d + 1) with h1 | h1
    · obtain ⟨t, ht⟩ := ih (by omega)
      exact ⟨t ++ trC b n k l d, by rw [trTo_succ, ht, List.append_assoc]⟩
    · obtain rfl : c = d + 1 := by omega
      exact ⟨[], by simp⟩
theorem trF_len (b : List (List Int)) (n : Nat) : ∀ k l, (trF b n k l).length ≤ n ^ k
  | 0, _ => by simp [trF]
  | k + 1, l => by
    have : ∀ m, (trTo b n k l m).length ≤ m * n ^ k := by
      intro m
      induction m with
      | zero => simp [trTo_zero]
      | succ m ih =>
        rw [trTo_succ, List.length_append, Nat.succ_mul]
        have : (trC b n k l m).length ≤ n ^ k := by
          unfold trC; split
          · exact trF_len b n k _
          · simp
        omega
    rw [trF_succ, Nat.pow_succ, Nat.mul_comm]
    exact this n
/-- What is visited, where the visits may end. -/
def vis (stop : Bool) (L : List (List Nat)) : List (List Nat) := if stop = true then L.take 1 else L
def hit (stop : Bool) (L : List (List Nat)) : Bool := stop && !L.isEmpty
theorem vis_hit {stop : Bool} {A C T : List (List Nat)} (hA : stop = true → A = []) (h : hit stop C = true) : vis stop (A ++ C ++ T) = A ++ vis stop C ∧ hit stop (A ++ C ++ T) = true := by
  unfold hit at h
  rw [Bool.and_eq_true] at h
  obtain ⟨rfl, h2⟩ := h
  rw [hA rfl]
  match C, h2 with
  | x :: C, _ => exact ⟨by simp [vis], by simp [hit]⟩
theorem vis_miss {stop : Bool} {C : List (List Nat)} (h : hit stop C = false) : vis stop C = C ∧ (stop = true → C = []) := by
  cases stop
  · exact ⟨rfl, fun h => (by cases h)⟩
  · have : C = [] := by simpa [hit] using h
    subst this
    exact ⟨rfl, fun _ => rfl⟩
theorem vis_none {stop : Bool} {A : List (List Nat)} (hA : stop = true → A = []) : vis stop A = A ∧ hit stop A = false := by
  cases stop
  · exact ⟨rfl, rfl⟩
  · rw [hA rfl]; exact ⟨rfl, rfl⟩
theorem and_pow_zero (C c : Nat) : (((C &&& 2 ^ c : Nat) : Int) == 0) = !C.testBit c := by
  cases h : C.testBit c
  · have : C &&& 2 ^ c = 0 := by
      apply Nat.eq_of_testBit_eq
      intro i
      rw [Nat.testBit_and, Nat.testBit_two_pow, Nat.zero_testBit]
      by_cases e : c = i
      · subst e; simp [h]
      · simp [e]
    rw [this]; rfl
  · have h2 : (C &&& 2 ^ c).testBit c = true := by rw [Nat.testBit_and, h, Nat.testBit_two_pow]; simp
    have : C &&& 2 ^ c ≠ 0 := fun e => by rw [e, Nat.zero_testBit] at h2; cases h2
    simpa using this
end Go.Proofs.YtiodednhadnekaaDoor

namespace Go.Proofs.YtiodednhadnekaaDoor
open Go.RowKit Go.Deep
attribute [local go_sem ↓] Go.wp_at_zero Go.wp_at_succ

/-- No block that lay there has turned, but for those that are owned; none of them has come to be owned. -/
structure Kept (Own : World → Nat → Prop) (w w' : World) : Prop where
  os : w'.os = w.os
  tape : w'.tape = w.tape
  output : w'.output = w.output
  size : w.heap.size ≤ w'.heap.size
  block : ∀ i, i < w.heap.size → ¬ Own w i → w'.heap[i]? = w.heap[i]?
  own : ∀ i, i < w.heap.size → Own w' i → Own w i
theorem Kept.refl (Own : World → Nat → Prop) (w : World) : Kept Own w w := ⟨rfl, rfl, rfl, Nat.le_refl _, fun _ _ _ => rfl, fun _ _ h => h⟩
theorem Kept.trans {Own : World → Nat → Prop} {a b c : World} (h : Kept Own a b) (k : Kept Own b c) : Kept Own a c :=
  ⟨k.os.trans h.os, k.tape.trans h.tape, k.output.trans h.output, Nat.le_trans h.size k.size,
   fun i hi hn => (k.block i (Nat.lt_of_lt_of_le hi h.size) (fun ho => hn (h.own i hi ho))).trans (h.block i hi hn),
   fun i hi ho => h.own i hi (k.own i (Nat.lt_of_lt_of_le hi h.size) ho)⟩
theorem Kept.below {Own : World → Nat → Prop} {B : Nat} {a w w' : World} (h : Below B a w) (k : Kept Own w w') (hB : B ≤ w.heap.size) (ho : ∀ i, Own w i → B ≤ i) : Below B a w' :=
  ⟨k.os.trans h.os, k.tape.trans h.tape, k.output.trans h.output, Nat.le_trans h.size k.size, fun i hi => (k.block i (Nat.lt_of_lt_of_le hi hB) (fun h => absurd (ho i h) (by omega))).trans (h.block i hi)⟩
/-- What is done at each transversal: it may turn the blocks that are owned alone. -/
structure Visit (n base : Nat) (fv : FuncId) (caps : Array Value) (stop : Bool) (Own : World → Nat → Prop) (I : List (List Nat) → World → Prop) : Prop where
  enter : ∀ (args : Array Value) (w : World), (callFunc fv args).run Tryd.prog w = .ok (.enter fv args) w
  keep : ∀ done w w', I done w → Below w.heap.size w w' → I done w' ∧ ∀ i, Own w' i → Own w i
  lt : ∀ done w i, I done w → Own w i → base ≤ i ∧ i < w.heap.size
  call : ∀ done l A c w, I done w → done.length ≤ 1000000 → l.length = n → (∀ i, i < n → l.getD i 0 < n) → Ints w A n (zs l) → (∀ g o, A = some ⟨g, o, none⟩ → ¬ Own w g) →
    Calls Tryd.prog fv (#[.slice A n c] ++ caps) w fun e w' => e = .returned (.bool stop) ∧ I (done ++ [l]) w' ∧ Kept Own w w'
section
variable {n base : Nat} {fv : FuncId} {caps : Array Value} {stop : Bool} {Own : World → Nat → Prop} {I : List (List Nat) → World → Prop} (V : Visit n base fv caps stop Own I)
include V
theorem Visit.grow {done : List (List Nat)} {w w' : World} (h : I done w) (hb : Below w.heap.size w w') : Kept Own w w' :=
  ⟨hb.os, hb.tape, hb.output, hb.size, fun i hi _ => hb.block i hi, fun i _ ho => (V.keep done w w' h hb).2 i ho⟩
/-- A new block is not owned. -/
theorem Visit.new {done : List (List Nat)} {w w' : World} (h : I done w) (hb : Below w.heap.size w w') {i : Nat} (hi : w.heap.size ≤ i) : ¬ Own w' i := fun ho => by
  have := (V.lt done w i h ((V.keep done w w' h hb).2 i ho)).2
  omega
end
/-- A cell that is nobody's. -/
def CellS (Own : World → Nat → Prop) (w : World) (p : Nat) (v : Value) : Prop := w.cell? ⟨p, 0, none⟩ = some v ∧ ¬ Own w p
theorem CellS.kept {Own : World → Nat → Prop} {w w' : World} {p : Nat} {v : Value} (h : CellS Own w p v) (k : Kept Own w w') : CellS Own w' p v := by
  have hlt := lt_of_cell h.1
  exact ⟨(World.cell?_of_block (k.block p hlt h.2)).trans h.1, fun ho => h.2 (k.own p hlt ho)⟩
/-- A slice that is nobody's. -/
def IntsN (Own : World → Nat → Prop) (w : World) (A : Option Addr) (l : List Nat) : Prop := Ints w A l.length (zs l) ∧ ∀ g o, A = some ⟨g, o, none⟩ → ¬ Own w g
theorem IntsN.kept {Own : World → Nat → Prop} {w w' : World} {A : Option Addr} {l : List Nat} (h : IntsN Own w A l) (k : Kept Own w w') (h0 : 0 < l.length) : IntsN Own w' A l := by
  obtain ⟨g, o, e, hc⟩ := h.1.2.2 h0
  have hlt := lt_of_cell (hc 0 h0)
  have hn := h.2 g o e
  refine ⟨⟨h.1.1, h.1.2.1, fun _ => ⟨g, o, e, fun j hj => (World.cell?_of_block (k.block g hlt hn)).trans (hc j hj)⟩⟩, fun g' o' e' => ?_⟩
  rw [e] at e'
  injection e' with e'
  injection e' with e1 e2
  subst e1
  exact fun ho => hn (k.own g hlt ho)
theorem IntsN.nil (Own : World → Nat → Prop) (w : World) : IntsN Own w none [] := ⟨Ints.nil _ _, fun g o e => (by cases e)⟩
/-- What the function on is told. -/
def Ctx (n base : Nat) (fv : FuncId) (caps : Array Value) (Own : World → Nat → Prop) (w0 : World) (B : Option Addr) (cb pn pv pb po : Nat) (w : World) : Prop :=
  CellS Own w pn (.int .i64 (n : Int)) ∧ CellS Own w pv (.func (.func fv) #[] caps) ∧ CellS Own w pb (.slice B n cb) ∧ CellS Own w po (.func (.func 94) #[] #[.pointer (some ⟨pn, 0, none⟩), .pointer (some ⟨pv, 0, none⟩), .pointer (some ⟨pb, 0, none⟩), .pointer (some ⟨po, 0, none⟩)]) ∧ Below base w0 w ∧ base ≤ w.heap.size
theorem Ctx.kept {n base : Nat} {fv : FuncId} {caps : Array Value} {Own : World → Nat → Prop} {w0 : World} {B : Option Addr} {cb pn pv pb po : Nat} {w w' : World} (h : Ctx n base fv caps Own w0 B cb pn pv pb po w) (k : Kept Own w w') (ho : ∀ i, Own w i → base ≤ i) : Ctx n base fv caps Own w0 B cb pn pv pb po w' := by
  obtain ⟨h1, h2, h3, h4, h5, h6⟩ := h
  exact ⟨h1.kept k, h2.kept k, h3.kept k, h4.kept k, k.below h5 h6 ho, Nat.le_trans h6 k.size⟩
theorem below_of_none {w w' : World} (h : w.grownBy w' none) : Below w.heap.size w w' := ⟨h.os, h.tape, h.output, h.size, fun i hi => h.block i hi (by simp)⟩
/-- append to a slice of ints that has no room. -/
theorem step_growI {w : World} {ops : Array Oper} {o : Oper} {a : Act} {K : Act → World → Prop} {Q : Exit → Act → World → Prop} {E : Prop} (hwant : Region.wanted o (yielded ops a.tmps) = true) (s x : Operand)
    (ho : o.op = .call { callee := .builtin .append, args := #[s, x], argTypes := #[29, 29] })
    (A : Option Addr) (m : Nat) (l : List Nat) (hs : a.eval s = .slice A m m) (hm : l.length = m) (hn : A = none → m = 0) (hi : Ints w A m (zs l)) (g c : Nat) (y : Nat) (hx : a.eval x = .slice (some ⟨g, 0, none⟩) 1 c)
    (hc : w.cell? ⟨g, 0, none⟩ = some (.int .i64 (y : Int))) (hl : m ≤ 1000000)
    (h : ∀ A' c' w', IntsN (fun _ i => i < w.heap.size) w' A' (l ++ [y]) → A' ≠ none → m + 1 ≤ c' → Below w.heap.size w w' → K (a.put o.dst (.slice A' (m + 1) c')) w') : if Region.wanted o (yielded ops a.tmps) = true then Oper.wp Tryd.prog o a w K Q else E := by
  rw [if_pos hwant]
  obtain ⟨i0, hi0, hz0, hz1, hz2⟩ := info_parts (show (Tryd.prog.info? 3).map (fun i => (i.zero, i.size, i.bytes)) = some (some (.int .i64 0), 1, 8) from by kernel_rfl)
  have fin : ∀ v' w', w'.ownsRow w.heap.size 3 1 v' (m + 1) ((zs l).map (Value.int .i64) ++ [.int .i64 (y : Int)]) → w.grownBy w' none → K (a.put o.dst v') w' := fun v' w' h1 h2 => by
    have h3 : Row w' w.heap.size v' (zs (l ++ [y])) := by
      have e : zs (l ++ [y]) = zs l ++ [(y : Int)] := zs_app l [y]
      rw [e]
      unfold Row
      rw [List.length_append, zs_len, hm, List.map_append]
      exact h1
    have hl3 : (zs (l ++ [y])).length = m + 1 := by rw [zs_len, List.length_append, hm]; rfl
    obtain ⟨A', c', e, hI, hcap⟩ := h3.form3 (by omega)
    rw [hl3] at e hI hcap
    subst e
    refine h A' c' w' ⟨by rw [show (l ++ [y]).length = m + 1 by rw [List.length_append, hm]; rfl]; exact hI, fun g' o' e' hlt => ?_⟩ (fun e => ?_) hcap (below_of_none h2)
    · subst e'
      have := (World.ownsRow.lt h3 g' rfl).1
      omega
    · subst e
      obtain ⟨b, off, e, _⟩ := hI.at_ (show 0 < m + 1 by omega)
      cases e
  have hnews : ∀ (j : Nat) (u : Value), ([Value.int .i64 (y : Int)] : List Value)[j]? = some u → w.cell? ((⟨g, 0, none⟩ : Addr).add j) = some u := by
    intro j u hj
    match j, hj with
    | 0, hj => simp at hj; subst hj; simpa [Addr.add] using hc
  cases A with
  | some b =>
    obtain ⟨v', w', hrun, r1, r2⟩ := run_append_arg_grows (P := Tryd.prog) w 29 o.type 3 i0 (.int .i64 0) 1 8 Tryd.underlying29 hi0 hz0 hz1 hz2 rfl (by decide) b m m ((zs l).map (Value.int .i64)) (by rw [List.length_map, zs_len, hm, Nat.mul_one]) (by
      intro j u hu
      have hj : j < m := by
        rcases Nat.lt_or_ge j m with h | h
        · exact h
        · rw [List.getElem?_eq_none (by rw [List.length_map, zs_len, hm]; exact h)] at hu; cases hu
      obtain ⟨b', off, e, hc⟩ := hi.ad (by omega)
      cases e
      rw [Go.WideShapes.add_plain, hc j hj, ← hu]
      have hjl : j < (zs l).length := by rw [zs_len, hm]; exact hj
      simp [List.getD_eq_getElem?_getD, hjl]) ⟨g, 0, none⟩ 1 c [.int .i64 (y : Int)] rfl hnews (by omega) (by unfold maxLen; omega) (by omega)
    unfold Oper.wp
    simp [execOp, ho, resolve, invoke, builtin, hs, hx, hrun, Result.andThen]
    exact fin v' w' r1 r2
  | none =>
    obtain rfl := hn rfl
    have hl0 : l = [] := List.eq_nil_of_length_eq_zero hm
    subst hl0
    obtain ⟨v', w', hrun, r1, r2, _⟩ := run_append_own (P := Tryd.prog) w w.heap.size 29 o.type 3 i0 (.int .i64 0) 1 8 Tryd.underlying29 hi0 hz0 hz1 hz2 rfl (by decide) (.slice none 0 0) 0 [] (World.ownsRow_nil w _ 3 1) ⟨g, 0, none⟩ 1 c [.int .i64 (y : Int)] rfl hnews (by intro u hu; simp at hu; subst hu; rfl) (by unfold maxLen; omega) (by omega) (Nat.le_refl _)
    unfold Oper.wp
    simp [execOp, ho, resolve, invoke, builtin, hs, hx, hrun, Result.andThen]
    exact fin v' w' r1 r2
end Go.Proofs.YtiodednhadnekaaDoor

namespace Go.Proofs.YtiodednhadnekaaDoor
open Go.RowKit Go.Deep
attribute [local go_sem ↓] Go.wp_at_zero Go.wp_at_succ

section
variable (n base : Nat) (fv : FuncId) (caps : Array Value) (stop : Bool) (Own : World → Nat → Prop) (I : List (List Nat) → World → Prop) (V : Visit n base fv caps stop Own I) (b : List (List Int)) (w0 : World) (B : Option Addr) (cb pn pv pb po : Nat)
/-- What on is shown to do from some columns on. -/
def OnC (k : Nat) (l : List Nat) : Prop := ∀ (done : List (List Nat)) (A : Option Addr) (c : Nat) (w : World), I done w → Ctx n base fv caps Own w0 B cb pn pv pb po w → IntsN Own w A l → (A = none → l = []) → l.length ≤ c → done.length + (trF b n k l).length ≤ 1000000 →
  Calls Tryd.prog 94 #[.slice A l.length c, .int .i64 (colsM l : Int), .int .i64 (cropsM b l : Int), .pointer (some ⟨pn, 0, none⟩), .pointer (some ⟨pv, 0, none⟩), .pointer (some ⟨pb, 0, none⟩), .pointer (some ⟨po, 0, none⟩)] w
    fun e w' => e = .returned (.bool (hit stop (trF b n k l))) ∧ I (done ++ vis stop (trF b n k l)) w' ∧ Kept Own w w'
include V
set_option maxHeartbeats 1000000 in
theorem f94_end (l : List Nat) (hl : l.length = n) (hln : ∀ i, i < n → l.getD i 0 < n) : OnC n base fv caps stop Own I b w0 B cb pn pv pb po 0 l := by
  intro done A c w hI hC hA _ _ hd
  obtain ⟨h1, h2, _⟩ := hC
  have hi := hA.1
  rw [hl] at hi
  have K := Lib.hid (V.call done l A c w hI (by omega) hl hln hi hA.2)
  have hf := V.enter
  have HR : Hid (trF b n 0 l = [l]) := rfl
  have HV : Hid (vis stop [l] = [l] ∧ hit stop [l] = stop) := by cases stop <;> exact ⟨rfl, rfl⟩
  have c1 := h1.1
  have c2 := h2.1
  rw [hl]
  generalize colsM l = C1 at *
  generalize cropsM b l = C2 at *
  have hsm := hi.small
  have hq : ((n : Int) == (n : Int)) = true := by simp
  clear hI hA h1 h2 hd hi hl hln
  go_enter Tryd.func94, Tryd.ntmps94
  go_wp2_with fail
  refine K.out.mono ?_
  rintro e w' ⟨rfl, h1, h2⟩
  have H1 := Lib.hid h1
  have H2 := Lib.hid h2
  clear h1 h2
  go_wp2
  go_ret
  exact ⟨ret_bool (by rw [HR.out, HV.out.2]), by rw [HR.out, HV.out.1]; exact H1.out, H2.out⟩
omit V
theorem enter94 (args : Array Value) (w : World) : (callFunc 94 args).run Tryd.prog w = .ok (.enter 94 args) w := by simp [go_sem]
include V
set_option maxRecDepth 100000 in
set_option maxHeartbeats 4000000 in
theorem f94_step (hb : IsFull n b) (hs : Beds w0 B n cb b) (hbase : base = w0.heap.size) (hn7 : n ≤ 7) (k : Nat) (l : List Nat) (hl : l.length + (k + 1) = n) (hln : ∀ i, i < l.length → l.getD i 0 < n)
    (ih : ∀ c, c < n → OnC n base fv caps stop Own I b w0 B cb pn pv pb po k (l ++ [c])) : OnC n base fv caps stop Own I b w0 B cb pn pv pb po (k + 1) l := by
  intro done A c w hI hC hA hnil hcap hd
  have HS := Lib.hid hs
  have HC := Lib.hid hC
  have HA := Lib.hid hA
  have HI := Lib.hid hI
  have HV := Lib.hid V
  have HIH := Lib.hid ih
  have HFULL := Lib.hid hb
  have HNIL := Lib.hid hnil
  have HBS := Lib.hid hbase
  have hcols : colsM l < 128 := Nat.lt_of_lt_of_le (orN_lt (N := 7) fun i hi => Nat.pow_lt_pow_right (by decide) (by have := hln i hi; omega)) (by decide)
  have hcrops : cropsM b l < 128 := Nat.lt_of_lt_of_le (orN_lt (N := 7) fun i hi => Nat.pow_lt_pow_right (by decide) (by have := hb.lo i (l.getD i 0) (by omega) (hln i hi); omega)) (by decide)
  have HLO : Hid (∀ c, c < n → 0 ≤ gAt b l.length c ∧ gAt b l.length c < n) := fun c hc => hb.lo l.length c (by omega) hc
  have HOK : Hid (∀ c, okT b l c = (!(colsM l).testBit c && !(cropsM b l).testBit (gAt b l.length c).toNat)) := fun c => rfl
  have HAP : Hid (∀ c, colsM (l ++ [c]) = colsM l ||| 2 ^ c ∧ cropsM b (l ++ [c]) = cropsM b l ||| 2 ^ (gAt b l.length c).toNat ∧ (l ++ [c]).length = l.length + 1) := fun c => ⟨colsM_app l c, cropsM_app b l c, by simp⟩
  have HTS : Hid (trF b n (k + 1) l = trTo b n k l n) := rfl
  have HTC : Hid (∀ c, trTo b n k l (c + 1) = trTo b n k l c ++ trC b n k l c) := trTo_succ b n k l
  have HTD : Hid (∀ c, trC b n k l c = if okT b l c = true then trF b n k (l ++ [c]) else []) := fun c => rfl
  have HPRE : Hid (∀ c d, c ≤ d → ∃ t, trTo b n k l d = trTo b n k l c ++ t) := fun c d h => trTo_pre h
  have HLEN : Hid (done.length + (trTo b n k l n).length ≤ 1000000) := hd
  have HROW : Hid ((b.getD l.length []).length = n) := hb.shape.2 _ (by omega)
  have HAT : Hid (∀ c, gAt b l.length c = (b.getD l.length []).getD c 0) := fun c => rfl
  obtain ⟨g0, o0, rfl, RB, rd, hrc, _, _, hri⟩ := hs.at_ (show l.length < n by omega)
  rw [HROW.out] at hrc hri
  have HRI := Lib.hid hri
  have hrlt := lt_of_cell hrc
  have hcr : w.cell? ⟨g0, o0 + l.length, none⟩ = some (.slice RB n rd) := (hC.2.2.2.2.1.cell (by rw [hbase]; exact hrlt)).trans hrc
  obtain ⟨h1, h2, h3, h4, h5, h6⟩ := hC
  have c1 := h1.1
  have c3 := h3.1
  have hsm := hA.1.small
  obtain ⟨m, hm⟩ : ∃ m, m = l.length := ⟨_, rfl⟩
  have HM := Lib.hid hm
  rw [← hm] at hl hcap hcr hsm ⊢
  have m0 : (0 : Int) ≤ (m : Int) := by omega
  have mn : (m : Int) < (n : Int) := by omega
  have hq : ((m : Int) == (n : Int)) = false := by simp; omega
  generalize colsM l = C1 at *
  generalize cropsM b l = C2 at *
  clear V hs hb hI hA hnil ih hd hri hrc h1 h2 h3 h4 h5 h6 hln hm hrlt hbase
  go_enter Tryd.func94, Tryd.ntmps94
  go_wp2_with fail
  go_loopw [26] (fun i wr => ∃ c : Nat, c ≤ n ∧ i = .int .i64 (c : Int) ∧ Hid (I (done ++ trTo b n k l c) wr ∧ Kept Own w wr ∧ (stop = true → trTo b n k l c = []))) (fun i _ => n - (intOf i).toNat)
  case atStart => exact ⟨0, by omega, rfl, ⟨by rw [trTo_zero, List.append_nil]; exact HI.out, Kept.refl _ _, fun _ => rfl⟩⟩
  case round => as_aux_lemma =>
    obtain ⟨x, hx, rfl, hst⟩ := hrel
    by_cases hlt : x < n
    · have HO : Hid (∀ i, Own w i → base ≤ i) := fun i h => (HV.out.lt _ _ i HI.out h).1
      have HCR : Hid (Ctx n base fv caps Own w0 (some ⟨g0, o0, none⟩) cb pn pv pb po wr) := HC.out.kept hst.out.2.1 HO.out
      have hbl := HCR.out.2.2.2.2.1
      have hri2 := (HRI.out.below (by rw [← HBS.out]; exact hbl)).at_ hlt
      obtain ⟨g1, o1, e1, hcy⟩ := hri2
      have cpo := HCR.out.2.2.2.1.1
      obtain ⟨y, hy⟩ := nat_of _ (HLO.out x hlt).1
      have hyn := (HLO.out x hlt).2
      rw [hy] at hyn
      have hxy : (b.getD l.length []).getD x 0 = (y : Int) := hy
      rw [hxy] at hcy
      subst e1
      obtain ⟨N, hN, hshl⟩ := shl_one x (by omega)
      obtain ⟨N2, hN2, hshl2⟩ := shl_one y (by omega)
      have l1 : N ≤ 128 := by rw [hN]; exact Nat.le_trans (Nat.pow_le_pow_right (by omega) (show x ≤ 7 by omega)) (by decide)
      have l2 : N2 ≤ 128 := by rw [hN2]; exact Nat.le_trans (Nat.pow_le_pow_right (by omega) (show y ≤ 7 by omega)) (by decide)
      have a1 := bits_and_nat C1 N (by omega) (by omega)
      have a2 := bits_and_nat C2 N2 (by omega) (by omega)
      have a3 := bits_or_nat C1 N (by omega) (by omega)
      have a4 := bits_or_nat C2 N2 (by omega) (by omega)
      have z1 : (((C1 &&& N : Nat) : Int) == 0) = !C1.testBit x := by rw [hN]; exact and_pow_zero C1 x
      have z2 : (((C2 &&& N2 : Nat) : Int) == 0) = !C2.testBit y := by rw [hN2]; exact and_pow_zero C2 y
      have HOK := Lib.hid (HOK.out x)
      rw [hy, Int.toNat_natCast] at HOK
      have HAP := Lib.hid (HAP.out x)
      rw [hy, Int.toNat_natCast, ← hN, ← hN2, ← HM.out] at HAP
      have HTC := Lib.hid (HTC.out x)
      have HTD := Lib.hid (HTD.out x)
      have HNX : Hid (∀ W, okT b l x = false → I (done ++ trTo b n k l x) W → Kept Own w W → (stop = true → trTo b n k l x = []) → I (done ++ trTo b n k l (x + 1)) W ∧ Kept Own w W ∧ (stop = true → trTo b n k l (x + 1) = [])) := fun W h p1 p2 p3 => by
        rw [HTC.out, HTD.out, h, if_neg (by simp), List.append_nil]; exact ⟨p1, p2, p3⟩
      have x0 : (0 : Int) ≤ (x : Int) := by omega
      have xn : (x : Int) < (n : Int) := by omega
      clear hxy hy hN hN2
      cases t1 : C1.testBit x
      · rw [t1, Bool.not_false] at z1
        cases t2 : C2.testBit y
        · rw [t2, Bool.not_false] at z2
          have HOKT : Hid (okT b l x = true) := by rw [HOK.out, t1, t2]; rfl
          have R1 : Hid (∀ W : World, W.heap = (wr.alloc (.cells #[.int .i64 (x : Int)] 3)).heap → Ints W A m (zs l)) := fun W h => by
            rcases Nat.eq_zero_or_pos m with e0 | e0
            · have hl0 : l = [] := List.eq_nil_of_length_eq_zero (by rw [← HM.out]; exact e0)
              subst hl0
              subst e0
              exact Ints.nil _ _
            · have h1 := (HA.out.kept hst.out.2.1 (by rw [← HM.out]; exact e0)).1
              rw [← HM.out] at h1
              have h2 := h1.below (below_alloc wr (.cells #[.int .i64 (x : Int)] 3))
              exact ⟨h2.1, h2.2.1, fun hp => by
                obtain ⟨g, o, e, hc⟩ := h2.2.2 hp
                exact ⟨g, o, e, fun j hj => by have := hc j hj; unfold World.cell? at this ⊢; rw [h]; exact this⟩⟩
          have R2 : Hid (∀ W : World, W.heap = (wr.alloc (.cells #[.int .i64 (x : Int)] 3)).heap → W.cell? ⟨wr.heap.size, 0, none⟩ = some (.int .i64 (x : Int))) := fun W h => by
            have h1 := cell_new wr #[.int .i64 (x : Int)] 3 0
            unfold World.cell? at h1 ⊢
            rw [h]; exact h1
          have RN : Hid (A = none → m = 0) := fun h => by rw [HM.out, HNIL.out h]; rfl
          have R3 : Hid (∀ (W w' : World) (A' : Option Addr) (c' : Nat), Below wr.heap.size wr W → IntsN (fun _ i => i < W.heap.size) w' A' (l ++ [x]) → A' ≠ none → m + 1 ≤ c' → Below W.heap.size W w' →
              Calls Tryd.prog 94 #[.slice A' (m + 1) c', .int .i64 ((C1 ||| N : Nat) : Int), .int .i64 ((C2 ||| N2 : Nat) : Int), .pointer (some ⟨pn, 0, none⟩), .pointer (some ⟨pv, 0, none⟩), .pointer (some ⟨pb, 0, none⟩), .pointer (some ⟨po, 0, none⟩)] w' fun e w'' => e = .returned (.bool (hit stop (trF b n k (l ++ [x])))) ∧ I (done ++ trTo b n k l x ++ vis stop (trF b n k (l ++ [x]))) w'' ∧ Kept Own w w'') := fun W w' A' c' hb1 hin hne hc' hb2 => by
            have hb3 : Below wr.heap.size wr w' := below_step hb1 hb2
            have k3 := HV.out.grow hst.out.1 hb3
            have hI3 := (HV.out.keep _ _ _ hst.out.1 hb3).1
            have hpre : done.length + (trTo b n k l x).length + (trF b n k (l ++ [x])).length ≤ 1000000 := by
              obtain ⟨t, ht⟩ := HPRE.out (x + 1) n (by omega)
              have h1 := HLEN.out
              rw [ht, HTC.out, HTD.out, if_pos HOKT.out] at h1
              simp only [List.length_append] at h1
              omega
            have h := HIH.out x hlt (done ++ trTo b n k l x) A' c' w' hI3 (HCR.out.kept k3 (fun i h => (HV.out.lt _ _ i hst.out.1 h).1)) ⟨hin.1, fun g o e => HV.out.new hst.out.1 hb3 (by have := hin.2 g o e; have := hb1.size; omega)⟩ (fun e => absurd e hne) (by rw [HAP.out.2.2]; exact hc') (by rw [List.length_append]; omega)
            rw [HAP.out.1, HAP.out.2.1, HAP.out.2.2] at h
            exact h.mono fun e w'' hh => ⟨hh.1, hh.2.1, (hst.out.2.1.trans k3).trans hh.2.2⟩
          have HGO : Hid (∀ W, hit stop (trF b n k (l ++ [x])) = false → I (done ++ trTo b n k l x ++ vis stop (trF b n k (l ++ [x]))) W → Kept Own w W → I (done ++ trTo b n k l (x + 1)) W ∧ Kept Own w W ∧ (stop = true → trTo b n k l (x + 1) = [])) := fun W h p1 p2 => by
            obtain ⟨v1, v2⟩ := vis_miss h
            rw [v1] at p1
            rw [HTC.out, HTD.out, if_pos HOKT.out]
            exact ⟨by rw [← List.append_assoc]; exact p1, p2, fun hs => by rw [hst.out.2.2 hs, v2 hs]; rfl⟩
          have HEND : Hid (∀ W, hit stop (trF b n k (l ++ [x])) = true → I (done ++ trTo b n k l x ++ vis stop (trF b n k (l ++ [x]))) W → Kept Own w W → hit stop (trF b n (k + 1) l) = true ∧ I (done ++ vis stop (trF b n (k + 1) l)) W ∧ Kept Own w W) := fun W h p1 p2 => by
            obtain ⟨t, ht⟩ := HPRE.out (x + 1) n (by omega)
            obtain ⟨v1, v2⟩ := vis_hit (T := t) hst.out.2.2 h
            rw [HTS.out, ht, HTC.out, HTD.out, if_pos HOKT.out]
            exact ⟨v2, by rw [v1, ← List.append_assoc]; exact p1, p2⟩
          have S1 : Hid (∀ W, Below wr.heap.size wr W → W.cell? ⟨po, 0, none⟩ = some (.func (.func 94) #[] #[.pointer (some ⟨pn, 0, none⟩), .pointer (some ⟨pv, 0, none⟩), .pointer (some ⟨pb, 0, none⟩), .pointer (some ⟨po, 0, none⟩)])) := fun W h => (h.cell (lt_of_cell cpo)).trans cpo
          have hen := enter94
          generalize C1 &&& N = V1 at *
          generalize C2 &&& N2 = V2 at *
          generalize C1 ||| N = V3 at *
          generalize C2 ||| N2 = V4 at *
          have hm6 : m ≤ 1000000 := by omega
          have hcm : (m : Int) ≤ (c : Int) := by omega
          have S3 : Hid (∀ W, Kept Own w W → W.cell? ⟨po, 0, none⟩ = some (.func (.func 94) #[] #[.pointer (some ⟨pn, 0, none⟩), .pointer (some ⟨pv, 0, none⟩), .pointer (some ⟨pb, 0, none⟩), .pointer (some ⟨po, 0, none⟩)])) := fun W h => (HC.out.kept h HO.out).2.2.2.1.1
          cases hhit : hit stop (trF b n k (l ++ [x]))
          · skip
            rw [hhit] at R3 HGO HEND
            clear t1 t2 HNX hst hhit
            go_wp2_with fail
            refine wp_region_held_drew (S := fun W => W.cell? ⟨po, 0, none⟩ = some (.func (.func 94) #[] #[.pointer (some ⟨pn, 0, none⟩), .pointer (some ⟨pv, 0, none⟩), .pointer (some ⟨pb, 0, none⟩), .pointer (some ⟨po, 0, none⟩)])) (by kernel_rfl) (cpo) (fun hS => ?_)
            refine wpAnyH_take (i := 0) (oi := { dst := some 31, op := Op.move (Operand.tmp 1), type := 3, pos := "mate.go:18", after := #[], guard := none }) (v := .int .i64 (C1 : Int)) rfl (by kernel_rfl) (by kernel_rfl) (by kernel_rfl) (fun _ _ _ h => h) (Or.inl ⟨by kernel_rfl, fun W hSW => by kernel_rfl⟩) hS ?_
            try simp only [Act.put, List.setIfInBounds_toArray, List.set_cons_zero, List.set_cons_succ]
            refine wpAnyH_take (i := 1) (oi := { dst := some 32, op := Op.move (Operand.tmp 11), type := 3, pos := "mate.go:18", after := #[], guard := none }) (v := .int .i64 (x : Int)) rfl (by kernel_rfl) (by kernel_rfl) (by kernel_rfl) (fun _ _ _ h => h) (Or.inl ⟨by kernel_rfl, fun W hSW => by kernel_rfl⟩) hS ?_
            try simp only [Act.put, List.setIfInBounds_toArray, List.set_cons_zero, List.set_cons_succ]
            refine wpAnyH_take (i := 2) (oi := { dst := some 33, op := Op.binOp BinOp.shl 3 (Operand.const (Value.int IntKind.i64 1)) (Operand.tmp 32) 3, type := 3, pos := "mate.go:18", after := #[{ on := 1, ground := Ground.data }], guard := none }) (v := .int .i64 (N : Int)) rfl (by kernel_rfl) (by kernel_rfl) (by kernel_rfl) (fun _ _ _ h => h) (Or.inl ⟨by kernel_rfl, fun W hSW => by go_simp⟩) hS ?_
            try simp only [Act.put, List.setIfInBounds_toArray, List.set_cons_zero, List.set_cons_succ]
            refine wpAnyH_take (i := 3) (oi := { dst := some 34, op := Op.binOp BinOp.and 3 (Operand.tmp 31) (Operand.tmp 33) 3, type := 3, pos := "mate.go:18", after := #[{ on := 0, ground := Ground.data }, { on := 2, ground := Ground.data }], guard := none }) (v := .int .i64 (V1 : Int)) rfl (by kernel_rfl) (by kernel_rfl) (by kernel_rfl) (fun _ _ _ h => h) (Or.inl ⟨by kernel_rfl, fun W hSW => by go_simp⟩) hS ?_
            try simp only [Act.put, List.setIfInBounds_toArray, List.set_cons_zero, List.set_cons_succ]
            refine wpAnyH_take (i := 4) (oi := { dst := some 35, op := Op.binOp BinOp.eql 3 (Operand.tmp 34) (Operand.const (Value.int IntKind.i64 0)) 3, type := 4, pos := "mate.go:18", after := #[{ on := 3, ground := Ground.data }], guard := none }) (v := .bool true) rfl (by kernel_rfl) (by kernel_rfl) (by kernel_rfl) (fun _ _ _ h => h) (Or.inl ⟨by kernel_rfl, fun W hSW => by go_simp⟩) hS ?_
            try simp only [Act.put, List.setIfInBounds_toArray, List.set_cons_zero, List.set_cons_succ]
            refine wpAnyH_take (i := 5) (oi := { dst := some 36, op := Op.move (Operand.tmp 35), type := 4, pos := "mate.go:18", after := #[{ on := 4, ground := Ground.data }], guard := none }) (v := .bool true) rfl (by kernel_rfl) (by kernel_rfl) (by kernel_rfl) (fun _ _ _ h => h) (Or.inl ⟨by kernel_rfl, fun W hSW => by kernel_rfl⟩) hS ?_
            try simp only [Act.put, List.setIfInBounds_toArray, List.set_cons_zero, List.set_cons_succ]
            refine wpAnyH_take (i := 6) (oi := { dst := some 37, op := Op.move (Operand.tmp 2), type := 3, pos := "mate.go:18", after := #[{ on := 5, ground := Ground.guard }], guard := some (5, true) }) (v := .int .i64 (C2 : Int)) rfl (by kernel_rfl) (by kernel_rfl) (by kernel_rfl) (fun _ _ _ h => h) (Or.inl ⟨by kernel_rfl, fun W hSW => by kernel_rfl⟩) hS ?_
            try simp only [Act.put, List.setIfInBounds_toArray, List.set_cons_zero, List.set_cons_succ]
            refine wpAnyH_take (i := 7) (oi := { dst := some 38, op := Op.move (Operand.tmp 12), type := 3, pos := "mate.go:18", after := #[{ on := 5, ground := Ground.guard }], guard := some (5, true) }) (v := .int .i64 (y : Int)) rfl (by kernel_rfl) (by kernel_rfl) (by kernel_rfl) (fun _ _ _ h => h) (Or.inl ⟨by kernel_rfl, fun W hSW => by kernel_rfl⟩) hS ?_
            try simp only [Act.put, List.setIfInBounds_toArray, List.set_cons_zero, List.set_cons_succ]
            refine wpAnyH_take (i := 8) (oi := { dst := some 39, op := Op.binOp BinOp.shl 3 (Operand.const (Value.int IntKind.i64 1)) (Operand.tmp 38) 3, type := 3, pos := "mate.go:18", after := #[{ on := 7, ground := Ground.data }, { on := 5, ground := Ground.guard }], guard := some (5, true) }) (v := .int .i64 (N2 : Int)) rfl (by kernel_rfl) (by kernel_rfl) (by kernel_rfl) (fun _ _ _ h => h) (Or.inl ⟨by kernel_rfl, fun W hSW => by go_simp⟩) hS ?_
            try simp only [Act.put, List.setIfInBounds_toArray, List.set_cons_zero, List.set_cons_succ]
            refine wpAnyH_take (i := 9) (oi := { dst := some 40, op := Op.binOp BinOp.and 3 (Operand.tmp 37) (Operand.tmp 39) 3, type := 3, pos := "mate.go:18", after := #[{ on := 6, ground := Ground.data }, { on := 8, ground := Ground.data }, { on := 5, ground := Ground.guard }], guard := some (5, true) }) (v := .int .i64 (V2 : Int)) rfl (by kernel_rfl) (by kernel_rfl) (by kernel_rfl) (fun _ _ _ h => h) (Or.inl ⟨by kernel_rfl, fun W hSW => by go_simp⟩) hS ?_
            try simp only [Act.put, List.setIfInBounds_toArray, List.set_cons_zero, List.set_cons_succ]
            refine wpAnyH_take (i := 10) (oi := { dst := some 41, op := Op.binOp BinOp.eql 3 (Operand.tmp 40) (Operand.const (Value.int IntKind.i64 0)) 3, type := 4, pos := "mate.go:18", after := #[{ on := 9, ground := Ground.data }, { on := 5, ground := Ground.guard }], guard := some (5, true) }) (v := .bool true) rfl (by kernel_rfl) (by kernel_rfl) (by kernel_rfl) (fun _ _ _ h => h) (Or.inl ⟨by kernel_rfl, fun W hSW => by go_simp⟩) hS ?_
            try simp only [Act.put, List.setIfInBounds_toArray, List.set_cons_zero, List.set_cons_succ]
            refine wpAnyH_take (i := 11) (oi := { dst := some 42, op := Op.pick (Operand.tmp 36) (Operand.tmp 41) (Operand.const (Value.bool false)), type := 4, pos := "mate.go:18", after := #[{ on := 5, ground := Ground.data }, { on := 10, ground := Ground.data }], guard := none }) (v := .bool true) rfl (by kernel_rfl) (by kernel_rfl) (by kernel_rfl) (fun _ _ _ h => h) (Or.inl ⟨by kernel_rfl, fun W hSW => by go_simp⟩) hS ?_
            try simp only [Act.put, List.setIfInBounds_toArray, List.set_cons_zero, List.set_cons_succ]
            refine wpAnyH_take (i := 12) (oi := { dst := some 43, op := Op.move (Operand.tmp 42), type := 4, pos := "mate.go:18", after := #[{ on := 11, ground := Ground.data }, { on := 5, ground := Ground.chain }], guard := none }) (v := .bool true) rfl (by kernel_rfl) (by kernel_rfl) (by kernel_rfl) (fun _ _ _ h => h) (Or.inl ⟨by kernel_rfl, fun W hSW => by kernel_rfl⟩) hS ?_
            try simp only [Act.put, List.setIfInBounds_toArray, List.set_cons_zero, List.set_cons_succ]
            refine wpAnyH_take (i := 13) (oi := { dst := some 44, op := Op.load 91 (Operand.tmp 6), type := 91, pos := "mate.go:18", after := #[{ on := 12, ground := Ground.guard }], guard := some (12, true) }) (v := .func (.func 94) #[] #[.pointer (some ⟨pn, 0, none⟩), .pointer (some ⟨pv, 0, none⟩), .pointer (some ⟨pb, 0, none⟩), .pointer (some ⟨po, 0, none⟩)]) rfl (by kernel_rfl) (by kernel_rfl) (by kernel_rfl) (fun _ _ _ h => h) (Or.inl ⟨by kernel_rfl, fun W hSW => by go_simp⟩) hS ?_
            try simp only [Act.put, List.setIfInBounds_toArray, List.set_cons_zero, List.set_cons_succ]
            refine wpAnyH_take (i := 14) (oi := { dst := some 45, op := Op.move (Operand.tmp 0), type := 29, pos := "mate.go:18", after := #[{ on := 12, ground := Ground.guard }], guard := some (12, true) }) (v := .slice A m c) rfl (by kernel_rfl) (by kernel_rfl) (by kernel_rfl) (fun _ _ _ h => h) (Or.inl ⟨by kernel_rfl, fun W hSW => by kernel_rfl⟩) hS ?_
            try simp only [Act.put, List.setIfInBounds_toArray, List.set_cons_zero, List.set_cons_succ]
            refine wpAnyH_take (i := 15) (oi := { dst := some 46, op := Op.move (Operand.tmp 0), type := 29, pos := "mate.go:18", after := #[{ on := 12, ground := Ground.guard }], guard := some (12, true) }) (v := .slice A m c) rfl (by kernel_rfl) (by kernel_rfl) (by kernel_rfl) (fun _ _ _ h => h) (Or.inl ⟨by kernel_rfl, fun W hSW => by kernel_rfl⟩) hS ?_
            try simp only [Act.put, List.setIfInBounds_toArray, List.set_cons_zero, List.set_cons_succ]
            refine wpAnyH_take (i := 16) (oi := { dst := some 47, op := Op.call { callee := Callee.builtin Builtin.len, args := #[Operand.tmp 46], argTypes := #[29] }, type := 3, pos := "mate.go:18", after := #[{ on := 15, ground := Ground.data }, { on := 12, ground := Ground.guard }], guard := some (12, true) }) (v := .int .i64 (m : Int)) rfl (by kernel_rfl) (by kernel_rfl) (by kernel_rfl) (fun _ _ _ h => h) (Or.inl ⟨by kernel_rfl, fun W hSW => by go_simp⟩) hS ?_
            try simp only [Act.put, List.setIfInBounds_toArray, List.set_cons_zero, List.set_cons_succ]
            refine wpAnyH_take (i := 17) (oi := { dst := some 48, op := Op.move (Operand.tmp 0), type := 29, pos := "mate.go:18", after := #[{ on := 12, ground := Ground.guard }], guard := some (12, true) }) (v := .slice A m c) rfl (by kernel_rfl) (by kernel_rfl) (by kernel_rfl) (fun _ _ _ h => h) (Or.inl ⟨by kernel_rfl, fun W hSW => by kernel_rfl⟩) hS ?_
            try simp only [Act.put, List.setIfInBounds_toArray, List.set_cons_zero, List.set_cons_succ]
            refine wpAnyH_take (i := 18) (oi := { dst := some 49, op := Op.call { callee := Callee.builtin Builtin.len, args := #[Operand.tmp 48], argTypes := #[29] }, type := 3, pos := "mate.go:18", after := #[{ on := 17, ground := Ground.data }, { on := 12, ground := Ground.guard }], guard := some (12, true) }) (v := .int .i64 (m : Int)) rfl (by kernel_rfl) (by kernel_rfl) (by kernel_rfl) (fun _ _ _ h => h) (Or.inl ⟨by kernel_rfl, fun W hSW => by go_simp⟩) hS ?_
            try simp only [Act.put, List.setIfInBounds_toArray, List.set_cons_zero, List.set_cons_succ]
            refine wpAnyH_take (i := 19) (oi := { dst := some 50, op := Op.slice 29 (Operand.tmp 45) none (some (Operand.tmp 47)) (some (Operand.tmp 49)), type := 29, pos := "mate.go:18", after := #[{ on := 14, ground := Ground.data }, { on := 16, ground := Ground.data }, { on := 18, ground := Ground.data }, { on := 12, ground := Ground.guard }], guard := some (12, true) }) (v := .slice A m m) rfl (by kernel_rfl) (by kernel_rfl) (by kernel_rfl) (fun _ _ _ h => h) (Or.inl ⟨by kernel_rfl, fun W hSW => by go_simp⟩) hS ?_
            try simp only [Act.put, List.setIfInBounds_toArray, List.set_cons_zero, List.set_cons_succ]
            refine wpAnyH_take (i := 20) (oi := { dst := some 51, op := Op.move (Operand.tmp 11), type := 3, pos := "mate.go:18", after := #[{ on := 12, ground := Ground.guard }], guard := some (12, true) }) (v := .int .i64 (x : Int)) rfl (by kernel_rfl) (by kernel_rfl) (by kernel_rfl) (fun _ _ _ h => h) (Or.inl ⟨by kernel_rfl, fun W hSW => by kernel_rfl⟩) hS ?_
            try simp only [Act.put, List.setIfInBounds_toArray, List.set_cons_zero, List.set_cons_succ]
            refine wpAnyH_take (i := 23) (oi := { dst := some 54, op := Op.move (Operand.tmp 1), type := 3, pos := "mate.go:18", after := #[{ on := 12, ground := Ground.guard }], guard := some (12, true) }) (v := .int .i64 (C1 : Int)) rfl (by kernel_rfl) (by kernel_rfl) (by kernel_rfl) (fun _ _ _ h => h) (Or.inl ⟨by kernel_rfl, fun W hSW => by kernel_rfl⟩) hS ?_
            try simp only [Act.put, List.setIfInBounds_toArray, List.set_cons_zero, List.set_cons_succ]
            refine wpAnyH_take (i := 24) (oi := { dst := some 55, op := Op.move (Operand.tmp 11), type := 3, pos := "mate.go:18", after := #[{ on := 12, ground := Ground.guard }], guard := some (12, true) }) (v := .int .i64 (x : Int)) rfl (by kernel_rfl) (by kernel_rfl) (by kernel_rfl) (fun _ _ _ h => h) (Or.inl ⟨by kernel_rfl, fun W hSW => by kernel_rfl⟩) hS ?_
            try simp only [Act.put, List.setIfInBounds_toArray, List.set_cons_zero, List.set_cons_succ]
            refine wpAnyH_take (i := 25) (oi := { dst := some 56, op := Op.binOp BinOp.shl 3 (Operand.const (Value.int IntKind.i64 1)) (Operand.tmp 55) 3, type := 3, pos := "mate.go:18", after := #[{ on := 24, ground := Ground.data }, { on := 12, ground := Ground.guard }], guard := some (12, true) }) (v := .int .i64 (N : Int)) rfl (by kernel_rfl) (by kernel_rfl) (by kernel_rfl) (fun _ _ _ h => h) (Or.inl ⟨by kernel_rfl, fun W hSW => by go_simp⟩) hS ?_
            try simp only [Act.put, List.setIfInBounds_toArray, List.set_cons_zero, List.set_cons_succ]
            refine wpAnyH_take (i := 26) (oi := { dst := some 57, op := Op.binOp BinOp.or 3 (Operand.tmp 54) (Operand.tmp 56) 3, type := 3, pos := "mate.go:18", after := #[{ on := 23, ground := Ground.data }, { on := 25, ground := Ground.data }, { on := 12, ground := Ground.guard }], guard := some (12, true) }) (v := .int .i64 (V3 : Int)) rfl (by kernel_rfl) (by kernel_rfl) (by kernel_rfl) (fun _ _ _ h => h) (Or.inl ⟨by kernel_rfl, fun W hSW => by go_simp⟩) hS ?_
            try simp only [Act.put, List.setIfInBounds_toArray, List.set_cons_zero, List.set_cons_succ]
            refine wpAnyH_take (i := 27) (oi := { dst := some 58, op := Op.move (Operand.tmp 2), type := 3, pos := "mate.go:18", after := #[{ on := 12, ground := Ground.guard }], guard := some (12, true) }) (v := .int .i64 (C2 : Int)) rfl (by kernel_rfl) (by kernel_rfl) (by kernel_rfl) (fun _ _ _ h => h) (Or.inl ⟨by kernel_rfl, fun W hSW => by kernel_rfl⟩) hS ?_
            try simp only [Act.put, List.setIfInBounds_toArray, List.set_cons_zero, List.set_cons_succ]
            refine wpAnyH_take (i := 28) (oi := { dst := some 59, op := Op.move (Operand.tmp 12), type := 3, pos := "mate.go:18", after := #[{ on := 12, ground := Ground.guard }], guard := some (12, true) }) (v := .int .i64 (y : Int)) rfl (by kernel_rfl) (by kernel_rfl) (by kernel_rfl) (fun _ _ _ h => h) (Or.inl ⟨by kernel_rfl, fun W hSW => by kernel_rfl⟩) hS ?_
            try simp only [Act.put, List.setIfInBounds_toArray, List.set_cons_zero, List.set_cons_succ]
            refine wpAnyH_take (i := 29) (oi := { dst := some 60, op := Op.binOp BinOp.shl 3 (Operand.const (Value.int IntKind.i64 1)) (Operand.tmp 59) 3, type := 3, pos := "mate.go:18", after := #[{ on := 28, ground := Ground.data }, { on := 12, ground := Ground.guard }], guard := some (12, true) }) (v := .int .i64 (N2 : Int)) rfl (by kernel_rfl) (by kernel_rfl) (by kernel_rfl) (fun _ _ _ h => h) (Or.inl ⟨by kernel_rfl, fun W hSW => by go_simp⟩) hS ?_
            try simp only [Act.put, List.setIfInBounds_toArray, List.set_cons_zero, List.set_cons_succ]
            refine wpAnyH_take (i := 30) (oi := { dst := some 61, op := Op.binOp BinOp.or 3 (Operand.tmp 58) (Operand.tmp 60) 3, type := 3, pos := "mate.go:18", after := #[{ on := 27, ground := Ground.data }, { on := 29, ground := Ground.data }, { on := 12, ground := Ground.guard }], guard := some (12, true) }) (v := .int .i64 (V4 : Int)) rfl (by kernel_rfl) (by kernel_rfl) (by kernel_rfl) (fun _ _ _ h => h) (Or.inl ⟨by kernel_rfl, fun W hSW => by go_simp⟩) hS ?_
            try simp only [Act.put, List.setIfInBounds_toArray, List.set_cons_zero, List.set_cons_succ]
            refine wpAnyH_ready (rs := [21]) (by kernel_rfl) (by simp) ?_
            refine AllReadyH.cons (o := { dst := some 52, op := Op.buildSlice 29 1 #[(0, Operand.tmp 51)], type := 29, pos := "mate.go:18", after := #[{ on := 20, ground := Ground.data }, { on := 12, ground := Ground.guard }], guard := some (12, true) }) rfl (fun K hK => ?_) AllReadyH.nil
            go_simp
            refine hK.out _ _ (S1.out _ (by first | exact (below_alloc wr _).drew | exact below_alloc wr _)) (fun hS => ?_)
            clear hK K
            try simp only [Act.put, List.setIfInBounds_toArray, List.set_cons_zero, List.set_cons_succ]
            refine wpAnyH_ready (rs := [22]) (by kernel_rfl) (by simp) ?_
            refine AllReadyH.cons (o := { dst := some 53, op := Op.call { callee := Callee.builtin Builtin.append, args := #[Operand.tmp 50, Operand.tmp 52], argTypes := #[29, 29] }, type := 29, pos := "mate.go:18", after := #[{ on := 19, ground := Ground.data }, { on := 21, ground := Ground.data }, { on := 12, ground := Ground.chain }, { on := 12, ground := Ground.guard }], guard := some (12, true) }) rfl (fun K hK => ?_) AllReadyH.nil
            refine step_growI (by kernel_rfl) _ _ (by rfl) A m l (by rfl) HM.out.symm RN.out (R1.out _ (by rfl)) wr.heap.size 1 x (by rfl) (R2.out _ (by rfl)) hm6 ?_
            intro A2 c2 w2 hin2 hne2 hc2 hb2
            have hbA : Below wr.heap.size wr (wr.alloc (.cells #[.int .i64 (x : Int)] 3)).drew := (below_alloc wr _).drew
            have hq1 : Below wr.heap.size wr w2 := below_step hbA hb2
            refine hK.out _ _ (S1.out _ hq1) (fun hS => ?_)
            clear hK K
            try simp only [Act.put, List.setIfInBounds_toArray, List.set_cons_zero, List.set_cons_succ]
            refine wpAnyH_ready (rs := [31]) (by kernel_rfl) (by simp) ?_
            refine AllReadyH.cons (o := { dst := some 62, op := Op.call { callee := Callee.value (Operand.tmp 44), args := #[Operand.tmp 53, Operand.tmp 57, Operand.tmp 61], argTypes := #[29, 3, 3] }, type := 4, pos := "mate.go:18", after := #[{ on := 13, ground := Ground.data }, { on := 22, ground := Ground.data }, { on := 26, ground := Ground.data }, { on := 30, ground := Ground.data }, { on := 22, ground := Ground.chain }, { on := 12, ground := Ground.guard }], guard := some (12, true) }) rfl (fun K hK => ?_) AllReadyH.nil
            go_simp
            refine (R3.out _ w2 A2 c2 hbA hin2 hne2 hc2 hb2).mono ?_
            rintro e w3 ⟨rfl, p1, p2⟩
            have P1 := Lib.hid p1
            have P2 := Lib.hid p2
            have hS3 := S3.out _ p2
            clear p1 p2 hin2 hne2 hc2 hb2 hbA
            refine hK.out _ _ (hS3) (fun hS => ?_)
            clear hK K
            try simp only [Act.put, List.setIfInBounds_toArray, List.set_cons_zero, List.set_cons_succ]
            refine wpAnyH_take (i := 32) (oi := { dst := some 63, op := Op.pick (Operand.tmp 43) (Operand.tmp 62) (Operand.const (Value.bool false)), type := 4, pos := "mate.go:18", after := #[{ on := 12, ground := Ground.data }, { on := 31, ground := Ground.data }], guard := none }) (v := .bool false) rfl (by kernel_rfl) (by kernel_rfl) (by kernel_rfl) (fun _ _ _ h => h) (Or.inl ⟨by kernel_rfl, fun W hSW => by go_simp⟩) hS ?_
            try simp only [Act.put, List.setIfInBounds_toArray, List.set_cons_zero, List.set_cons_succ]
            refine wpAnyH_done (by kernel_rfl) ?_ _
            go_wp2
            go_roundw
            case rel => exact ⟨x + 1, by omega, by go_num, HGO.out _ (by trivial) P1.out P2.out⟩
            case measure => simp [intOf]; omega
          · skip
            rw [hhit] at R3 HGO HEND
            clear t1 t2 HNX hst hhit
            go_wp2_with fail
            refine wp_region_held_drew (S := fun W => W.cell? ⟨po, 0, none⟩ = some (.func (.func 94) #[] #[.pointer (some ⟨pn, 0, none⟩), .pointer (some ⟨pv, 0, none⟩), .pointer (some ⟨pb, 0, none⟩), .pointer (some ⟨po, 0, none⟩)])) (by kernel_rfl) (cpo) (fun hS => ?_)
            refine wpAnyH_take (i := 0) (oi := { dst := some 31, op := Op.move (Operand.tmp 1), type := 3, pos := "mate.go:18", after := #[], guard := none }) (v := .int .i64 (C1 : Int)) rfl (by kernel_rfl) (by kernel_rfl) (by kernel_rfl) (fun _ _ _ h => h) (Or.inl ⟨by kernel_rfl, fun W hSW => by kernel_rfl⟩) hS ?_
            try simp only [Act.put, List.setIfInBounds_toArray, List.set_cons_zero, List.set_cons_succ]
            refine wpAnyH_take (i := 1) (oi := { dst := some 32, op := Op.move (Operand.tmp 11), type := 3, pos := "mate.go:18", after := #[], guard := none }) (v := .int .i64 (x : Int)) rfl (by kernel_rfl) (by kernel_rfl) (by kernel_rfl) (fun _ _ _ h => h) (Or.inl ⟨by kernel_rfl, fun W hSW => by kernel_rfl⟩) hS ?_
            try simp only [Act.put, List.setIfInBounds_toArray, List.set_cons_zero, List.set_cons_succ]
            refine wpAnyH_take (i := 2) (oi := { dst := some 33, op := Op.binOp BinOp.shl 3 (Operand.const (Value.int IntKind.i64 1)) (Operand.tmp 32) 3, type := 3, pos := "mate.go:18", after := #[{ on := 1, ground := Ground.data }], guard := none }) (v := .int .i64 (N : Int)) rfl (by kernel_rfl) (by kernel_rfl) (by kernel_rfl) (fun _ _ _ h => h) (Or.inl ⟨by kernel_rfl, fun W hSW => by go_simp⟩) hS ?_
            try simp only [Act.put, List.setIfInBounds_toArray, List.set_cons_zero, List.set_cons_succ]
            refine wpAnyH_take (i := 3) (oi := { dst := some 34, op := Op.binOp BinOp.and 3 (Operand.tmp 31) (Operand.tmp 33) 3, type := 3, pos := "mate.go:18", after := #[{ on := 0, ground := Ground.data }, { on := 2, ground := Ground.data }], guard := none }) (v := .int .i64 (V1 : Int)) rfl (by kernel_rfl) (by kernel_rfl) (by kernel_rfl) (fun _ _ _ h => h) (Or.inl ⟨by kernel_rfl, fun W hSW => by go_simp⟩) hS ?_
            try simp only [Act.put, List.setIfInBounds_toArray, List.set_cons_zero, List.set_cons_succ]
            refine wpAnyH_take (i := 4) (oi := { dst := some 35, op := Op.binOp BinOp.eql 3 (Operand.tmp 34) (Operand.const (Value.int IntKind.i64 0)) 3, type := 4, pos := "mate.go:18", after := #[{ on := 3, ground := Ground.data }], guard := none }) (v := .bool true) rfl (by kernel_rfl) (by kernel_rfl) (by kernel_rfl) (fun _ _ _ h => h) (Or.inl ⟨by kernel_rfl, fun W hSW => by go_simp⟩) hS ?_
            try simp only [Act.put, List.setIfInBounds_toArray, List.set_cons_zero, List.set_cons_succ]
            refine wpAnyH_take (i := 5) (oi := { dst := some 36, op := Op.move (Operand.tmp 35), type := 4, pos := "mate.go:18", after := #[{ on := 4, ground := Ground.data }], guard := none }) (v := .bool true) rfl (by kernel_rfl) (by kernel_rfl) (by kernel_rfl) (fun _ _ _ h => h) (Or.inl ⟨by kernel_rfl, fun W hSW => by kernel_rfl⟩) hS ?_
            try simp only [Act.put, List.setIfInBounds_toArray, List.set_cons_zero, List.set_cons_succ]
            refine wpAnyH_take (i := 6) (oi := { dst := some 37, op := Op.move (Operand.tmp 2), type := 3, pos := "mate.go:18", after := #[{ on := 5, ground := Ground.guard }], guard := some (5, true) }) (v := .int .i64 (C2 : Int)) rfl (by kernel_rfl) (by kernel_rfl) (by kernel_rfl) (fun _ _ _ h => h) (Or.inl ⟨by kernel_rfl, fun W hSW => by kernel_rfl⟩) hS ?_
            try simp only [Act.put, List.setIfInBounds_toArray, List.set_cons_zero, List.set_cons_succ]
            refine wpAnyH_take (i := 7) (oi := { dst := some 38, op := Op.move (Operand.tmp 12), type := 3, pos := "mate.go:18", after := #[{ on := 5, ground := Ground.guard }], guard := some (5, true) }) (v := .int .i64 (y : Int)) rfl (by kernel_rfl) (by kernel_rfl) (by kernel_rfl) (fun _ _ _ h => h) (Or.inl ⟨by kernel_rfl, fun W hSW => by kernel_rfl⟩) hS ?_
            try simp only [Act.put, List.setIfInBounds_toArray, List.set_cons_zero, List.set_cons_succ]
            refine wpAnyH_take (i := 8) (oi := { dst := some 39, op := Op.binOp BinOp.shl 3 (Operand.const (Value.int IntKind.i64 1)) (Operand.tmp 38) 3, type := 3, pos := "mate.go:18", after := #[{ on := 7, ground := Ground.data }, { on := 5, ground := Ground.guard }], guard := some (5, true) }) (v := .int .i64 (N2 : Int)) rfl (by kernel_rfl) (by kernel_rfl) (by kernel_rfl) (fun _ _ _ h => h) (Or.inl ⟨by kernel_rfl, fun W hSW => by go_simp⟩) hS ?_
            try simp only [Act.put, List.setIfInBounds_toArray, List.set_cons_zero, List.set_cons_succ]
            refine wpAnyH_take (i := 9) (oi := { dst := some 40, op := Op.binOp BinOp.and 3 (Operand.tmp 37) (Operand.tmp 39) 3, type := 3, pos := "mate.go:18", after := #[{ on := 6, ground := Ground.data }, { on := 8, ground := Ground.data }, { on := 5, ground := Ground.guard }], guard := some (5, true) }) (v := .int .i64 (V2 : Int)) rfl (by kernel_rfl) (by kernel_rfl) (by kernel_rfl) (fun _ _ _ h => h) (Or.inl ⟨by kernel_rfl, fun W hSW => by go_simp⟩) hS ?_
            try simp only [Act.put, List.setIfInBounds_toArray, List.set_cons_zero, List.set_cons_succ]
            refine wpAnyH_take (i := 10) (oi := { dst := some 41, op := Op.binOp BinOp.eql 3 (Operand.tmp 40) (Operand.const (Value.int IntKind.i64 0)) 3, type := 4, pos := "mate.go:18", after := #[{ on := 9, ground := Ground.data }, { on := 5, ground := Ground.guard }], guard := some (5, true) }) (v := .bool true) rfl (by kernel_rfl) (by kernel_rfl) (by kernel_rfl) (fun _ _ _ h => h) (Or.inl ⟨by kernel_rfl, fun W hSW => by go_simp⟩) hS ?_
            try simp only [Act.put, List.setIfInBounds_toArray, List.set_cons_zero, List.set_cons_succ]
            refine wpAnyH_take (i := 11) (oi := { dst := some 42, op := Op.pick (Operand.tmp 36) (Operand.tmp 41) (Operand.const (Value.bool false)), type := 4, pos := "mate.go:18", after := #[{ on := 5, ground := Ground.data }, { on := 10, ground := Ground.data }], guard := none }) (v := .bool true) rfl (by kernel_rfl) (by kernel_rfl) (by kernel_rfl) (fun _ _ _ h => h) (Or.inl ⟨by kernel_rfl, fun W hSW => by go_simp⟩) hS ?_
            try simp only [Act.put, List.setIfInBounds_toArray, List.set_cons_zero, List.set_cons_succ]
            refine wpAnyH_take (i := 12) (oi := { dst := some 43, op := Op.move (Operand.tmp 42), type := 4, pos := "mate.go:18", after := #[{ on := 11, ground := Ground.data }, { on := 5, ground := Ground.chain }], guard := none }) (v := .bool true) rfl (by kernel_rfl) (by kernel_rfl) (by kernel_rfl) (fun _ _ _ h => h) (Or.inl ⟨by kernel_rfl, fun W hSW => by kernel_rfl⟩) hS ?_
            try simp only [Act.put, List.setIfInBounds_toArray, List.set_cons_zero, List.set_cons_succ]
            refine wpAnyH_take (i := 13) (oi := { dst := some 44, op := Op.load 91 (Operand.tmp 6), type := 91, pos := "mate.go:18", after := #[{ on := 12, ground := Ground.guard }], guard := some (12, true) }) (v := .func (.func 94) #[] #[.pointer (some ⟨pn, 0, none⟩), .pointer (some ⟨pv, 0, none⟩), .pointer (some ⟨pb, 0, none⟩), .pointer (some ⟨po, 0, none⟩)]) rfl (by kernel_rfl) (by kernel_rfl) (by kernel_rfl) (fun _ _ _ h => h) (Or.inl ⟨by kernel_rfl, fun W hSW => by go_simp⟩) hS ?_
            try simp only [Act.put, List.setIfInBounds_toArray, List.set_cons_zero, List.set_cons_succ]
            refine wpAnyH_take (i := 14) (oi := { dst := some 45, op := Op.move (Operand.tmp 0), type := 29, pos := "mate.go:18", after := #[{ on := 12, ground := Ground.guard }], guard := some (12, true) }) (v := .slice A m c) rfl (by kernel_rfl) (by kernel_rfl) (by kernel_rfl) (fun _ _ _ h => h) (Or.inl ⟨by kernel_rfl, fun W hSW => by kernel_rfl⟩) hS ?_
            try simp only [Act.put, List.setIfInBounds_toArray, List.set_cons_zero, List.set_cons_succ]
            refine wpAnyH_take (i := 15) (oi := { dst := some 46, op := Op.move (Operand.tmp 0), type := 29, pos := "mate.go:18", after := #[{ on := 12, ground := Ground.guard }], guard := some (12, true) }) (v := .slice A m c) rfl (by kernel_rfl) (by kernel_rfl) (by kernel_rfl) (fun _ _ _ h => h) (Or.inl ⟨by kernel_rfl, fun W hSW => by kernel_rfl⟩) hS ?_
            try simp only [Act.put, List.setIfInBounds_toArray, List.set_cons_zero, List.set_cons_succ]
            refine wpAnyH_take (i := 16) (oi := { dst := some 47, op := Op.call { callee := Callee.builtin Builtin.len, args := #[Operand.tmp 46], argTypes := #[29] }, type := 3, pos := "mate.go:18", after := #[{ on := 15, ground := Ground.data }, { on := 12, ground := Ground.guard }], guard := some (12, true) }) (v := .int .i64 (m : Int)) rfl (by kernel_rfl) (by kernel_rfl) (by kernel_rfl) (fun _ _ _ h => h) (Or.inl ⟨by kernel_rfl, fun W hSW => by go_simp⟩) hS ?_
            try simp only [Act.put, List.setIfInBounds_toArray, List.set_cons_zero, List.set_cons_succ]
            refine wpAnyH_take (i := 17) (oi := { dst := some 48, op := Op.move (Operand.tmp 0), type := 29, pos := "mate.go:18", after := #[{ on := 12, ground := Ground.guard }], guard := some (12, true) }) (v := .slice A m c) rfl (by kernel_rfl) (by kernel_rfl) (by kernel_rfl) (fun _ _ _ h => h) (Or.inl ⟨by kernel_rfl, fun W hSW => by kernel_rfl⟩) hS ?_
            try simp only [Act.put, List.setIfInBounds_toArray, List.set_cons_zero, List.set_cons_succ]
            refine wpAnyH_take (i := 18) (oi := { dst := some 49, op := Op.call { callee := Callee.builtin Builtin.len, args := #[Operand.tmp 48], argTypes := #[29] }, type := 3, pos := "mate.go:18", after := #[{ on := 17, ground := Ground.data }, { on := 12, ground := Ground.guard }], guard := some (12, true) }) (v := .int .i64 (m : Int)) rfl (by kernel_rfl) (by kernel_rfl) (by kernel_rfl) (fun _ _ _ h => h) (Or.inl ⟨by kernel_rfl, fun W hSW => by go_simp⟩) hS ?_
            try simp only [Act.put, List.setIfInBounds_toArray, List.set_cons_zero, List.set_cons_succ]
            refine wpAnyH_take (i := 19) (oi := { dst := some 50, op := Op.slice 29 (Operand.tmp 45) none (some (Operand.tmp 47)) (some (Operand.tmp 49)), type := 29, pos := "mate.go:18", after := #[{ on := 14, ground := Ground.data }, { on := 16, ground := Ground.data }, { on := 18, ground := Ground.data }, { on := 12, ground := Ground.guard }], guard := some (12, true) }) (v := .slice A m m) rfl (by kernel_rfl) (by kernel_rfl) (by kernel_rfl) (fun _ _ _ h => h) (Or.inl ⟨by kernel_rfl, fun W hSW => by go_simp⟩) hS ?_
            try simp only [Act.put, List.setIfInBounds_toArray, List.set_cons_zero, List.set_cons_succ]
            refine wpAnyH_take (i := 20) (oi := { dst := some 51, op := Op.move (Operand.tmp 11), type := 3, pos := "mate.go:18", after := #[{ on := 12, ground := Ground.guard }], guard := some (12, true) }) (v := .int .i64 (x : Int)) rfl (by kernel_rfl) (by kernel_rfl) (by kernel_rfl) (fun _ _ _ h => h) (Or.inl ⟨by kernel_rfl, fun W hSW => by kernel_rfl⟩) hS ?_
            try simp only [Act.put, List.setIfInBounds_toArray, List.set_cons_zero, List.set_cons_succ]
            refine wpAnyH_take (i := 23) (oi := { dst := some 54, op := Op.move (Operand.tmp 1), type := 3, pos := "mate.go:18", after := #[{ on := 12, ground := Ground.guard }], guard := some (12, true) }) (v := .int .i64 (C1 : Int)) rfl (by kernel_rfl) (by kernel_rfl) (by kernel_rfl) (fun _ _ _ h => h) (Or.inl ⟨by kernel_rfl, fun W hSW => by kernel_rfl⟩) hS ?_
            try simp only [Act.put, List.setIfInBounds_toArray, List.set_cons_zero, List.set_cons_succ]
            refine wpAnyH_take (i := 24) (oi := { dst := some 55, op := Op.move (Operand.tmp 11), type := 3, pos := "mate.go:18", after := #[{ on := 12, ground := Ground.guard }], guard := some (12, true) }) (v := .int .i64 (x : Int)) rfl (by kernel_rfl) (by kernel_rfl) (by kernel_rfl) (fun _ _ _ h => h) (Or.inl ⟨by kernel_rfl, fun W hSW => by kernel_rfl⟩) hS ?_
            try simp only [Act.put, List.setIfInBounds_toArray, List.set_cons_zero, List.set_cons_succ]
            refine wpAnyH_take (i := 25) (oi := { dst := some 56, op := Op.binOp BinOp.shl 3 (Operand.const (Value.int IntKind.i64 1)) (Operand.tmp 55) 3, type := 3, pos := "mate.go:18", after := #[{ on := 24, ground := Ground.data }, { on := 12, ground := Ground.guard }], guard := some (12, true) }) (v := .int .i64 (N : Int)) rfl (by kernel_rfl) (by kernel_rfl) (by kernel_rfl) (fun _ _ _ h => h) (Or.inl ⟨by kernel_rfl, fun W hSW => by go_simp⟩) hS ?_
            try simp only [Act.put, List.setIfInBounds_toArray, List.set_cons_zero, List.set_cons_succ]
            refine wpAnyH_take (i := 26) (oi := { dst := some 57, op := Op.binOp BinOp.or 3 (Operand.tmp 54) (Operand.tmp 56) 3, type := 3, pos := "mate.go:18", after := #[{ on := 23, ground := Ground.data }, { on := 25, ground := Ground.data }, { on := 12, ground := Ground.guard }], guard := some (12, true) }) (v := .int .i64 (V3 : Int)) rfl (by kernel_rfl) (by kernel_rfl) (by kernel_rfl) (fun _ _ _ h => h) (Or.inl ⟨by kernel_rfl, fun W hSW => by go_simp⟩) hS ?_
            try simp only [Act.put, List.setIfInBounds_toArray, List.set_cons_zero, List.set_cons_succ]
            refine wpAnyH_take (i := 27) (oi := { dst := some 58, op := Op.move (Operand.tmp 2), type := 3, pos := "mate.go:18", after := #[{ on := 12, ground := Ground.guard }], guard := some (12, true) }) (v := .int .i64 (C2 : Int)) rfl (by kernel_rfl) (by kernel_rfl) (by kernel_rfl) (fun _ _ _ h => h) (Or.inl ⟨by kernel_rfl, fun W hSW => by kernel_rfl⟩) hS ?_
            try simp only [Act.put, List.setIfInBounds_toArray, List.set_cons_zero, List.set_cons_succ]
            refine wpAnyH_take (i := 28) (oi := { dst := some 59, op := Op.move (Operand.tmp 12), type := 3, pos := "mate.go:18", after := #[{ on := 12, ground := Ground.guard }], guard := some (12, true) }) (v := .int .i64 (y : Int)) rfl (by kernel_rfl) (by kernel_rfl) (by kernel_rfl) (fun _ _ _ h => h) (Or.inl ⟨by kernel_rfl, fun W hSW => by kernel_rfl⟩) hS ?_
            try simp only [Act.put, List.setIfInBounds_toArray, List.set_cons_zero, List.set_cons_succ]
            refine wpAnyH_take (i := 29) (oi := { dst := some 60, op := Op.binOp BinOp.shl 3 (Operand.const (Value.int IntKind.i64 1)) (Operand.tmp 59) 3, type := 3, pos := "mate.go:18", after := #[{ on := 28, ground := Ground.data }, { on := 12, ground := Ground.guard }], guard := some (12, true) }) (v := .int .i64 (N2 : Int)) rfl (by kernel_rfl) (by kernel_rfl) (by kernel_rfl) (fun _ _ _ h => h) (Or.inl ⟨by kernel_rfl, fun W hSW => by go_simp⟩) hS ?_
            try simp only [Act.put, List.setIfInBounds_toArray, List.set_cons_zero, List.set_cons_succ]
            refine wpAnyH_take (i := 30) (oi := { dst := some 61, op := Op.binOp BinOp.or 3 (Operand.tmp 58) (Operand.tmp 60) 3, type := 3, pos := "mate.go:18", after := #[{ on := 27, ground := Ground.data }, { on := 29, ground := Ground.data }, { on := 12, ground := Ground.guard }], guard := some (12, true) }) (v := .int .i64 (V4 : Int)) rfl (by kernel_rfl) (by kernel_rfl) (by kernel_rfl) (fun _ _ _ h => h) (Or.inl ⟨by kernel_rfl, fun W hSW => by go_simp⟩) hS ?_
            try simp only [Act.put, List.setIfInBounds_toArray, List.set_cons_zero, List.set_cons_succ]
            refine wpAnyH_ready (rs := [21]) (by kernel_rfl) (by simp) ?_
            refine AllReadyH.cons (o := { dst := some 52, op := Op.buildSlice 29 1 #[(0, Operand.tmp 51)], type := 29, pos := "mate.go:18", after := #[{ on := 20, ground := Ground.data }, { on := 12, ground := Ground.guard }], guard := some (12, true) }) rfl (fun K hK => ?_) AllReadyH.nil
            go_simp
            refine hK.out _ _ (S1.out _ (by first | exact (below_alloc wr _).drew | exact below_alloc wr _)) (fun hS => ?_)
            clear hK K
            try simp only [Act.put, List.setIfInBounds_toArray, List.set_cons_zero, List.set_cons_succ]
            refine wpAnyH_ready (rs := [22]) (by kernel_rfl) (by simp) ?_
            refine AllReadyH.cons (o := { dst := some 53, op := Op.call { callee := Callee.builtin Builtin.append, args := #[Operand.tmp 50, Operand.tmp 52], argTypes := #[29, 29] }, type := 29, pos := "mate.go:18", after := #[{ on := 19, ground := Ground.data }, { on := 21, ground := Ground.data }, { on := 12, ground := Ground.chain }, { on := 12, ground := Ground.guard }], guard := some (12, true) }) rfl (fun K hK => ?_) AllReadyH.nil
            refine step_growI (by kernel_rfl) _ _ (by rfl) A m l (by rfl) HM.out.symm RN.out (R1.out _ (by rfl)) wr.heap.size 1 x (by rfl) (R2.out _ (by rfl)) hm6 ?_
            intro A2 c2 w2 hin2 hne2 hc2 hb2
            have hbA : Below wr.heap.size wr (wr.alloc (.cells #[.int .i64 (x : Int)] 3)).drew := (below_alloc wr _).drew
            have hq1 : Below wr.heap.size wr w2 := below_step hbA hb2
            refine hK.out _ _ (S1.out _ hq1) (fun hS => ?_)
            clear hK K
            try simp only [Act.put, List.setIfInBounds_toArray, List.set_cons_zero, List.set_cons_succ]
            refine wpAnyH_ready (rs := [31]) (by kernel_rfl) (by simp) ?_
            refine AllReadyH.cons (o := { dst := some 62, op := Op.call { callee := Callee.value (Operand.tmp 44), args := #[Operand.tmp 53, Operand.tmp 57, Operand.tmp 61], argTypes := #[29, 3, 3] }, type := 4, pos := "mate.go:18", after := #[{ on := 13, ground := Ground.data }, { on := 22, ground := Ground.data }, { on := 26, ground := Ground.data }, { on := 30, ground := Ground.data }, { on := 22, ground := Ground.chain }, { on := 12, ground := Ground.guard }], guard := some (12, true) }) rfl (fun K hK => ?_) AllReadyH.nil
            go_simp
            refine (R3.out _ w2 A2 c2 hbA hin2 hne2 hc2 hb2).mono ?_
            rintro e w3 ⟨rfl, p1, p2⟩
            have P1 := Lib.hid p1
            have P2 := Lib.hid p2
            have hS3 := S3.out _ p2
            clear p1 p2 hin2 hne2 hc2 hb2 hbA
            refine hK.out _ _ (hS3) (fun hS => ?_)
            clear hK K
            try simp only [Act.put, List.setIfInBounds_toArray, List.set_cons_zero, List.set_cons_succ]
            refine wpAnyH_take (i := 32) (oi := { dst := some 63, op := Op.pick (Operand.tmp 43) (Operand.tmp 62) (Operand.const (Value.bool false)), type := 4, pos := "mate.go:18", after := #[{ on := 12, ground := Ground.data }, { on := 31, ground := Ground.data }], guard := none }) (v := .bool true) rfl (by kernel_rfl) (by kernel_rfl) (by kernel_rfl) (fun _ _ _ h => h) (Or.inl ⟨by kernel_rfl, fun W hSW => by go_simp⟩) hS ?_
            try simp only [Act.put, List.setIfInBounds_toArray, List.set_cons_zero, List.set_cons_succ]
            refine wpAnyH_done (by kernel_rfl) ?_ _
            obtain ⟨q1, q2, q3⟩ := HEND.out _ (by trivial) P1.out P2.out
            have Q1 := Lib.hid q1
            have Q2 := Lib.hid q2
            have Q3 := Lib.hid q3
            clear q1 q2 q3
            go_wp2
            go_ret
            exact ⟨ret_bool Q1.out.symm, Q2.out, Q3.out⟩
        · rw [t2, Bool.not_true] at z2
          have HOKF : Hid (okT b l x = false) := by rw [HOK.out, t2, Bool.not_true, Bool.and_false]; rfl
          have HQ : Hid (∀ q, I (done ++ trTo b n k l (x + 1)) (wr.drewN q) ∧ Kept Own w (wr.drewN q) ∧ (stop = true → trTo b n k l (x + 1) = [])) := fun q => by
            have hb := below_drewN (Below.refl wr.heap.size wr) q
            exact HNX.out _ HOKF.out (HV.out.keep _ _ _ hst.out.1 hb).1 (hst.out.2.1.trans (HV.out.grow hst.out.1 hb)) hst.out.2.2
          generalize C1 &&& N = V1 at *
          generalize C2 &&& N2 = V2 at *
          clear t1 t2 hst HNX
          go_wp2
          go_quiet (fail)
          go_wp2
          go_roundw
          case rel => exact ⟨x + 1, by omega, by go_num, HQ.out _⟩
          case measure => simp [intOf]; omega
      · rw [t1, Bool.not_true] at z1
        have HOKF : Hid (okT b l x = false) := by rw [HOK.out, t1]; rfl
        have HQ : Hid (∀ q, I (done ++ trTo b n k l (x + 1)) (wr.drewN q) ∧ Kept Own w (wr.drewN q) ∧ (stop = true → trTo b n k l (x + 1) = [])) := fun q => by
          have hb := below_drewN (Below.refl wr.heap.size wr) q
          exact HNX.out _ HOKF.out (HV.out.keep _ _ _ hst.out.1 hb).1 (hst.out.2.1.trans (HV.out.grow hst.out.1 hb)) hst.out.2.2
        generalize C1 &&& N = V1 at *
        generalize C2 &&& N2 = V2 at *
        clear t1 hst HNX
        go_wp2
        go_quiet (fail)
        go_wp2
        go_roundw
        case rel => exact ⟨x + 1, by omega, by go_num, HQ.out _⟩
        case measure => simp [intOf]; omega
    · obtain rfl : x = n := by omega
      have HF : Hid (vis stop (trTo b x k l x) = trTo b x k l x ∧ hit stop (trTo b x k l x) = false) := vis_none hst.out.2.2
      go_wp2
      go_ret
      exact ⟨ret_bool (by rw [HTS.out, HF.out.2]), by rw [HTS.out, HF.out.1]; exact hst.out.1, hst.out.2.1⟩
/-- on, from some columns on. -/
theorem f94_any (hb : IsFull n b) (hs : Beds w0 B n cb b) (hbase : base = w0.heap.size) (hn7 : n ≤ 7) : ∀ (k : Nat) (l : List Nat), l.length + k = n → (∀ i, i < l.length → l.getD i 0 < n) → OnC n base fv caps stop Own I b w0 B cb pn pv pb po k l
  | 0, l, hl, hln => f94_end n base fv caps stop Own I V b w0 B cb pn pv pb po l (by omega) (fun i hi => hln i (by omega))
  | k + 1, l, hl, hln => f94_step n base fv caps stop Own I V b w0 B cb pn pv pb po hb hs hbase hn7 k l hl hln fun c hc => f94_any hb hs hbase hn7 k (l ++ [c]) (by rw [List.length_append, List.length_singleton]; omega) fun i hi => by
      rw [List.length_append, List.length_singleton] at hi
      rcases Nat.lt_or_ge i l.length with h | h
      · rw [getD_app1 h]; exact hln i h
      · obtain rfl : i = l.length := by omega
        rw [getD_app2]; exact hc
end
end Go.Proofs.YtiodednhadnekaaDoor

namespace Go.Proofs.YtiodednhadnekaaDoor
open Go.RowKit Go.Deep

theorem run_store_func (P : Program) (w : World) (a : Addr) (m : Mode) (f : Fn) (x y : Array Value) : (store a (.func f x y) m).run P w = stored P w a (.func f x y) m := run_store P w a _ m rfl
attribute [local go_sem] run_store_func
/-- Four variables. -/
theorem four_new (w : World) (v1 v2 v3 v4 : Value) (t1 t2 t3 t4 : TypeId) : ∃ wz, wz = ((((w.alloc (.cells #[v1] t1)).alloc (.cells #[v2] t2)).alloc (.cells #[v3] t3)).alloc (.cells #[v4] t4)) ∧ Below w.heap.size w wz ∧
    wz.cell? ⟨w.heap.size, 0, none⟩ = some v1 ∧ wz.cell? ⟨w.heap.size + 1, 0, none⟩ = some v2 ∧ wz.cell? ⟨w.heap.size + 1 + 1, 0, none⟩ = some v3 ∧ wz.cell? ⟨w.heap.size + 1 + 1 + 1, 0, none⟩ = some v4 := by
  have s1 : (w.alloc (.cells #[v1] t1)).heap.size = w.heap.size + 1 := by simp
  have a1 : (w.alloc (.cells #[v1] t1)).heap[w.heap.size]? = some (.cells #[v1] t1 (0, 0)) := heap_alloc_new w _
  obtain ⟨w1, hw1⟩ : ∃ z, z = w.alloc (.cells #[v1] t1) := ⟨_, rfl⟩
  have b1 : Below w.heap.size w w1 := by rw [hw1]; exact below_alloc w _
  rw [← hw1] at s1 a1 ⊢
  have s2 : (w1.alloc (.cells #[v2] t2)).heap.size = w.heap.size + 1 + 1 := by simp [s1]
  have a2 : (w1.alloc (.cells #[v2] t2)).heap[w.heap.size + 1]? = some (.cells #[v2] t2 (0, 0)) := by rw [← s1]; exact heap_alloc_new w1 _
  have a12 := (Below.heap_alloc w1 (.cells #[v2] t2) w.heap.size (by omega)).trans a1
  obtain ⟨w2, hw2⟩ : ∃ z, z = w1.alloc (.cells #[v2] t2) := ⟨_, rfl⟩
  have b2 : Below w.heap.size w w2 := by rw [hw2]; exact b1.alloc (by omega) _
  rw [← hw2] at s2 a2 a12 ⊢
  have s3 : (w2.alloc (.cells #[v3] t3)).heap.size = w.heap.size + 1 + 1 + 1 := by simp [s2]
  have a3 : (w2.alloc (.cells #[v3] t3)).heap[w.heap.size + 1 + 1]? = some (.cells #[v3] t3 (0, 0)) := by rw [← s2]; exact heap_alloc_new w2 _
  have a13 := (Below.heap_alloc w2 (.cells #[v3] t3) w.heap.size (by omega)).trans a12
  have a23 := (Below.heap_alloc w2 (.cells #[v3] t3) (w.heap.size + 1) (by omega)).trans a2
  obtain ⟨w3, hw3⟩ : ∃ z, z = w2.alloc (.cells #[v3] t3) := ⟨_, rfl⟩
  have b3 : Below w.heap.size w w3 := by rw [hw3]; exact b2.alloc (by omega) _
  rw [← hw3] at s3 a3 a13 a23 ⊢
  have a4 : (w3.alloc (.cells #[v4] t4)).heap[w.heap.size + 1 + 1 + 1]? = some (.cells #[v4] t4 (0, 0)) := by rw [← s3]; exact heap_alloc_new w3 _
  have a14 := (Below.heap_alloc w3 (.cells #[v4] t4) w.heap.size (by omega)).trans a13
  have a24 := (Below.heap_alloc w3 (.cells #[v4] t4) (w.heap.size + 1) (by omega)).trans a23
  have a34 := (Below.heap_alloc w3 (.cells #[v4] t4) (w.heap.size + 1 + 1) (by omega)).trans a3
  obtain ⟨w4, hw4⟩ : ∃ z, z = w3.alloc (.cells #[v4] t4) := ⟨_, rfl⟩
  have b4 : Below w.heap.size w w4 := by rw [hw4]; exact b3.alloc (by omega) _
  rw [← hw4] at a4 a14 a24 a34 ⊢
  refine ⟨_, rfl, b4, ?_, ?_, ?_, ?_⟩
  · rw [cell_of_row _ _ 0 _ _ _ a14]; rfl
  · rw [cell_of_row _ _ 0 _ _ _ a24]; rfl
  · rw [cell_of_row _ _ 0 _ _ _ a34]; rfl
  · rw [cell_of_row _ _ 0 _ _ _ a4]; rfl
section
variable (n base : Nat) (fv : FuncId) (caps : Array Value) (stop : Bool) (Own : World → Nat → Prop) (I : List (List Nat) → World → Prop) (V : Visit n base fv caps stop Own I) (b : List (List Int)) (w0 : World) (B : Option Addr) (cb : Nat)
include V
set_option maxHeartbeats 1000000 in
/-- bed.transversals -/
theorem f61_any (w : World) (hb : IsFull n b) (hs : Beds w0 B n cb b) (hbase : base = w0.heap.size) (hbel : Below base w0 w) (hn7 : n ≤ 7) (hI : I [] w) :
    Calls Tryd.prog 61 #[.slice B n cb, .func (.func fv) #[] caps] w fun e w' => e = .returned (.bool (hit stop (trans b n))) ∧ I (vis stop (trans b n)) w' ∧ Kept Own w w' := by
  have hen := enter94
  have hmf : ∀ (fn : Fn) (first cap : Array Value) (w : World), (Instr.makeFunc fn first cap).run Tryd.prog w = .ok (.func fn first cap) w := fun _ _ _ _ => rfl
  have hsm := hs.small
  obtain ⟨wz, hwz, hbz, c1, c2, c3, c4⟩ := four_new w (.slice B n cb) (.func (.func fv) #[] caps) (.int .i64 (n : Int)) (.func (.func 94) #[] #[.pointer (some ⟨w.heap.size + 1 + 1, 0, none⟩), .pointer (some ⟨w.heap.size + 1, 0, none⟩), .pointer (some ⟨w.heap.size, 0, none⟩), .pointer (some ⟨w.heap.size + 1 + 1 + 1, 0, none⟩)]) 22 68 3 91
  have hC : Ctx n base fv caps Own w0 B cb (w.heap.size + 1 + 1) (w.heap.size + 1) w.heap.size (w.heap.size + 1 + 1 + 1) wz := ⟨⟨c3, V.new hI hbz (by omega)⟩, ⟨c2, V.new hI hbz (by omega)⟩, ⟨c1, V.new hI hbz (by omega)⟩, ⟨c4, V.new hI hbz (by omega)⟩, hbel.trans (hbz.mono (by rw [hbase]; exact hbel.size)), by have := hbz.size; have := hbel.size; omega⟩
  have HK := Lib.hid (V.grow hI hbz)
  have K := Lib.hid (f94_any n base fv caps stop Own I V b w0 B cb (w.heap.size + 1 + 1) (w.heap.size + 1) w.heap.size (w.heap.size + 1 + 1 + 1) hb hs hbase hn7 n [] (by simp) (fun i hi => absurd hi (by simp)) [] none 0 wz (V.keep _ _ _ hI hbz).1 hC (IntsN.nil _ _) (fun _ => rfl) (by simp) (by
    have h1 := trF_len b n n []
    have h2 : n ^ n ≤ 7 ^ 7 := Nat.le_trans (Nat.pow_le_pow_left hn7 n) (Nat.pow_le_pow_right (by decide) hn7)
    have h3 : 7 ^ 7 = 823543 := by decide
    simp only [List.length_nil]
    omega))
  have e0 : (0 : Int) = (colsM [] : Int) := rfl
  have cc := c4
  clear hC hbz c1 c2 c3 V hb hs hbel hI
  simp only [List.length_nil, List.nil_append] at K
  have K2 : Hid (Calls Tryd.prog 94 #[.slice none 0 0, .int .i64 0, .int .i64 0, .pointer (some ⟨w.heap.size + 1 + 1, 0, none⟩), .pointer (some ⟨w.heap.size + 1, 0, none⟩), .pointer (some ⟨w.heap.size, 0, none⟩), .pointer (some ⟨w.heap.size + 1 + 1 + 1, 0, none⟩)] wz fun e w' => e = .returned (.bool (hit stop (trans b n))) ∧ I (vis stop (trans b n)) w' ∧ Kept Own wz w') := K.out
  clear K e0
  go_enter Tryd.func61, Tryd.ntmps61
  go_wp2_with fail
  rw [← hwz]
  clear hwz
  refine K2.out.mono ?_
  rintro e w' ⟨rfl, h1, h2⟩
  have H1 := Lib.hid h1
  have H2 := Lib.hid (HK.out.trans h2)
  clear h1 h2
  go_wp2
  go_ret
  exact ⟨rfl, H1.out, H2.out⟩
end
end Go.Proofs.YtiodednhadnekaaDoor

namespace Go.Proofs.YtiodednhadnekaaDoor
open Go.RowKit Go.Deep

theorem kept_setCell (w : World) (p i : Nat) (v : Value) : Kept (fun _ j => j = p) w (w.setCell ⟨p, i, none⟩ v) :=
  ⟨rfl, rfl, rfl, by simp [World.setCell], fun j _ hj => Below.heap_setCell w ⟨p, i, none⟩ v j hj, fun _ _ h => h⟩
theorem enter76 (args : Array Value) (w : World) : (callFunc 76 args).run Tryd.prog w = .ok (.enter 76 args) w := by simp [go_sem]
/-- bed.Transversals$1 -/
theorem f76_any (A : Option Addr) (n c p k : Nat) (w : World) (h : Own w p [(k : Int)]) (hk : k ≤ 1000000) :
    Calls Tryd.prog 76 #[.slice A n c, .pointer (some ⟨p, 0, none⟩)] w fun e w' => e = .returned (.bool false) ∧ w' = w.setCell ⟨p, 0, none⟩ (.int .i64 ((k + 1 : Nat) : Int)) := by
  have hc : w.cell? ⟨p, 0, none⟩ = some (.int .i64 (k : Int)) := h.cell 0 (by simp)
  have hf := h.frozen 0
  have HE : Hid ((k : Int) + 1 = ((k + 1 : Nat) : Int)) := by unfold Hid; omega
  clear h
  go_enter Tryd.func76, Tryd.ntmps76
  go_wp2
  go_ret
  exact ⟨rfl, by rw [← HE.out]⟩
/-- Each transversal is counted. -/
theorem visit76 (n base p : Nat) (hp : base ≤ p) : Visit n base 76 #[.pointer (some ⟨p, 0, none⟩)] false (fun _ i => i = p) (fun done w => Own w p [(done.length : Int)]) where
  enter := enter76
  keep := fun done w w' h hb => ⟨h.below' hb, fun i h => h⟩
  lt := fun done w i h hi => by subst hi; exact ⟨hp, h.lt⟩
  call := fun done l A c w h hd _ _ _ _ => (f76_any A n c p done.length w h hd).mono fun e w' ⟨h1, h2⟩ => ⟨h1, by
    subst h2
    have := h.set_ 0 ((done.length + 1 : Nat) : Int)
    rw [List.length_append]
    simpa using this, by subst h2; exact kept_setCell _ _ _ _⟩
def trN (b : List (List Int)) : Int := if fullB b = true then ((trans b b.length).length : Int) else 0
def trE (b : List (List Int)) : Int := if fullB b = true then 0 else 2
set_option maxHeartbeats 1000000 in
/-- bed.Transversals -/
theorem f30_any (A : Option Addr) (n c : Nat) (b : List (List Int)) (w : World) (hs : Beds w A n c b) :
    Calls Tryd.prog 30 #[.slice A n c] w fun e w' => e = .returned (.tuple #[.int .i64 (trN b), .int .i64 (trE b)]) ∧ Below w.heap.size w w' := by
  have K60 := Lib.hid (f60_any A n c b w hs)
  cases hf : fullB b
  · rw [hf] at K60
    have HE : Hid (trN b = 0 ∧ trE b = 2) := by unfold trN trE; rw [hf]; exact ⟨rfl, rfl⟩
    clear hs hf
    go_enter Tryd.func30, Tryd.ntmps30
    go_wp2_with fail
    refine K60.out.mono ?_
    rintro e w1 ⟨rfl, hb⟩
    have HB := Lib.hid hb
    clear hb
    go_wp2
    go_ret2
    exact ⟨by rw [HE.out.1, HE.out.2]; rfl, HB.out⟩
  · rw [hf] at K60
    obtain ⟨hn1, hn7, hfull⟩ := fullB_iff.1 hf
    have hl := hs.len
    rw [hl] at hn1 hn7 hfull
    have HE : Hid (trN b = ((trans b n).length : Int) ∧ trE b = 0) := by unfold trN trE; rw [hf, hl]; exact ⟨rfl, rfl⟩
    have HS := Lib.hid hs
    have HF := Lib.hid hfull
    have HL := Lib.hid hl
    have hmf : ∀ (fn : Fn) (first cap : Array Value) (w : World), (Instr.makeFunc fn first cap).run Tryd.prog w = .ok (.func fn first cap) w := fun _ _ _ _ => rfl
    clear hs hf hfull hl
    go_enter Tryd.func30, Tryd.ntmps30
    go_wp2_with fail
    refine K60.out.mono ?_
    rintro e w1 ⟨rfl, hb⟩
    have HB := Lib.hid hb
    have hz : w.heap.size ≤ w1.heap.size := hb.size
    have B2 : Hid (Below w.heap.size w (w1.alloc (.cells #[.int .i64 0] 3))) := hb.alloc hz _
    have I2 : Hid (Own (w1.alloc (.cells #[.int .i64 0] 3)) w1.heap.size [((0 : Nat) : Int)]) := heap_alloc_new w1 _
    have K61 := Lib.hid (f61_any n w.heap.size 76 #[.pointer (some ⟨w1.heap.size, 0, none⟩)] false (fun _ i => i = w1.heap.size) (fun done w => Own w w1.heap.size [(done.length : Int)]) (visit76 n w.heap.size w1.heap.size hz) b w A c (w1.alloc (.cells #[.int .i64 0] 3)) HF.out HS.out rfl B2.out hn7 I2.out)
    have hsz : w.heap.size ≤ (w1.alloc (.cells #[.int .i64 0] 3)).heap.size := B2.out.size
    clear hb K60
    go_wp2_with fail
    refine K61.out.mono ?_
    rintro e w3 ⟨rfl, h1, h2⟩
    have B3 : Hid (Below w.heap.size w w3) := h2.below B2.out hsz (fun i hi => by subst hi; exact hz)
    have hcc := Own.cell h1 0 (by simp)
    have HV : Hid (vis false (trans b n) = trans b n) := rfl
    rw [HV.out] at hcc
    have hcc : w3.cell? ⟨w1.heap.size, 0, none⟩ = some (.int .i64 ((trans b n).length : Int)) := hcc
    generalize (trans b n).length = T at *
    clear h1 h2 K61
    go_wp2
    go_ret2
    exact ⟨by rw [HE.out.1, HE.out.2]; rfl, B3.out⟩
end Go.Proofs.YtiodednhadnekaaDoor

namespace Go.Proofs.YtiodednhadnekaaDoor
open Go.RowKit

set_option maxHeartbeats 2000000 in
/-- math/bits.Mul64: 1 times a small number -/
theorem f107_one (n : Nat) (h1 : 1 ≤ n) (hn : n ≤ 7) (w : World) : Calls Tryd.prog 107 #[.int .u64 1, .int .u64 (n : Int)] w fun e w' => e = .returned (.tuple #[.int .u64 0, .int .u64 (n : Int)]) ∧ w = w' := by
  have h : n = 1 ∨ n = 2 ∨ n = 3 ∨ n = 4 ∨ n = 5 ∨ n = 6 ∨ n = 7 := by omega
  rcases h with rfl | rfl | rfl | rfl | rfl | rfl | rfl
  all_goals
    go_enter Tryd.func107, Tryd.ntmps107
    go_wp2
    go_ret2
    exact ⟨by rfl, rfl⟩
/-- math/bits.Mul: 1 times a small number -/
theorem f95_one (n : Nat) (h1 : 1 ≤ n) (hn : n ≤ 7) (w : World) : Calls Tryd.prog 95 #[.int .u64 1, .int .u64 (n : Int)] w fun e w' => e = .returned (.tuple #[.int .u64 0, .int .u64 (n : Int)]) ∧ w = w' := by
  have K := Lib.hid (f107_one n h1 hn w)
  go_enter Tryd.func95, Tryd.ntmps95
  go_wp2_with fail
  refine K.out.mono ?_
  rintro e w1 ⟨rfl, rfl⟩
  go_wp2
  go_ret2
  exact ⟨rfl, rfl⟩
/-- c times a number, and 0 behind. -/
def ones (y : Int) (c n : Nat) : List Value := List.replicate c (.int .i64 y) ++ List.replicate (n - c) (.int .i64 0)
theorem ones_len {y : Int} {c n : Nat} (_h : c ≤ n) : (ones y c n).length = n := by simp [ones]; omega
theorem ones_zero (y : Int) (n : Nat) : ones y 0 n = (List.replicate n (0 : Int)).map (Value.int .i64) := by simp [ones]
theorem ones_all (y : Int) (n : Nat) : ones y n n = (List.replicate n y).map (Value.int .i64) := by simp [ones]
theorem ones_splice {y : Int} {c m n : Nat} (_h : c + m ≤ n) : splice (ones y c n) c (List.replicate m (.int .i64 y)) = ones y (c + m) n := by
  unfold splice ones
  have e1 : (List.replicate c (Value.int .i64 y) ++ List.replicate (n - c) (Value.int .i64 0)).take c = List.replicate c (Value.int .i64 y) := by
    rw [List.take_append_of_le_length (by simp)]; simp
  have e2 : (List.replicate c (Value.int .i64 y) ++ List.replicate (n - c) (Value.int .i64 0)).drop (c + (List.replicate m (Value.int .i64 y)).length) = List.replicate (n - (c + m)) (Value.int .i64 0) := by
    rw [List.drop_append]
    simp
    first | done | omega | (congr 1; omega)
  rw [e1, e2, ← List.append_assoc, List.replicate_append_replicate]
theorem ones_get {y : Int} {c n j : Nat} (h : j < c) : (ones y c n)[j]? = some (.int .i64 y) := by
  unfold ones
  rw [List.getElem?_append_left (by simp; exact h)]
  simp [h]
set_option maxRecDepth 100000 in
set_option maxHeartbeats 4000000 in
/-- slices.Repeat of one number -/
theorem f63_one (h n : Nat) (y : Int) (hn1 : 1 ≤ n) (hn : n ≤ 7) (w : World) (hc : w.cell? ⟨h, 0, none⟩ = some (.int .i64 y)) :
    Calls Tryd.prog 63 #[.slice (some ⟨h, 0, none⟩) 1 1, .int .i64 (n : Int)] w fun e w' => ∃ g, e = .returned (.slice (some ⟨g, 0, none⟩) n n) ∧ Own w' g (List.replicate n y) ∧ w.heap.size ≤ g ∧ Below w.heap.size w w' := by
  have k84 := Lib.hid (f95_one n hn1 (by omega) w)
  have hmk := make_ints n (by omega) w
  obtain ⟨w2, hw2⟩ : ∃ w2, w2 = w.alloc (.cells ((List.replicate n (0 : Int)).map (Value.int .i64)).toArray 3) := ⟨_, rfl⟩
  rw [← hw2] at hmk
  have B2 : Hid (Below w.heap.size w w2) := by rw [hw2]; exact below_alloc _ _
  have R2 : Hid (w2.heap[w.heap.size]? = some (.cells (ones y 0 n).toArray 3 (0, 0))) := by rw [hw2, ones_zero]; exact heap_alloc_new w _
  have hc2 := (B2.out.cell (lt_of_cell hc)).trans hc
  have HC2 := Lib.hid hc2
  have hu1 : IntKind.u64.wrap (n : Int) = (n : Int) := by rw [IntKind.wrap_u64]; omega
  have hu2 : IntKind.i64.wrap (n : Int) = (n : Int) := IntWalk.i64_in _ (by omega)
  clear hw2 hc hc2
  go_enter Tryd.func63, Tryd.ntmps63
  go_wp2_with fail
  refine k84.out.mono ?_
  rintro e w1 ⟨rfl, rfl⟩
  go_wp2_with (refine wpList_copy_splice rfl (.tmp 31) (.tmp 32) 29 29 rfl 3 Tryd.underlying29 (by kernel_rfl) _ _ _ _ _ _ rfl rfl w.heap.size 0 (ones y 0 n) 3 R2.out (List.replicate 1 (.int .i64 y)) (by simp [Nat.min_def]; omega) (fun _ => ⟨rfl, _, rfl, fun j v hj => by
    have hj0 : j = 0 := by
      rcases Nat.eq_zero_or_pos j with h | h
      · exact h
      · rw [List.getElem?_eq_none (by simp; omega)] at hj; cases hj
    subst hj0
    simp at hj
    rw [← hj]
    exact HC2.out⟩) (by rw [ones_len (by omega)]; simp; omega) (fun v hv => by rw [List.mem_replicate] at hv; rw [hv.2]; rfl) w.heap.size w B2.out (Nat.le_refl _) ?_; intro w3 hr3 hb3)
  have R3 : Hid (w3.heap[w.heap.size]? = some (.cells (ones y 1 n).toArray 3 (0, 0))) := by
    have h2 := hr3.out
    rw [ones_splice (y := y) (c := 0) (m := 1) (by omega)] at h2
    exact h2
  have B3 := Lib.hid hb3
  clear hr3 hb3 R2 B2 HC2
  go_loopw [8] (fun c wr => ∃ q : Nat, 1 ≤ q ∧ q ≤ n ∧ c = .int .i64 (q : Int) ∧ Hid (wr.heap[w.heap.size]? = some (.cells (ones y q n).toArray 3 (0, 0))) ∧ Below w.heap.size w wr) (fun c _ => n - (intOf c).toNat)
  case atStart => exact ⟨1, by omega, by omega, rfl, R3, B3.out⟩
  case round => as_aux_lemma =>
    obtain ⟨q, hq1, hq, rfl, hR, hbel⟩ := hrel
    have HB := Lib.hid hbel
    by_cases hlt : q < n
    · obtain ⟨m, hm⟩ : ∃ m, m = Nat.min q (n - q) := ⟨_, rfl⟩
      have hm2 : m ≤ q ∧ m ≤ n - q ∧ 1 ≤ m := by
        have e : Nat.min q (n - q) = min q (n - q) := rfl
        rw [hm, e]; omega
      have HM := Lib.hid hm
      obtain ⟨m3, m4, m5⟩ := hm2
      have hsrc : Hid (∀ (W : World), W.heap = wr.heap → ∀ j v, (List.replicate m (Value.int .i64 y))[j]? = some v → W.cell? ((⟨w.heap.size, 0, none⟩ : Addr).add j) = some v) := fun W hW j v hj => by
        have hjm : j < m := by
          rcases Nat.lt_or_ge j m with h | h
          · exact h
          · rw [List.getElem?_eq_none (by simp; omega)] at hj; cases hj
        have hv : v = .int .i64 y := by simp [hjm] at hj; exact hj.symm
        rw [Go.WideShapes.add_plain, Nat.zero_add, cell_of_row W w.heap.size j _ 3 (0, 0) (by rw [hW]; exact hR.out), hv]
        simp [ones_get (show j < q by omega)]
      have hfit : Hid (q + (List.replicate m (Value.int .i64 y)).length ≤ (ones y q n).length) := by rw [ones_len hq, List.length_replicate]; unfold Hid; omega
      have h1c : Hid (∀ v ∈ List.replicate m (Value.int .i64 y), v.oneCell' = true) := fun v hv => by rw [List.mem_replicate] at hv; rw [hv.2]; rfl
      have hspl := Lib.hid (ones_splice (y := y) (c := q) (m := m) (n := n) (by omega))
      have hlenm : Hid ((List.replicate m (Value.int .i64 y)).length = m) := List.length_replicate
      have hgi : goInt (List.replicate m (Value.int .i64 y)).length = .int .i64 (m : Int) := by rw [List.length_replicate]; rfl
      have hwq : IntKind.i64.wrap ((q : Int) + (m : Int)) = ((q + m : Nat) : Int) := by rw [IntWalk.i64_in _ (by omega)]; simp
      have q0 : (0 : Int) ≤ (q : Int) := by omega
      have qn : (q : Int) ≤ (n : Int) := by omega
      have hne : ¬ (n = q) := by omega
      have hne2 : ¬ (q = n) := by omega
      clear hm hbel
      go_wp2_with fail
      go_region_held3 (fun _ => True) (trivial)
        ((refine step_copy_splice (by rfl) _ _ _ _ (by rfl) 3 Tryd.underlying29 (by kernel_rfl) _ _ _ _ _ _ (by rfl) (by rfl) w.heap.size q (ones y q n) 3 (by exact hR.out) (List.replicate m (.int .i64 y)) (by rw [hlenm.out]; exact HM.out) (fun _ => ⟨by rfl, _, by rfl, hsrc.out _ (by rfl)⟩) hfit.out h1c.out w.heap.size w (by first | exact HB.out | exact HB.out.drew) (Nat.le_refl _) ?_; intro w4 hr4 hb4))
      have HR4 : Hid (w4.heap[w.heap.size]? = some (.cells (ones y (q + m) n).toArray 3 (0, 0))) := by
        have h2 := hr4.out
        rw [hspl.out] at h2
        exact h2
      have HB4 := Lib.hid hb4
      clear hr4 hb4
      go_wp2
      go_roundw
      case rel => exact ⟨q + m, by omega, by omega, by go_num, HR4, HB4.out⟩
      case measure => simp [intOf]; omega
    · obtain rfl : q = n := by omega
      have hO : Hid (Own wr w.heap.size (List.replicate q y)) := by
        unfold Own
        rw [hR.out, ones_all]
        exact rfl
      clear hbel
      go_wp2
      go_ret
      exact ⟨w.heap.size, rfl, hO.out, Nat.le_refl _, HB.out⟩
end Go.Proofs.YtiodednhadnekaaDoor

namespace Go.Proofs.YtiodednhadnekaaDoor
open Go.RowKit Go.Deep

/-- cmp.isNaN at int -/
theorem f108_any (x : Int) (w : World) : Calls Tryd.prog 108 #[.int .i64 x] w fun e w' => e = .returned (.bool false) ∧ w = w' := by
  go_enter Tryd.func108, Tryd.ntmps108
  go_wp2
  go_ret
  simp
def cmp3 (x y : Int) : Int := if x < y then -1 else if y < x then 1 else 0
/-- cmp.Compare at int -/
theorem f96_any (x y : Int) (w : World) : Calls Tryd.prog 96 #[.int .i64 x, .int .i64 y] w fun e w' => e = .returned (.int .i64 (cmp3 x y)) ∧ w = w' := by
  by_cases h1 : x < y
  · have e : Hid (cmp3 x y = -1) := by unfold cmp3; rw [if_pos h1]; rfl
    go_enter Tryd.func96, Tryd.ntmps96
    go_wp2_with (go_at_call 108; refine (f108_any _ _).mono ?_; rintro e w' ⟨rfl, rfl⟩)
    go_ret
    exact ⟨ret_int e.out.symm, rfl⟩
  by_cases h2 : y < x
  · have e : Hid (cmp3 x y = 1) := by unfold cmp3; rw [if_neg h1, if_pos h2]; rfl
    go_enter Tryd.func96, Tryd.ntmps96
    go_wp2_with (go_at_call 108; refine (f108_any _ _).mono ?_; rintro e w' ⟨rfl, rfl⟩)
    go_ret
    exact ⟨ret_int e.out.symm, rfl⟩
  · have e : Hid (cmp3 x y = 0) := by unfold cmp3; rw [if_neg h1, if_neg h2]; rfl
    go_enter Tryd.func96, Tryd.ntmps96
    go_wp2_with (go_at_call 108; refine (f108_any _ _).mono ?_; rintro e w' ⟨rfl, rfl⟩)
    go_ret
    exact ⟨ret_int e.out.symm, rfl⟩
/-- The lexicographic comparison. -/
def cmpBy {α : Type} (f : α → α → Int) : List α → List α → Int
  | [], [] => 0
  | [], _ :: _ => -1
  | _ :: _, [] => 1
  | x :: a, y :: b => if f x y = 0 then cmpBy f a b else f x y
theorem cmpBy_at {α : Type} {f : α → α → Int} {a b : List α} (d : α) {k : Nat} (ha : k < a.length) (hb : k < b.length) : cmpBy f (a.drop k) (b.drop k) = if f (a.getD k d) (b.getD k d) = 0 then cmpBy f (a.drop (k + 1)) (b.drop (k + 1)) else f (a.getD k d) (b.getD k d) := by
  rw [List.drop_eq_getElem_cons ha, List.drop_eq_getElem_cons hb]
  simp [cmpBy, List.getD_eq_getElem?_getD, ha, hb]
def cmpL (a b : List Int) : Int := cmpBy cmp3 a b
def cmpG (a b : List (List Int)) : Int := cmpBy cmpL a b
set_option maxRecDepth 100000 in
set_option maxHeartbeats 1000000 in
/-- slices.Compare at ints -/
theorem f67_any (A B : Option Addr) (n c d : Nat) (xs ys : List Int) (w : World) (hs : Ints w A n xs) (ho : Ints w B n ys) :
    Calls Tryd.prog 67 #[.slice A n c, .slice B n d] w fun e w' => e = .returned (.int .i64 (cmpL xs ys)) ∧ w = w' := by
  have hsm := hs.small
  have HL := Lib.hid hs.len
  have HL2 := Lib.hid ho.len
  have HS := Lib.hid hs
  have HO := Lib.hid ho
  clear hs ho
  go_enter Tryd.func67, Tryd.ntmps67
  go_wp2
  go_loop [11] (fun i => ∃ k : Nat, k ≤ n ∧ i = .int .i64 (k : Int) ∧ Hid (cmpL xs ys = cmpBy cmp3 (xs.drop k) (ys.drop k))) (fun i => n - (intOf i).toNat)
  case atStart => exact ⟨0, by omega, rfl, rfl⟩
  case round => as_aux_lemma =>
    obtain ⟨k, hk, rfl, hin⟩ := hrel
    by_cases hlt : k < n
    · obtain ⟨b1, o1, rfl, hc1⟩ := HS.out.at_ hlt
      obtain ⟨b2, o2, rfl, hc2⟩ := HO.out.at_ hlt
      have HAT := Lib.hid (cmpBy_at (f := cmp3) (a := xs) (b := ys) 0 (k := k) (by rw [HL.out]; exact hlt) (by rw [HL2.out]; exact hlt))
      have K96 := Lib.hid (f96_any (xs.getD k 0) (ys.getD k 0) w)
      generalize cmp3 (xs.getD k 0) (ys.getD k 0) = z at *
      generalize xs.getD k 0 = x at *
      generalize ys.getD k 0 = y at *
      by_cases hz : z = 0
      · have HN : Hid (cmpL xs ys = cmpBy cmp3 (xs.drop (k + 1)) (ys.drop (k + 1))) := by rw [hin.out, HAT.out, if_pos hz]; rfl
        have hq : (z != 0) = false := by simpa using hz
        clear hz hin
        go_wp2_with fail
        refine K96.out.mono ?_
        rintro e w' ⟨rfl, rfl⟩
        go_wp2
        go_round
        case rel => exact ⟨k + 1, by omega, by go_num, HN.out⟩
        case measure => simp [intOf]; omega
      · have HN : Hid (cmpL xs ys = z) := by rw [hin.out, HAT.out, if_neg hz]; rfl
        have hq : (z != 0) = true := by simpa using hz
        clear hz hin
        go_wp2_with fail
        refine K96.out.mono ?_
        rintro e w' ⟨rfl, rfl⟩
        go_wp2
        go_ret
        exact ⟨ret_int HN.out.symm, rfl⟩
    · obtain rfl : k = n := by omega
      have HN : Hid (cmpL xs ys = 0) := by
        rw [hin.out, List.drop_of_length_le (by rw [HL.out]; omega), List.drop_of_length_le (by rw [HL2.out]; omega)]; rfl
      clear hin
      go_wp2
      go_ret
      exact ⟨ret_int HN.out.symm, rfl⟩
theorem enter66 (args : Array Value) (w : World) : (callFunc 66 args).run Tryd.prog w = .ok (.enter 66 args) w := by simp [go_sem]
/-- bed.Mate$2$1 -/
theorem f66_any (A B : Option Addr) (n c d : Nat) (xs ys : List Int) (w : World) (hs : Ints w A n xs) (ho : Ints w B n ys) :
    Calls Tryd.prog 66 #[.slice A n c, .slice B n d] w fun e w' => e = .returned (.int .i64 (cmpL xs ys)) ∧ w = w' := by
  have K := Lib.hid (f67_any A B n c d xs ys w hs ho)
  generalize cmpL xs ys = z at *
  clear hs ho
  go_enter Tryd.func66, Tryd.ntmps66
  go_wp2_with fail
  refine K.out.mono ?_
  rintro e w' ⟨rfl, rfl⟩
  go_wp2
  go_ret
  exact ⟨rfl, rfl⟩
set_option maxRecDepth 100000 in
set_option maxHeartbeats 1000000 in
/-- slices.CompareFunc at beds -/
theorem f65_any (A B : Option Addr) (n m c d : Nat) (xs ys : List (List Int)) (w : World) (hs : Beds w A n c xs) (ho : Beds w B n d ys) (h1 : ∀ i, i < n → (xs.getD i []).length = m) (h2 : ∀ i, i < n → (ys.getD i []).length = m) :
    Calls Tryd.prog 65 #[.slice A n c, .slice B n d, .func (.func 66) #[] #[]] w fun e w' => e = .returned (.int .i64 (cmpG xs ys)) ∧ w = w' := by
  have hsm := hs.small
  have HL := Lib.hid hs.len
  have HL2 := Lib.hid ho.len
  have HS := Lib.hid hs
  have HO := Lib.hid ho
  have H1 := Lib.hid h1
  have H2 := Lib.hid h2
  have hen := enter66
  clear hs ho h1 h2
  go_enter Tryd.func65, Tryd.ntmps65
  go_wp2
  go_loop [13] (fun i => ∃ k : Nat, k ≤ n ∧ i = .int .i64 (k : Int) ∧ Hid (cmpG xs ys = cmpBy cmpL (xs.drop k) (ys.drop k))) (fun i => n - (intOf i).toNat)
  case atStart => exact ⟨0, by omega, rfl, rfl⟩
  case round => as_aux_lemma =>
    obtain ⟨k, hk, rfl, hin⟩ := hrel
    by_cases hlt : k < n
    · obtain ⟨b1, o1, rfl, B1, d1, hc1, _, _, hi1⟩ := HS.out.at_ hlt
      obtain ⟨b2, o2, rfl, B2, d2, hc2, _, _, hi2⟩ := HO.out.at_ hlt
      rw [H1.out k hlt] at hc1 hi1
      rw [H2.out k hlt] at hc2 hi2
      have HAT := Lib.hid (cmpBy_at (f := cmpL) (a := xs) (b := ys) [] (k := k) (by rw [HL.out]; exact hlt) (by rw [HL2.out]; exact hlt))
      have K66 := Lib.hid (f66_any B1 B2 m d1 d2 (xs.getD k []) (ys.getD k []) w hi1 hi2)
      have hms := hi1.small
      generalize cmpL (xs.getD k []) (ys.getD k []) = z at *
      clear hi1 hi2
      by_cases hz : z = 0
      · have HN : Hid (cmpG xs ys = cmpBy cmpL (xs.drop (k + 1)) (ys.drop (k + 1))) := by rw [hin.out, HAT.out, if_pos hz]; rfl
        have hq : (z != 0) = false := by simpa using hz
        clear hz hin
        go_wp2_with fail
        refine K66.out.mono ?_
        rintro e w' ⟨rfl, rfl⟩
        go_wp2
        go_round
        case rel => exact ⟨k + 1, by omega, by go_num, HN.out⟩
        case measure => simp [intOf]; omega
      · have HN : Hid (cmpG xs ys = z) := by rw [hin.out, HAT.out, if_neg hz]; rfl
        have hq : (z != 0) = true := by simpa using hz
        clear hz hin
        go_wp2_with fail
        refine K66.out.mono ?_
        rintro e w' ⟨rfl, rfl⟩
        go_wp2
        go_ret
        exact ⟨ret_int HN.out.symm, rfl⟩
    · obtain rfl : k = n := by omega
      have HN : Hid (cmpG xs ys = 0) := by
        rw [hin.out, List.drop_of_length_le (by rw [HL.out]; omega), List.drop_of_length_le (by rw [HL2.out]; omega)]; rfl
      clear hin
      go_wp2
      go_ret
      exact ⟨ret_int HN.out.symm, rfl⟩
end Go.Proofs.YtiodednhadnekaaDoor

namespace Go.Proofs.YtiodednhadnekaaDoor
open Go.RowKit Go.Deep
attribute [local go_sem ↓] Go.wp_at_zero Go.wp_at_succ

/-- What an append to a row of slices leaves, and where the row lies. -/
theorem step_pushW {w : World} {ops : Array Oper} {o : Oper} {a : Act} {K : Act → World → Prop} {Q : Exit → Act → World → Prop} {E : Prop} (hgd : o.guard = none) (s x : Operand)
    (ho : o.op = .call { callee := .builtin .append, args := #[s, x], argTypes := #[22, 22] })
    (base : Nat) (v : Value) (vs : List Value) (hs : a.eval s = v) (hrow : RowV w base v vs) (g c : Nat) (B : Option Addr) (bn bc : Nat) (hx : a.eval x = .slice (some ⟨g, 0, none⟩) 1 c)
    (hc : w.cell? ⟨g, 0, none⟩ = some (.slice B bn bc)) (hl : vs.length ≤ 1000000) (hb : base ≤ w.heap.size)
    (h : ∀ b' c' w', RowV w' base (.slice (some ⟨b', 0, none⟩) (vs.length + 1) c') (vs ++ [.slice B bn bc]) → w.grownBy w' v.ownBlock → (v.ownBlock = some b' ∨ b' = w.heap.size) → K (a.put o.dst (.slice (some ⟨b', 0, none⟩) (vs.length + 1) c')) w') : if Region.wanted o (yielded ops a.tmps) = true then Oper.wp Tryd.prog o a w K Q else E := by
  have hw : Region.wanted o (yielded ops a.tmps) = true := by simp [Region.wanted, hgd]
  rw [if_pos hw]
  obtain ⟨i0, hi, hz0, hz1, hz2⟩ := info_parts (show (Tryd.prog.info? 29).map (fun i => (i.zero, i.size, i.bytes)) = some (some (.slice none 0 0), 1, 24) from by kernel_rfl)
  refine wp_append_lies w s x 22 ho base 29 i0 (.slice none 0 0) 1 24 Tryd.underlying22 hi hz0 hz1 hz2 rfl (by decide) v vs.length vs hs hrow ⟨g, 0, none⟩ 1 c [.slice B bn bc] hx rfl ?_ ?_ (by omega) ?_ ?_ hb _ rfl ?_
  · intro j u hj
    match j, hj with
    | 0, hj => simp at hj; subst hj; simpa [Addr.add] using hc
  · intro u hu; simp at hu; subst hu; rfl
  · unfold maxLen; omega
  · omega
  · intro g' cap w' h1 h2 h3 _
    exact h _ _ w' (by unfold RowV; simpa using h1) h2 h3
/-- A block of slices of slices that is known whole. -/
def OwnW (w : World) (g : Nat) (us : List Value) : Prop := w.heap[g]? = some (.cells us.toArray 22 (0, 0)) ∧ ∀ v ∈ us, ∃ B n d, v = .slice B n d
section
variable {w w' : World} {g : Nat} {us : List Value}
theorem OwnW.lt (h : OwnW w g us) : g < w.heap.size := by
  rcases Nat.lt_or_ge g w.heap.size with hlt | hge
  · exact hlt
  · have := h.1; rw [Array.getElem?_eq_none hge] at this; cases this
theorem OwnW.cell (h : OwnW w g us) (j : Nat) : w.cell? ⟨g, j, none⟩ = us[j]? := by
  rw [cell_of_row w g j _ 22 (0, 0) h.1]; simp
theorem OwnW.frozen (h : OwnW w g us) (j : Nat) : w.frozen? ⟨g, j, none⟩ = false := by
  have := h.1
  simp [World.frozen?, this]
theorem OwnW.below (h : OwnW w g us) (hb : Below w.heap.size w w') : OwnW w' g us := ⟨(hb.block g h.lt).trans h.1, h.2⟩
theorem OwnW.set_ (h : OwnW w g us) (j : Nat) {v : Value} (hv : ∃ B n d, v = .slice B n d) : OwnW (w.setCell ⟨g, j, none⟩ v) g (us.set j v) := by
  refine ⟨?_, fun u hu => ?_⟩
  · have := h.1
    simp [World.setCell, Array.getElem?_modify, this]
  · rcases List.mem_or_eq_of_mem_set hu with h1 | h1
    · exact h.2 u h1
    · rw [h1]; exact hv
theorem OwnW.made (w : World) (n : Nat) : OwnW (w.alloc (.cells (List.replicate n (Value.slice none 0 0)).toArray 22)) w.heap.size (List.replicate n (Value.slice none 0 0)) :=
  ⟨heap_alloc_new w _, fun v hv => by rw [List.mem_replicate] at hv; exact ⟨none, 0, 0, hv.2⟩⟩
theorem OwnW.intNe (h : OwnW w g us) {b i : Nat} {x : Int} (hc : w.cell? ⟨b, i, none⟩ = some (.int .i64 x)) : g ≠ b := by
  rintro rfl
  rw [h.cell] at hc
  obtain ⟨B, n, d, e⟩ := h.2 _ (List.mem_of_getElem? hc)
  cases e
/-- A row of slices lies in no block of slices of slices. -/
theorem OwnW.rowNe (h : OwnW w g us) {base : Nat} {v : Value} {vs : List Value} (hr : RowV w base v vs) : v.ownBlock ≠ some g := by
  rcases hr.2 with ⟨e, hn⟩ | ⟨g', cap, cur, e, hb, hh, _⟩
  · rw [e]; simp [Value.ownBlock]
  · rw [e]
    intro he
    have hg : g' = g := by simp [Value.ownBlock] at he; omega
    subst hg
    have := h.1
    rw [hh] at this
    injection this with this
    injection this with _ this
    exact absurd this (by decide)
end
/-- The blocks of the sets. -/
def SOwn (gS : Nat) (w : World) (i : Nat) : Prop := i = gS ∨ ∃ (j : Nat) (u : Value), w.cell? ⟨gS, j, none⟩ = some u ∧ u.ownBlock = some i
def byCol (done : List (List Nat)) (j : Nat) : List (List Nat) := done.filter fun l => l.getD 0 0 == j
theorem byCol_app (done : List (List Nat)) (l : List Nat) (j : Nat) : byCol (done ++ [l]) j = if l.getD 0 0 = j then byCol done j ++ [l] else byCol done j := by
  unfold byCol
  rw [List.filter_append]
  by_cases e : l.getD 0 0 = j
  · have e2 : (l.getD 0 0 == j) = true := beq_iff_eq.2 e
    rw [if_pos e, List.filter_cons, if_pos e2, List.filter_nil]
  · have e2 : ¬ (l.getD 0 0 == j) = true := fun h => e (beq_iff_eq.1 h)
    rw [if_neg e, List.filter_cons, if_neg e2, List.filter_nil, List.append_nil]
/-- A row of the sets: the slices vs read as the lists L. -/
def SRow (gS base : Nat) (w : World) (u : Value) (L : List (List Nat)) : Prop := ∃ vs, RowV w base u vs ∧ vs.length = L.length ∧ ∀ (i : Nat) (v : Value), vs[i]? = some v → ∃ A c, v = .slice A (L.getD i []).length c ∧ IntsN (SOwn gS) w A (L.getD i [])
/-- The transversals that were visited lie in the sets. -/
def SetsI (n base pS gS : Nat) (done : List (List Nat)) (w : World) : Prop :=
  ∃ us, OwnW w gS us ∧ us.length = n ∧ base ≤ gS ∧ w.cell? ⟨pS, 0, none⟩ = some (.slice (some ⟨gS, 0, none⟩) n n) ∧ ¬ SOwn gS w pS ∧ (∀ l ∈ done, l.length = n) ∧ (∀ (j : Nat) (u : Value), us[j]? = some u → SRow gS base w u (byCol done j)) ∧ ∀ (i j : Nat) (u v : Value), i ≠ j → us[i]? = some u → us[j]? = some v → Apart u v
theorem SOwn.below {gS : Nat} {w w' : World} (hg : gS < w.heap.size) (hb : Below w.heap.size w w') {i : Nat} (h : SOwn gS w' i) : SOwn gS w i := by
  rcases h with h | ⟨j, u, h1, h2⟩
  · exact .inl h
  · exact .inr ⟨j, u, by rw [← h1]; exact (hb.cell (p := ⟨gS, j, none⟩) hg).symm, h2⟩
theorem SetsI.lt {n base pS gS : Nat} {done : List (List Nat)} {w : World} (h : SetsI n base pS gS done w) {i : Nat} (hi : SOwn gS w i) : base ≤ i ∧ i < w.heap.size := by
  obtain ⟨us, h1, h2, h3, h4, h5, h6, h7, h8⟩ := h
  rcases hi with rfl | ⟨j, u, hu, hb⟩
  · exact ⟨h3, h1.lt⟩
  · rw [h1.cell] at hu
    obtain ⟨vs, hr, _⟩ := h7 j u hu
    exact World.ownsRow.lt hr i hb
theorem byCol_mem {done : List (List Nat)} {j i : Nat} (hi : i < (byCol done j).length) : (byCol done j).getD i [] ∈ done := by
  rw [List.getD_eq_getElem?_getD, List.getElem?_eq_getElem hi, Option.getD_some]
  exact (List.mem_filter.1 (List.getElem_mem hi)).1
theorem SRow.kept {gS base n : Nat} {w w' : World} {u : Value} {L : List (List Nat)} (h : SRow gS base w u L) (hn : 0 < n) (hl : ∀ i, i < L.length → (L.getD i []).length = n) (hr : ∀ vs, RowV w base u vs → RowV w' base u vs) (k : Kept (SOwn gS) w w') : SRow gS base w' u L := by
  obtain ⟨vs, h1, h2, h3⟩ := h
  refine ⟨vs, hr vs h1, h2, fun i v hv => ?_⟩
  obtain ⟨A, c, e, hi⟩ := h3 i v hv
  have hiv : i < vs.length := by
    rcases Nat.lt_or_ge i vs.length with h | h
    · exact h
    · rw [List.getElem?_eq_none h] at hv; cases hv
  exact ⟨A, c, e, hi.kept k (by rw [hl i (by omega)]; exact hn)⟩
theorem SetsI.keep {n base pS gS : Nat} {done : List (List Nat)} {w w' : World} (hn : 0 < n) (h : SetsI n base pS gS done w) (hb : Below w.heap.size w w') : SetsI n base pS gS done w' ∧ ∀ i, SOwn gS w' i → SOwn gS w i := by
  obtain ⟨us, h1, h2, h3, h4, h5, h6, h7, h8⟩ := h
  have ho : ∀ i, SOwn gS w' i → SOwn gS w i := fun i hi => hi.below h1.lt hb
  have k : Kept (SOwn gS) w w' := ⟨hb.os, hb.tape, hb.output, hb.size, fun i hi _ => hb.block i hi, fun i _ h => ho i h⟩
  exact ⟨⟨us, h1.below hb, h2, h3, (hb.cell (lt_of_cell h4)).trans h4, fun h => h5 (ho _ h), h6, fun j u hu => (h7 j u hu).kept hn (fun i hi => h6 _ (byCol_mem hi)) (fun vs hr => hr.below hb) k, h8⟩, ho⟩
theorem SetsI.at_ {n base pS gS j : Nat} {done : List (List Nat)} {w : World} (h : SetsI n base pS gS done w) (hj : j < n) : ∃ B m c vs, w.cell? ⟨gS, j, none⟩ = some (.slice B m c) ∧ w.frozen? ⟨gS, j, none⟩ = false ∧ RowV w base (.slice B m c) vs ∧ vs.length = m ∧ m = (byCol done j).length := by
  obtain ⟨us, h1, h2, h3, h4, h5, h6, h7, h8⟩ := h
  have hl : j < us.length := by omega
  obtain ⟨B, m, c, e⟩ := h1.2 _ (List.getElem_mem hl)
  have hu : us[j]? = some (.slice B m c) := by rw [List.getElem?_eq_getElem hl, e]
  obtain ⟨vs, hr, hvl, _⟩ := h7 j _ hu
  obtain ⟨A', c', e', _⟩ := hr.form
  injection e' with _ e2 _
  exact ⟨B, m, c, vs, by rw [h1.cell]; exact hu, h1.frozen j, hr, e2.symm, by omega⟩
theorem SetsI.push {n base pS gS j b' c' : Nat} {done : List (List Nat)} {w w1 w' : World} {B : Option Addr} {m c : Nat} {vs : List Value} {A : Option Addr} {ca : Nat} {l : List Nat} (hn : 0 < n) (h : SetsI n base pS gS done w) (hj : j < n) (hl : l.length = n) (hl0 : l.getD 0 0 = j) (hli : IntsN (SOwn gS) w A l)
    (hc : w.cell? ⟨gS, j, none⟩ = some (.slice B m c)) (hvs : RowV w base (.slice B m c) vs) (hb : Below w.heap.size w w1) (hg : w1.grownBy w' (Value.ownBlock (.slice B m c))) (hrow : RowV w' base (.slice (some ⟨b', 0, none⟩) (vs.length + 1) c') (vs ++ [.slice A n ca])) (hbl : Value.ownBlock (.slice B m c) = some b' ∨ b' = w1.heap.size) :
    SetsI n base pS gS (done ++ [l]) (w'.setCell ⟨gS, j, none⟩ (.slice (some ⟨b', 0, none⟩) (vs.length + 1) c')) ∧ Kept (SOwn gS) w (w'.setCell ⟨gS, j, none⟩ (.slice (some ⟨b', 0, none⟩) (vs.length + 1) c')) := by
  have hI := h
  obtain ⟨us, h1, h2, h3, h4, h5, h6, h7, h8⟩ := h
  have hjl : j < us.length := by omega
  have huj : us[j]? = some (.slice B m c) := by rw [← h1.cell]; exact hc
  have hrj := h7 j _ huj
  have hne : some gS ≠ Value.ownBlock (.slice B m c) := fun e => h1.rowNe hvs e.symm
  have h1' : OwnW w' gS us := ⟨(hg.block gS (Nat.lt_of_lt_of_le h1.lt hb.size) hne).trans (h1.below hb).1, h1.2⟩
  obtain ⟨w2, hw2⟩ : ∃ z, z = w'.setCell ⟨gS, j, none⟩ (.slice (some ⟨b', 0, none⟩) (vs.length + 1) c') := ⟨_, rfl⟩
  have h1'' : OwnW w2 gS (us.set j (.slice (some ⟨b', 0, none⟩) (vs.length + 1) c')) := by rw [hw2]; exact h1'.set_ j ⟨_, _, _, rfl⟩
  have hfar : ∀ i, i ≠ gS → w2.heap[i]? = w'.heap[i]? := fun i hi => by rw [hw2]; exact Below.heap_setCell w' ⟨gS, j, none⟩ _ i hi
  have hown : ∀ i, SOwn gS w2 i → SOwn gS w i ∨ w.heap.size ≤ i := fun i hi => by
    rcases hi with rfl | ⟨k, u, hu, hbk⟩
    · exact .inl (.inl rfl)
    · rw [h1''.cell] at hu
      by_cases e : k = j
      · subst e
        rw [List.getElem?_set_self hjl] at hu
        injection hu with hu
        subst hu
        have hbi : b' = i := by simpa [Value.ownBlock] using hbk
        subst hbi
        rcases hbl with hbl | hbl
        · exact .inl (.inr ⟨k, _, hc, hbl⟩)
        · right; rw [hbl]; exact hb.size
      · rw [List.getElem?_set_ne (fun h => e h.symm)] at hu
        exact .inl (.inr ⟨k, u, by rw [h1.cell]; exact hu, hbk⟩)
  have k : Kept (SOwn gS) w w2 := by
    refine ⟨?_, ?_, ?_, ?_, fun i hi hn => ?_, fun i hi ho => ?_⟩
    · rw [hw2]; exact hg.os.trans hb.os
    · rw [hw2]; exact hg.tape.trans hb.tape
    · rw [hw2]; exact hg.output.trans hb.output
    · rw [hw2]; exact Nat.le_trans (Nat.le_trans hb.size hg.size) (by simp [World.setCell])
    · have e1 : i ≠ gS := fun e => hn (.inl e)
      have e2 : some i ≠ Value.ownBlock (.slice B m c) := fun e => hn (.inr ⟨j, _, hc, e.symm⟩)
      rw [hfar i e1, hg.block i (Nat.lt_of_lt_of_le hi hb.size) e2]
      exact hb.block i hi
    · rcases hown i ho with h | h
      · exact h
      · omega
  rw [← hw2]
  refine ⟨⟨us.set j (.slice (some ⟨b', 0, none⟩) (vs.length + 1) c'), h1'', by rw [List.length_set]; exact h2, h3, ?_, ?_, ?_, ?_, ?_⟩, k⟩
  · exact (World.cell?_of_block (k.block pS (lt_of_cell h4) h5)).trans h4
  · intro ho
    rcases hown pS ho with h | h
    · exact h5 h
    · have : pS < w.heap.size := lt_of_cell h4
      omega
  · intro l' hl'
    rcases List.mem_append.1 hl' with h | h
    · exact h6 l' h
    · rw [List.mem_singleton] at h; rw [h]; exact hl
  · intro i u hu
    by_cases e : i = j
    · subst e
      rw [List.getElem?_set_self hjl] at hu
      injection hu with hu
      subst hu
      rw [byCol_app, if_pos hl0]
      obtain ⟨vs2, hr2, hvl2, hent⟩ := hrj
      have hvv : vs2 = vs := by
        have e1 := hr2.form
        have e2 := hvs.form
        obtain ⟨A1, c1, e3, f1⟩ := e1
        obtain ⟨A2, c2, e4, f2⟩ := e2
        have e5 : vs2.length = vs.length := by rw [e3] at e4; injection e4
        apply List.ext_getElem? 
        intro q
        rcases Nat.lt_or_ge q vs.length with hq | hq
        · obtain ⟨g1, eg1, fg1⟩ := f1 (by omega)
          obtain ⟨g2, eg2, fg2⟩ := f2 (by omega)
          rw [e3] at e4
          injection e4 with e6 _ _
          rw [eg1, eg2] at e6
          injection e6 with e6
          injection e6 with e7 _
          rw [← fg1 q (by omega), ← fg2 q hq, e7]
        · rw [List.getElem?_eq_none hq, List.getElem?_eq_none (by omega)]
      subst hvv
      refine ⟨vs2 ++ [.slice A n ca], ?_, by rw [List.length_append, List.length_append, hvl2]; rfl, fun q v hv => ?_⟩
      · rw [hw2]
        have hrow : RowV w' base (.slice (some ⟨b', 0, none⟩) (vs2.length + 1) c') (vs2 ++ [.slice A n ca]) := hrow
        refine World.ownsRow.kept hrow (grown_setC w' ⟨gS, i, none⟩ _) ?_
        right
        exact fun e => h1'.rowNe hrow e
      · rcases Nat.lt_or_ge q vs2.length with hq | hq
        · rw [List.getElem?_append_left hq] at hv
          obtain ⟨A3, c3, e3, hi3⟩ := hent q v hv
          have eg : (byCol done i ++ [l]).getD q [] = (byCol done i).getD q [] := by
            rw [List.getD_eq_getElem?_getD, List.getElem?_append_left (by omega), ← List.getD_eq_getElem?_getD]
          rw [eg]
          exact ⟨A3, c3, e3, hi3.kept k (by rw [h6 _ (byCol_mem (by omega))]; exact hn)⟩
        · have hq2 : q = vs2.length := by
            rcases Nat.lt_or_ge vs2.length q with h | h
            · rw [List.getElem?_eq_none (by simp; omega)] at hv; cases hv
            · omega
          subst hq2
          have hv2 : v = .slice A n ca := by simpa using hv.symm
          have eg : (byCol done i ++ [l]).getD vs2.length [] = l := by rw [hvl2]; simp [List.getD_eq_getElem?_getD]
          rw [eg, hl]
          exact ⟨A, ca, hv2, hli.kept k (by omega)⟩
    · rw [List.getElem?_set_ne (fun h => e h.symm)] at hu
      rw [byCol_app, if_neg (fun h => e (by omega))]
      refine (h7 i u hu).kept hn (fun q hq => h6 _ (byCol_mem hq)) (fun vs3 hr3 => ?_) k
      have ha := h8 i j u _ e hu huj
      have hr4 : RowV w' base u vs3 := World.ownsRow.kept (hr3.below hb) hg (by
        cases hb' : u.ownBlock with
        | none => exact .inl rfl
        | some b2 => exact .inr (fun e2 => ha b2 hb' e2.symm))
      rw [hw2]
      refine World.ownsRow.kept hr4 (grown_setC w' ⟨gS, j, none⟩ _) (.inr fun e => h1'.rowNe hr4 e)
  · have key : ∀ q v0, q ≠ j → us[q]? = some v0 → ∀ b2, v0.ownBlock = some b2 → b2 ≠ b' := fun q v0 hq hv0 b2 hb2 e => by
      rw [e] at hb2
      rcases hbl with hbl | hbl
      · exact h8 q j v0 _ hq hv0 huj b' hb2 hbl
      · obtain ⟨vs3, hr3, _⟩ := h7 q v0 hv0
        have := (World.ownsRow.lt (hr3.below hb) b' hb2).2
        omega
    intro i q u v hiq hu hv
    by_cases e : i = j
    · subst e
      rw [List.getElem?_set_self hjl] at hu
      injection hu with hu
      subst hu
      rw [List.getElem?_set_ne hiq] at hv
      intro b2 hb2 hb3
      have : b' = b2 := by simpa [Value.ownBlock] using hb2
      exact key q v (fun h => hiq h.symm) hv b2 hb3 this.symm
    · rw [List.getElem?_set_ne (fun h => e h.symm)] at hu
      by_cases e2 : q = j
      · subst e2
        rw [List.getElem?_set_self hjl] at hv
        injection hv with hv
        subst hv
        intro b2 hb2 hb3
        have : b' = b2 := by simpa [Value.ownBlock] using hb3
        exact key i u e hu b2 hb2 this.symm
      · rw [List.getElem?_set_ne (fun h => e2 h.symm)] at hv
        exact h8 i q u v hiq hu hv
end Go.Proofs.YtiodednhadnekaaDoor

namespace Go.Proofs.YtiodednhadnekaaDoor
open Go.RowKit Go.Deep
attribute [local go_sem ↓] Go.wp_at_zero Go.wp_at_succ

theorem enter62 (args : Array Value) (w : World) : (callFunc 62 args).run Tryd.prog w = .ok (.enter 62 args) w := by simp [go_sem]
set_option maxRecDepth 100000 in
set_option maxHeartbeats 4000000 in
/-- bed.Mate$1 -/
theorem f62_any (n base pS gS : Nat) (done : List (List Nat)) (A : Option Addr) (ca : Nat) (l : List Nat) (w : World) (hn : 0 < n) (hn7 : n ≤ 7) (hI : SetsI n base pS gS done w) (hd : done.length ≤ 1000000) (hl : l.length = n) (hl0 : l.getD 0 0 < n) (hli : IntsN (SOwn gS) w A l) :
    Calls Tryd.prog 62 #[.slice A n ca, .pointer (some ⟨pS, 0, none⟩)] w fun e w' => e = .returned (.bool false) ∧ SetsI n base pS gS (done ++ [l]) w' ∧ Kept (SOwn gS) w w' := by
  obtain ⟨j, hj⟩ : ∃ j, j = l.getD 0 0 := ⟨_, rfl⟩
  rw [← hj] at hl0
  obtain ⟨B, m, c, vs, hc, hfz, hvs, hvl, hbl⟩ := hI.at_ hl0
  have hIN := hli.1
  rw [hl] at hIN
  obtain ⟨bl, ol, hA, hcl⟩ := hIN.at_ hn
  rw [Nat.add_zero, zs_get, ← hj] at hcl
  subst hA
  have hpS : w.cell? ⟨pS, 0, none⟩ = some (.slice (some ⟨gS, 0, none⟩) n n) := by obtain ⟨us, h1, h2, h3, h4, _⟩ := hI; exact h4
  have hbase : base ≤ w.heap.size := by have := hI.lt (.inl rfl : SOwn gS w gS); omega
  have hvm : vs.length ≤ 1000000 := by
    have : (byCol done j).length ≤ done.length := List.length_filter_le _ _
    omega
  have hnp : ¬ SOwn gS w pS := by obtain ⟨us, h1, h2, h3, h4, h5, _⟩ := hI; exact h5
  have hnb : ¬ SOwn gS w bl := hli.2 bl ol rfl
  have hglt : gS < w.heap.size := lt_of_cell hc
  have hplt : pS < w.heap.size := lt_of_cell hpS
  have hlt3 : bl < w.heap.size := lt_of_cell hcl
  have hgB : some gS ≠ Value.ownBlock (.slice B m c) := by obtain ⟨us, h1, _⟩ := hI; exact fun e => h1.rowNe hvs e.symm
  have hnp2 : some pS ≠ Value.ownBlock (.slice B m c) := fun e => hnp (.inr ⟨j, _, hc, e.symm⟩)
  have hnb2 : some bl ≠ Value.ownBlock (.slice B m c) := fun e => hnb (.inr ⟨j, _, hc, e.symm⟩)
  have HKS : Hid (∀ W, Kept (SOwn gS) w W → W.cell? ⟨pS, 0, none⟩ = some (.slice (some ⟨gS, 0, none⟩) n n) ∧ W.cell? ⟨bl, ol, none⟩ = some (.int .i64 (j : Int))) := Lib.hid fun W h => ⟨(World.cell?_of_block (h.block pS hplt hnp)).trans hpS, (World.cell?_of_block (h.block bl hlt3 hnb)).trans hcl⟩
  have hBS : Hid (∀ W, Below w.heap.size w W → W.cell? ⟨pS, 0, none⟩ = some (.slice (some ⟨gS, 0, none⟩) n n) ∧ W.cell? ⟨bl, ol, none⟩ = some (.int .i64 (j : Int))) := Lib.hid fun W h => ⟨(h.cell hplt).trans hpS, (h.cell hlt3).trans hcl⟩
  have HGS : Hid (∀ w1 w' : World, Below w.heap.size w w1 → w1.grownBy w' (Value.ownBlock (.slice B m c)) → w'.cell? ⟨pS, 0, none⟩ = some (.slice (some ⟨gS, 0, none⟩) n n) ∧ w'.cell? ⟨bl, ol, none⟩ = some (.int .i64 (j : Int))) := Lib.hid fun w1 w' h k => ⟨((World.cell?_of_block (k.block pS (Nat.lt_of_lt_of_le hplt h.size) hnp2)).trans (h.cell hplt)).trans hpS, ((World.cell?_of_block (k.block bl (Nat.lt_of_lt_of_le hlt3 h.size) hnb2)).trans (h.cell hlt3)).trans hcl⟩
  have R5 : Hid (∀ w1 w' : World, Below w.heap.size w w1 → w1.grownBy w' (Value.ownBlock (.slice B m c)) → w'.frozen? ⟨gS, j, none⟩ = false ∧ w'.cell? ⟨gS, j, none⟩ = some (.slice B m c)) := Lib.hid fun w1 w' h k => by
    have e : w'.heap[gS]? = w.heap[gS]? := (k.block gS (Nat.lt_of_lt_of_le hglt h.size) hgB).trans (h.block gS hglt)
    exact ⟨by simp only [World.frozen?, e] at hfz ⊢; exact hfz, (World.cell?_of_block e).trans hc⟩
  have HCB : Hid (∀ W, Below w.heap.size w W → W.cell? ⟨gS, j, none⟩ = some (.slice B m c)) := Lib.hid fun W h => (h.cell hglt).trans hc
  have HP := Lib.hid (fun (w1 w' : World) (b' c' : Nat) (hb : Below w.heap.size w w1) (hg : w1.grownBy w' (Value.ownBlock (.slice B m c))) (hr : RowV w' base (.slice (some ⟨b', 0, none⟩) (vs.length + 1) c') (vs ++ [.slice (some ⟨bl, ol, none⟩) n ca])) (hbl : Value.ownBlock (.slice B m c) = some b' ∨ b' = w1.heap.size) => SetsI.push hn hI hl0 hl hj.symm hli hc hvs hb hg hr hbl)
  obtain ⟨wA, hwA⟩ : ∃ z, z = w.alloc (.cells #[.slice (some ⟨bl, ol, none⟩) n ca] 29) := ⟨_, rfl⟩
  have BA : Below w.heap.size w wA := by rw [hwA]; exact below_alloc _ _
  have R1 : Hid (∀ W : World, W.heap = wA.heap → RowV W base (.slice B m c) vs) := Lib.hid fun W e => by
    have h1 := hvs.below BA
    unfold RowV World.ownsRow at h1 ⊢
    rw [e]; exact h1
  have R2 : Hid (∀ W : World, W.heap = wA.heap → W.cell? ⟨w.heap.size, 0, none⟩ = some (.slice (some ⟨bl, ol, none⟩) n ca)) := Lib.hid fun W e => by
    rw [World.cell?_of_block (congrArg (fun h => h[w.heap.size]?) e), hwA, cell_of_row _ _ 0 _ _ _ (heap_alloc_new w _)]; rfl
  have R4 : Hid (base ≤ wA.heap.size) := Lib.hid (Nat.le_trans hbase BA.size)
  have hcA : wA.cell? ⟨gS, j, none⟩ = some (.slice B m c) := HCB.out _ BA
  rw [hwA] at R1 R2 R4 hcA
  have j0 : (0 : Int) ≤ (j : Int) := by omega
  have jn : (j : Int) < (n : Int) := by omega
  have n0 : (0 : Int) < (n : Int) := by omega
  clear hli hI hIN hbl hfz hvs hj BA hwA hnp hnb hnp2 hnb2 hgB hglt hplt hlt3
  go_enter Tryd.func62, Tryd.ntmps62
  go_wp2_with fail
  refine wp_region_held_drew (S := fun W => W.cell? ⟨pS, 0, none⟩ = some (.slice (some ⟨gS, 0, none⟩) n n) ∧ W.cell? ⟨bl, ol, none⟩ = some (.int .i64 (j : Int))) (by kernel_rfl) (⟨hpS, hcl⟩) (fun hS => ?_)
  refine wpAnyH_take (i := 0) (oi := { dst := some 4, op := Op.load 49 (Operand.tmp 1), type := 49, pos := "mate.go:90", after := #[], guard := none }) (v := .slice (some ⟨gS, 0, none⟩) n n) rfl (by kernel_rfl) (by kernel_rfl) (by kernel_rfl) (fun _ _ _ h => h) (Or.inl ⟨by kernel_rfl, fun W hSW => by have h1 := hSW.1; go_simp⟩) hS ?_
  try simp only [Act.put, List.setIfInBounds_toArray, List.set_cons_zero, List.set_cons_succ]
  refine wpAnyH_take (i := 1) (oi := { dst := some 5, op := Op.move (Operand.tmp 0), type := 29, pos := "mate.go:90", after := #[], guard := none }) (v := .slice (some ⟨bl, ol, none⟩) n ca) rfl (by kernel_rfl) (by kernel_rfl) (by kernel_rfl) (fun _ _ _ h => h) (Or.inl ⟨by kernel_rfl, fun W hSW => by kernel_rfl⟩) hS ?_
  try simp only [Act.put, List.setIfInBounds_toArray, List.set_cons_zero, List.set_cons_succ]
  refine wpAnyH_take (i := 2) (oi := { dst := some 6, op := Op.indexAddr 29 (Operand.tmp 5) (Operand.const (Value.int IntKind.i64 0)), type := 0, pos := "mate.go:90", after := #[{ on := 1, ground := Ground.data }], guard := none }) (v := .pointer (some ⟨bl, ol, none⟩)) rfl (by kernel_rfl) (by kernel_rfl) (by kernel_rfl) (fun _ _ _ h => h) (Or.inl ⟨by kernel_rfl, fun W hSW => by go_simp⟩) hS ?_
  try simp only [Act.put, List.setIfInBounds_toArray, List.set_cons_zero, List.set_cons_succ]
  refine wpAnyH_take (i := 3) (oi := { dst := some 7, op := Op.load 3 (Operand.tmp 6), type := 3, pos := "mate.go:90", after := #[{ on := 2, ground := Ground.data }], guard := none }) (v := .int .i64 (j : Int)) rfl (by kernel_rfl) (by kernel_rfl) (by kernel_rfl) (fun _ _ _ h => h) (Or.inl ⟨by kernel_rfl, fun W hSW => by have h1 := hSW.2; go_simp⟩) hS ?_
  try simp only [Act.put, List.setIfInBounds_toArray, List.set_cons_zero, List.set_cons_succ]
  refine wpAnyH_take (i := 4) (oi := { dst := some 8, op := Op.load 49 (Operand.tmp 1), type := 49, pos := "mate.go:90", after := #[], guard := none }) (v := .slice (some ⟨gS, 0, none⟩) n n) rfl (by kernel_rfl) (by kernel_rfl) (by kernel_rfl) (fun _ _ _ h => h) (Or.inl ⟨by kernel_rfl, fun W hSW => by have h1 := hSW.1; go_simp⟩) hS ?_
  try simp only [Act.put, List.setIfInBounds_toArray, List.set_cons_zero, List.set_cons_succ]
  refine wpAnyH_take (i := 5) (oi := { dst := some 9, op := Op.move (Operand.tmp 0), type := 29, pos := "mate.go:90", after := #[], guard := none }) (v := .slice (some ⟨bl, ol, none⟩) n ca) rfl (by kernel_rfl) (by kernel_rfl) (by kernel_rfl) (fun _ _ _ h => h) (Or.inl ⟨by kernel_rfl, fun W hSW => by kernel_rfl⟩) hS ?_
  try simp only [Act.put, List.setIfInBounds_toArray, List.set_cons_zero, List.set_cons_succ]
  refine wpAnyH_take (i := 6) (oi := { dst := some 10, op := Op.indexAddr 29 (Operand.tmp 9) (Operand.const (Value.int IntKind.i64 0)), type := 0, pos := "mate.go:90", after := #[{ on := 5, ground := Ground.data }], guard := none }) (v := .pointer (some ⟨bl, ol, none⟩)) rfl (by kernel_rfl) (by kernel_rfl) (by kernel_rfl) (fun _ _ _ h => h) (Or.inl ⟨by kernel_rfl, fun W hSW => by go_simp⟩) hS ?_
  try simp only [Act.put, List.setIfInBounds_toArray, List.set_cons_zero, List.set_cons_succ]
  refine wpAnyH_take (i := 7) (oi := { dst := some 11, op := Op.load 3 (Operand.tmp 10), type := 3, pos := "mate.go:90", after := #[{ on := 6, ground := Ground.data }], guard := none }) (v := .int .i64 (j : Int)) rfl (by kernel_rfl) (by kernel_rfl) (by kernel_rfl) (fun _ _ _ h => h) (Or.inl ⟨by kernel_rfl, fun W hSW => by have h1 := hSW.2; go_simp⟩) hS ?_
  try simp only [Act.put, List.setIfInBounds_toArray, List.set_cons_zero, List.set_cons_succ]
  refine wpAnyH_take (i := 8) (oi := { dst := some 12, op := Op.indexAddr 49 (Operand.tmp 8) (Operand.tmp 11), type := 0, pos := "mate.go:90", after := #[{ on := 4, ground := Ground.data }, { on := 7, ground := Ground.data }], guard := none }) (v := .pointer (some ⟨gS, j, none⟩)) rfl (by kernel_rfl) (by kernel_rfl) (by kernel_rfl) (fun _ _ _ h => h) (Or.inl ⟨by kernel_rfl, fun W hSW => by go_simp⟩) hS ?_
  try simp only [Act.put, List.setIfInBounds_toArray, List.set_cons_zero, List.set_cons_succ]
  refine wpAnyH_take (i := 10) (oi := { dst := some 14, op := Op.move (Operand.tmp 0), type := 29, pos := "mate.go:90", after := #[], guard := none }) (v := .slice (some ⟨bl, ol, none⟩) n ca) rfl (by kernel_rfl) (by kernel_rfl) (by kernel_rfl) (fun _ _ _ h => h) (Or.inl ⟨by kernel_rfl, fun W hSW => by kernel_rfl⟩) hS ?_
  try simp only [Act.put, List.setIfInBounds_toArray, List.set_cons_zero, List.set_cons_succ]
  refine wpAnyH_ready (rs := [9, 11]) (by kernel_rfl) (by simp) ?_
  refine AllReadyH.cons (o := { dst := some 13, op := Op.load 22 (Operand.tmp 12), type := 22, pos := "mate.go:90", after := #[{ on := 8, ground := Ground.data }], guard := none }) rfl (fun K hK => ?_) (AllReadyH.cons (o := { dst := some 15, op := Op.buildSlice 22 1 #[(0, Operand.tmp 14)], type := 22, pos := "mate.go:90", after := #[{ on := 10, ground := Ground.data }], guard := none }) rfl (fun K hK => ?_) AllReadyH.nil)
  · skip
    go_simp
    refine hK.out _ _ ((by first | exact hBS.out _ (below_alloc w _) | exact hBS.out _ (below_alloc w _).drew | exact hBS.out _ (Below.refl _ _).drew)) (fun hS => ?_)
    clear hK K
    try simp only [Act.put, List.setIfInBounds_toArray, List.set_cons_zero, List.set_cons_succ]
    refine wpAnyH_ready (rs := [11]) (by kernel_rfl) (by simp) ?_
    refine AllReadyH.cons (o := { dst := some 15, op := Op.buildSlice 22 1 #[(0, Operand.tmp 14)], type := 22, pos := "mate.go:90", after := #[{ on := 10, ground := Ground.data }], guard := none }) rfl (fun K hK => ?_) AllReadyH.nil
    go_simp
    refine hK.out _ _ ((by first | exact hBS.out _ (below_alloc w _) | exact hBS.out _ (below_alloc w _).drew | exact hBS.out _ (Below.refl _ _).drew)) (fun hS => ?_)
    clear hK K
    try simp only [Act.put, List.setIfInBounds_toArray, List.set_cons_zero, List.set_cons_succ]
    refine wpAnyH_ready (rs := [12]) (by kernel_rfl) (by simp) ?_
    refine AllReadyH.cons (o := { dst := some 16, op := Op.call { callee := Callee.builtin Builtin.append, args := #[Operand.tmp 13, Operand.tmp 15], argTypes := #[22, 22] }, type := 22, pos := "mate.go:90", after := #[{ on := 9, ground := Ground.data }, { on := 11, ground := Ground.data }], guard := none }) rfl (fun K hK => ?_) AllReadyH.nil
    refine step_pushW (by rfl) _ _ (by rfl) base (.slice B m c) vs (by rfl) (R1.out _ (by rfl)) w.heap.size 1 (some ⟨bl, ol, none⟩) n ca (by rfl) (R2.out _ (by rfl)) hvm R4.out ?_
    intro b' c' w' hr' hg' hb'
    obtain ⟨HP1, HP2⟩ := HP.out _ _ _ _ (by first | exact (below_alloc w _).drew | exact below_alloc w _) hg' hr' hb'
    rw [hvl] at HP1 HP2
    have HQ1 := Lib.hid HP1
    have HQ2 := Lib.hid HP2
    have hfz' := R5.out _ _ (by first | exact (below_alloc w _).drew | exact below_alloc w _) hg'
    have hS4 := HGS.out _ _ (by first | exact (below_alloc w _).drew | exact below_alloc w _) hg'
    clear HP1 HP2 hg' hr' hb'
    refine hK.out _ _ (hS4) (fun hS => ?_)
    clear hK K
    try simp only [Act.put, List.setIfInBounds_toArray, List.set_cons_zero, List.set_cons_succ]
    refine wpAnyH_ready (rs := [13]) (by kernel_rfl) (by simp) ?_
    refine AllReadyH.cons (o := { dst := some 17, op := Op.indexAddr 49 (Operand.tmp 4) (Operand.tmp 7), type := 0, pos := "mate.go:90", after := #[{ on := 0, ground := Ground.data }, { on := 3, ground := Ground.data }, { on := 0, ground := Ground.phase }, { on := 1, ground := Ground.phase }, { on := 2, ground := Ground.phase }, { on := 3, ground := Ground.phase }, { on := 4, ground := Ground.phase }, { on := 5, ground := Ground.phase }, { on := 6, ground := Ground.phase }, { on := 7, ground := Ground.phase }, { on := 8, ground := Ground.phase }, { on := 9, ground := Ground.phase }, { on := 10, ground := Ground.phase }, { on := 11, ground := Ground.phase }, { on := 12, ground := Ground.phase }], guard := none }) rfl (fun K hK => ?_) AllReadyH.nil
    go_simp
    refine hK.out _ _ (hS4) (fun hS => ?_)
    clear hK K
    try simp only [Act.put, List.setIfInBounds_toArray, List.set_cons_zero, List.set_cons_succ]
    refine wpAnyH_ready (rs := [14]) (by kernel_rfl) (by simp) ?_
    refine AllReadyH.cons (o := { dst := none, op := Op.store 22 (Operand.tmp 17) (Operand.tmp 16), type := 0, pos := "mate.go:90", after := #[{ on := 13, ground := Ground.data }, { on := 12, ground := Ground.data }, { on := 12, ground := Ground.chain }, { on := 0, ground := Ground.phase }, { on := 1, ground := Ground.phase }, { on := 2, ground := Ground.phase }, { on := 3, ground := Ground.phase }, { on := 4, ground := Ground.phase }, { on := 5, ground := Ground.phase }, { on := 6, ground := Ground.phase }, { on := 7, ground := Ground.phase }, { on := 8, ground := Ground.phase }, { on := 9, ground := Ground.phase }, { on := 10, ground := Ground.phase }, { on := 11, ground := Ground.phase }, { on := 12, ground := Ground.phase }], guard := none }) rfl (fun K hK => ?_) AllReadyH.nil
    go_simp
    refine hK.out _ _ (HKS.out _ HQ2.out) (fun hS => ?_)
    clear hK K
    try simp only [Act.put, List.setIfInBounds_toArray, List.set_cons_zero, List.set_cons_succ]
    refine wpAnyH_done (by kernel_rfl) ?_ _
    go_wp2
    go_ret
    exact ⟨rfl, HQ1.out, HQ2.out⟩
  · skip
    go_simp
    refine hK.out _ _ ((by first | exact hBS.out _ (below_alloc w _) | exact hBS.out _ (below_alloc w _).drew | exact hBS.out _ (Below.refl _ _).drew)) (fun hS => ?_)
    clear hK K
    try simp only [Act.put, List.setIfInBounds_toArray, List.set_cons_zero, List.set_cons_succ]
    refine wpAnyH_ready (rs := [9]) (by kernel_rfl) (by simp) ?_
    refine AllReadyH.cons (o := { dst := some 13, op := Op.load 22 (Operand.tmp 12), type := 22, pos := "mate.go:90", after := #[{ on := 8, ground := Ground.data }], guard := none }) rfl (fun K hK => ?_) AllReadyH.nil
    go_simp
    refine hK.out _ _ ((by first | exact hBS.out _ (below_alloc w _) | exact hBS.out _ (below_alloc w _).drew | exact hBS.out _ (Below.refl _ _).drew)) (fun hS => ?_)
    clear hK K
    try simp only [Act.put, List.setIfInBounds_toArray, List.set_cons_zero, List.set_cons_succ]
    refine wpAnyH_ready (rs := [12]) (by kernel_rfl) (by simp) ?_
    refine AllReadyH.cons (o := { dst := some 16, op := Op.call { callee := Callee.builtin Builtin.append, args := #[Operand.tmp 13, Operand.tmp 15], argTypes := #[22, 22] }, type := 22, pos := "mate.go:90", after := #[{ on := 9, ground := Ground.data }, { on := 11, ground := Ground.data }], guard := none }) rfl (fun K hK => ?_) AllReadyH.nil
    refine step_pushW (by rfl) _ _ (by rfl) base (.slice B m c) vs (by rfl) (R1.out _ (by rfl)) w.heap.size 1 (some ⟨bl, ol, none⟩) n ca (by rfl) (R2.out _ (by rfl)) hvm R4.out ?_
    intro b' c' w' hr' hg' hb'
    obtain ⟨HP1, HP2⟩ := HP.out _ _ _ _ (by first | exact (below_alloc w _).drew | exact below_alloc w _) hg' hr' hb'
    rw [hvl] at HP1 HP2
    have HQ1 := Lib.hid HP1
    have HQ2 := Lib.hid HP2
    have hfz' := R5.out _ _ (by first | exact (below_alloc w _).drew | exact below_alloc w _) hg'
    have hS4 := HGS.out _ _ (by first | exact (below_alloc w _).drew | exact below_alloc w _) hg'
    clear HP1 HP2 hg' hr' hb'
    refine hK.out _ _ (hS4) (fun hS => ?_)
    clear hK K
    try simp only [Act.put, List.setIfInBounds_toArray, List.set_cons_zero, List.set_cons_succ]
    refine wpAnyH_ready (rs := [13]) (by kernel_rfl) (by simp) ?_
    refine AllReadyH.cons (o := { dst := some 17, op := Op.indexAddr 49 (Operand.tmp 4) (Operand.tmp 7), type := 0, pos := "mate.go:90", after := #[{ on := 0, ground := Ground.data }, { on := 3, ground := Ground.data }, { on := 0, ground := Ground.phase }, { on := 1, ground := Ground.phase }, { on := 2, ground := Ground.phase }, { on := 3, ground := Ground.phase }, { on := 4, ground := Ground.phase }, { on := 5, ground := Ground.phase }, { on := 6, ground := Ground.phase }, { on := 7, ground := Ground.phase }, { on := 8, ground := Ground.phase }, { on := 9, ground := Ground.phase }, { on := 10, ground := Ground.phase }, { on := 11, ground := Ground.phase }, { on := 12, ground := Ground.phase }], guard := none }) rfl (fun K hK => ?_) AllReadyH.nil
    go_simp
    refine hK.out _ _ (hS4) (fun hS => ?_)
    clear hK K
    try simp only [Act.put, List.setIfInBounds_toArray, List.set_cons_zero, List.set_cons_succ]
    refine wpAnyH_ready (rs := [14]) (by kernel_rfl) (by simp) ?_
    refine AllReadyH.cons (o := { dst := none, op := Op.store 22 (Operand.tmp 17) (Operand.tmp 16), type := 0, pos := "mate.go:90", after := #[{ on := 13, ground := Ground.data }, { on := 12, ground := Ground.data }, { on := 12, ground := Ground.chain }, { on := 0, ground := Ground.phase }, { on := 1, ground := Ground.phase }, { on := 2, ground := Ground.phase }, { on := 3, ground := Ground.phase }, { on := 4, ground := Ground.phase }, { on := 5, ground := Ground.phase }, { on := 6, ground := Ground.phase }, { on := 7, ground := Ground.phase }, { on := 8, ground := Ground.phase }, { on := 9, ground := Ground.phase }, { on := 10, ground := Ground.phase }, { on := 11, ground := Ground.phase }, { on := 12, ground := Ground.phase }], guard := none }) rfl (fun K hK => ?_) AllReadyH.nil
    go_simp
    refine hK.out _ _ (HKS.out _ HQ2.out) (fun hS => ?_)
    clear hK K
    try simp only [Act.put, List.setIfInBounds_toArray, List.set_cons_zero, List.set_cons_succ]
    refine wpAnyH_done (by kernel_rfl) ?_ _
    go_wp2
    go_ret
    exact ⟨rfl, HQ1.out, HQ2.out⟩
/-- The transversals come to lie in the sets. -/
theorem visit62 (n base pS gS : Nat) (hn : 0 < n) (hn7 : n ≤ 7) : Visit n base 62 #[.pointer (some ⟨pS, 0, none⟩)] false (SOwn gS) (SetsI n base pS gS) where
  enter := enter62
  keep := fun done w w' h hb => SetsI.keep hn h hb
  lt := fun done w i h hi => h.lt hi
  call := fun done l A c w h hd hl hb hi hno => f62_any n base pS gS done A c l w hn hn7 h hd hl (hb 0 hn) ⟨by rw [hl]; exact hi, hno⟩
end Go.Proofs.YtiodednhadnekaaDoor

namespace Go.Proofs.YtiodednhadnekaaDoor
open Go.RowKit Go.Deep

/-! ### plain -/
def lineM (n : Nat) (o : Nat → Nat → Int) (r : Nat) : List Int := (List.range n).map (o r)
def gridL (n : Nat) (o : Nat → Nat → Int) : List (List Int) := (List.range n).map (lineM n o)
def layTo (R : Nat) (l : List Nat) (x : Int) (o : Nat → Nat → Int) : Nat → Nat → Int := fun r c => if r < R ∧ c = l.getD r 0 then x else o r c
def freeTo (R : Nat) (l : List Nat) (o : Nat → Nat → Int) : Bool := (List.range R).all fun r => decide (o r (l.getD r 0) < 0)
def updM (n : Nat) (o : Nat → Nat → Int) (best : List (List Int)) : List (List Int) := if best = [] then gridL n o else if cmpG (gridL n o) best < 0 then gridL n o else best
/-- The least mate, of those seen and those from the grid o on. -/
def mtF (n : Nat) (T : List (List Nat)) : Nat → Nat → (Nat → Nat → Int) → List (List Int) → List (List Int)
  | 0, _, o, best => updM n o best
  | f + 1, k, o, best => (byCol T k).foldl (fun best l => if freeTo n l o = true then mtF n T f (k + 1) (layTo n l k o) best else best) best
def mtStep (n : Nat) (T : List (List Nat)) (f k : Nat) (o : Nat → Nat → Int) (best : List (List Int)) (l : List Nat) : List (List Int) := if freeTo n l o = true then mtF n T f (k + 1) (layTo n l k o) best else best
def mtTo (n : Nat) (T : List (List Nat)) (f k : Nat) (o : Nat → Nat → Int) (best : List (List Int)) (i : Nat) : List (List Int) := ((byCol T k).take i).foldl (mtStep n T f k o) best
theorem mtTo_zero (n : Nat) (T : List (List Nat)) (f k : Nat) (o : Nat → Nat → Int) (best : List (List Int)) : mtTo n T f k o best 0 = best := rfl
theorem mtTo_succ {n : Nat} {T : List (List Nat)} {f k : Nat} {o : Nat → Nat → Int} {best : List (List Int)} {i : Nat} (h : i < (byCol T k).length) : mtTo n T f k o best (i + 1) = mtStep n T f k o (mtTo n T f k o best i) ((byCol T k).getD i []) := by
  unfold mtTo
  rw [List.take_succ_eq_append_getElem h, List.foldl_append]
  simp [List.getD_eq_getElem?_getD, h]
theorem mtF_succ (n : Nat) (T : List (List Nat)) (f k : Nat) (o : Nat → Nat → Int) (best : List (List Int)) : mtF n T (f + 1) k o best = mtTo n T f k o best (byCol T k).length := by
  unfold mtTo
  rw [List.take_of_length_le (Nat.le_refl _)]
  rfl
theorem lineM_len (n : Nat) (o : Nat → Nat → Int) (r : Nat) : (lineM n o r).length = n := by simp [lineM]
theorem lineM_get {n c : Nat} (o : Nat → Nat → Int) (r : Nat) (h : c < n) : (lineM n o r).getD c 0 = o r c := by simp [lineM, List.getD_eq_getElem?_getD, h]
theorem gridL_len (n : Nat) (o : Nat → Nat → Int) : (gridL n o).length = n := by simp [gridL]
theorem gridL_get {n r : Nat} (o : Nat → Nat → Int) (h : r < n) : (gridL n o).getD r [] = lineM n o r := by simp [gridL, List.getD_eq_getElem?_getD, h]
theorem gridL_shape (n : Nat) (o : Nat → Nat → Int) : sqShape n (gridL n o) := ⟨gridL_len n o, fun r hr => by rw [gridL_get o hr, lineM_len]⟩
theorem layTo_zero (l : List Nat) (x : Int) (o : Nat → Nat → Int) : layTo 0 l x o = o := by funext r c; unfold layTo; rw [if_neg (by omega)]
theorem layTo_succ (R : Nat) (l : List Nat) (x : Int) (o : Nat → Nat → Int) (r c : Nat) : layTo (R + 1) l x o r c = if r = R ∧ c = l.getD R 0 then x else layTo R l x o r c := by
  unfold layTo
  by_cases h1 : r = R ∧ c = l.getD R 0
  · rw [if_pos h1, if_pos ⟨by omega, by rw [h1.1]; exact h1.2⟩]
  · rw [if_neg h1]
    by_cases h2 : r < R ∧ c = l.getD r 0
    · rw [if_pos h2, if_pos ⟨by omega, h2.2⟩]
    · rw [if_neg h2, if_neg]
      rintro ⟨h3, h4⟩
      by_cases e : r = R
      · exact h1 ⟨e, by rw [← e]; exact h4⟩
      · exact h2 ⟨by omega, h4⟩
theorem freeTo_succ (R : Nat) (l : List Nat) (o : Nat → Nat → Int) : freeTo (R + 1) l o = (freeTo R l o && decide (o R (l.getD R 0) < 0)) := by
  unfold freeTo
  rw [List.range_succ, List.all_append]
  simp
theorem free_at {n : Nat} {l : List Nat} {o : Nat → Nat → Int} (h : freeTo n l o = true) {r : Nat} (hr : r < n) : o r (l.getD r 0) < 0 := by
  unfold freeTo at h
  rw [List.all_eq_true] at h
  simpa using h r (List.mem_range.2 hr)
/-- What is laid and taken away again is as it was. -/
theorem unlay {n : Nat} {l : List Nat} {o : Nat → Nat → Int} (h : freeTo n l o = true) (ho : ∀ r c, o r c = -1 ∨ 0 ≤ o r c) (x : Int) : layTo n l (-1) (layTo n l x o) = o := by
  funext r c
  unfold layTo
  by_cases h1 : r < n ∧ c = l.getD r 0
  · rw [if_pos h1]
    have h2 := free_at h h1.1
    rw [← h1.2] at h2
    have := ho r c
    omega
  · rw [if_neg h1, if_neg h1]
theorem lay_ok {n : Nat} {l : List Nat} {o : Nat → Nat → Int} (ho : ∀ r c, o r c = -1 ∨ 0 ≤ o r c) (x : Nat) : ∀ r c, layTo n l (x : Int) o r c = -1 ∨ 0 ≤ layTo n l (x : Int) o r c := fun r c => by
  unfold layTo
  split
  · right; omega
  · exact ho r c
def MG (n : Nat) (best : List (List Int)) : Prop := best = [] ∨ sqShape n best
theorem updM_shape {n : Nat} {o : Nat → Nat → Int} {best : List (List Int)} (h : MG n best) : MG n (updM n o best) := by
  unfold updM
  split
  · exact .inr (gridL_shape n o)
  · split
    · exact .inr (gridL_shape n o)
    · exact h
theorem foldl_inv {α β : Type} {P : β → Prop} {f : β → α → β} (hf : ∀ b a, P b → P (f b a)) : ∀ (l : List α) (b : β), P b → P (l.foldl f b)
  | [], _, h => h
  | a :: l, b, h => foldl_inv hf l (f b a) (hf b a h)
theorem mtF_shape {n : Nat} {T : List (List Nat)} : ∀ (f k : Nat) (o : Nat → Nat → Int) (best : List (List Int)), MG n best → MG n (mtF n T f k o best)
  | 0, _, _, _, h => updM_shape h
  | f + 1, k, o, best, h => by
    unfold mtF
    exact foldl_inv (P := MG n) (fun b l hb => by
      show MG n (if freeTo n l o = true then _ else b)
      split
      · exact mtF_shape f _ _ _ hb
      · exact hb) _ _ h
theorem mtTo_shape {n : Nat} {T : List (List Nat)} {f k : Nat} {o : Nat → Nat → Int} {best : List (List Int)} (h : MG n best) (i : Nat) : MG n (mtTo n T f k o best i) := by
  unfold mtTo
  exact foldl_inv (P := MG n) (fun b l hb => by
    unfold mtStep
    split
    · exact mtF_shape f _ _ _ hb
    · exact hb) _ _ h
/-! ### memory -/
theorem Row.mono {w : World} {base base' : Nat} {v : Value} {xs : List Int} (h : Row w base v xs) (hb : base' ≤ base) : Row w base' v xs := by
  refine ⟨h.1, ?_⟩
  rcases h.2 with h | ⟨g, cap, cur, e, h1, h2⟩
  · exact .inl h
  · exact .inr ⟨g, cap, cur, e, Nat.le_trans hb h1, h2⟩
theorem RowV.mono {w : World} {base base' : Nat} {v : Value} {vs : List Value} (h : RowV w base v vs) (hb : base' ≤ base) : RowV w base' v vs := by
  refine ⟨h.1, ?_⟩
  rcases h.2 with h | ⟨g, cap, cur, e, h1, h2⟩
  · exact .inl h
  · exact .inr ⟨g, cap, cur, e, Nat.le_trans hb h1, h2⟩
/-- A row of rows of ints, all of it above base. -/
def BRow (w : World) (base : Nat) (v : Value) (L : List (List Int)) : Prop := ∃ vs, RowV w base v vs ∧ vs.length = L.length ∧ ∀ (j : Nat) (u : Value), vs[j]? = some u → Row w base u (L.getD j [])
theorem ownsRow_far {w : World} {base : Nat} {t : TypeId} {s : Nat} {v : Value} {len : Nat} {vs : List Value} (h : w.ownsRow base t s v len vs) {a : Addr} (ha : a.block < base) (u : Value) : (w.setCell a u).ownsRow base t s v len vs :=
  World.ownsRow.kept h (grown_setC w a u) (by
    cases hb : v.ownBlock with
    | none => exact .inl rfl
    | some b =>
      refine .inr fun e => ?_
      have := (World.ownsRow.lt h b hb).1
      injection e with e
      omega)
section
variable {w w' : World} {base : Nat} {v : Value} {L : List (List Int)}
theorem BRow.nil (w : World) (base : Nat) : BRow w base (.slice none 0 0) [] := ⟨[], RowV.nil w base, rfl, fun j u h => by simp at h⟩
theorem BRow.below (h : BRow w base v L) (hb : Below w.heap.size w w') : BRow w' base v L := by
  obtain ⟨vs, h1, h2, h3⟩ := h
  exact ⟨vs, h1.below hb, h2, fun j u hu => (h3 j u hu).below hb⟩
theorem BRow.far (h : BRow w base v L) {a : Addr} (ha : a.block < base) (u : Value) : BRow (w.setCell a u) base v L := by
  obtain ⟨vs, h1, h2, h3⟩ := h
  exact ⟨vs, ownsRow_far h1 ha u, h2, fun j u' hu => ownsRow_far (h3 j u' hu) ha u⟩
theorem BRow.bedsN (h : BRow w base v L) (hl : L.length ≤ 1000000) (hs : ∀ j, (L.getD j []).length ≤ 1000000) : ∃ A c, v = .slice A L.length c ∧ BedsN w base A L.length c L := by
  obtain ⟨vs, h1, h2, h3⟩ := h
  have hcap : ∃ A c, v = .slice A vs.length c ∧ vs.length ≤ c ∧ (A = none → vs.length = 0 ∧ c = 0) := by
    rcases h1.2 with ⟨e2, hn⟩ | ⟨g, cap, cur, e2, hb, hh, hc, _⟩
    · exact ⟨none, 0, by rw [e2, hn], by omega, fun _ => ⟨hn, rfl⟩⟩
    · exact ⟨_, cap, e2, hc, fun h => by cases h⟩
  obtain ⟨A, c, e, hle, hnone⟩ := hcap
  obtain ⟨A', c', e', hc⟩ := h1.form
  rw [e] at e'
  injection e' with e1 e2 e3
  subst e1 e3
  refine ⟨A, c, by rw [e, h2], rfl, hl, by omega, fun hA => by have := hnone hA; omega, fun hn => ?_⟩
  obtain ⟨g, eA, hg⟩ := hc (by omega)
  refine ⟨g, 0, eA, fun j hj => ?_⟩
  have hj' : j < vs.length := by omega
  refine ⟨vs[j], ?_, (h3 j _ (List.getElem?_eq_getElem hj')).rowAt (hs j)⟩
  rw [Nat.zero_add, hg j hj', List.getElem?_eq_getElem hj']
/-- One row more. -/
theorem BRow.push {vs : List Value} {w1 : World} {u v' : Value} {l : List Int} (h1 : RowV w base v vs) (h2 : vs.length = L.length) (h3 : ∀ (j : Nat) (u : Value), vs[j]? = some u → Row w base u (L.getD j [])) (hb : Below w.heap.size w w1) (hu : Row w1 base u l) (hg : w1.grownBy w' v.ownBlock) (hr : RowV w' base v' (vs ++ [u])) : BRow w' base v' (L ++ [l]) := by
  refine ⟨vs ++ [u], hr, by simp [h2], fun j x hx => ?_⟩
  rcases Nat.lt_or_ge j vs.length with hj | hj
  · rw [List.getElem?_append_left hj] at hx
    have e : (L ++ [l]).getD j [] = L.getD j [] := by rw [List.getD_eq_getElem?_getD, List.getElem?_append_left (by omega), ← List.getD_eq_getElem?_getD]
    rw [e]
    exact ((h3 j x hx).below hb).otherV (h1.below hb) hg
  · have hj2 : j = vs.length := by
      rcases Nat.lt_or_ge vs.length j with h | h
      · rw [List.getElem?_eq_none (by simp; omega)] at hx; cases hx
      · omega
    subst hj2
    have hx2 : x = u := by simpa using hx.symm
    have e : (L ++ [l]).getD vs.length [] = l := by rw [h2]; simp [List.getD_eq_getElem?_getD]
    rw [e, hx2]
    exact hu.otherV (h1.below hb) hg
end
/-- What Mate may turn: the best mate, and the rows it tries. -/
def OwnM (n pB : Nat) (gr : Nat → Nat) (i : Nat) : Prop := i = pB ∨ ∃ r, r < n ∧ i = gr r
def CellR (w0 : World) (n pB : Nat) (gr : Nat → Nat) (p o : Nat) (v : Value) : Prop := w0.cell? ⟨p, o, none⟩ = some v ∧ ¬ OwnM n pB gr p
structure MCtx (w0 : World) (n pN pB pO pS pOn gO gS : Nat) (gr : Nat → Nat) (T : List (List Nat)) : Prop where
  cN : CellR w0 n pB gr pN 0 (.int .i64 (n : Int))
  cO : CellR w0 n pB gr pO 0 (.slice (some ⟨gO, 0, none⟩) n n)
  cS : CellR w0 n pB gr pS 0 (.slice (some ⟨gS, 0, none⟩) n n)
  cF : CellR w0 n pB gr pOn 0 (.func (.func 64) #[] #[.pointer (some ⟨pN, 0, none⟩), .pointer (some ⟨pB, 0, none⟩), .pointer (some ⟨pO, 0, none⟩), .pointer (some ⟨pS, 0, none⟩), .pointer (some ⟨pOn, 0, none⟩)])
  out : ∀ r, r < n → CellR w0 n pB gr gO r (.slice (some ⟨gr r, 0, none⟩) n n)
  inj : ∀ r s, r < n → s < n → gr r = gr s → r = s
  low : ∀ r, r < n → gr r < w0.heap.size
  ne : ∀ r, r < n → gr r ≠ pB
  lowB : pB < w0.heap.size
  sets : ∀ k, k < n → ∃ B m c, CellR w0 n pB gr gS k (.slice B m c) ∧ m = (byCol T k).length ∧ ∀ i, i < m → ∃ b o, B = some ⟨b, o, none⟩ ∧ ∃ b' o' c', CellR w0 n pB gr b (o + i) (.slice (some ⟨b', o', none⟩) n c') ∧ ∀ j, j < n → CellR w0 n pB gr b' (o' + j) (.int .i64 (((byCol T k).getD i []).getD j 0 : Nat))
  lens : ∀ l ∈ T, l.length = n ∧ ∀ i, i < n → l.getD i 0 < n
  many : T.length ≤ 1000000
/-- How Mate stands. -/
def MI (w0 : World) (n pB : Nat) (gr : Nat → Nat) (o : Nat → Nat → Int) (v : Value) (best : List (List Int)) (w : World) : Prop :=
  Kept (fun _ i => OwnM n pB gr i) w0 w ∧ (∀ r, r < n → Own w (gr r) (lineM n o r)) ∧ w.heap[pB]? = some (.cells #[v] 22 (0, 0)) ∧ BRow w w0.heap.size v best
section
variable {w0 w w' : World} {n pB : Nat} {gr : Nat → Nat} {o : Nat → Nat → Int} {v : Value} {best : List (List Int)}
theorem MI.read (h : MI w0 n pB gr o v best w) {p q : Nat} {x : Value} (hc : CellR w0 n pB gr p q x) : w.cell? ⟨p, q, none⟩ = some x :=
  (World.cell?_of_block (h.1.block p (lt_of_cell hc.1) hc.2)).trans hc.1
theorem MI.var (h : MI w0 n pB gr o v best w) : w.cell? ⟨pB, 0, none⟩ = some v := by
  rw [cell_of_row w pB 0 _ 22 (0, 0) h.2.2.1]; rfl
theorem MI.varF (h : MI w0 n pB gr o v best w) : w.frozen? ⟨pB, 0, none⟩ = false := by
  have := h.2.2.1
  simp [World.frozen?, this]
theorem MI.size (h : MI w0 n pB gr o v best w) : w0.heap.size ≤ w.heap.size := h.1.size
theorem MI.varLt (h : MI w0 n pB gr o v best w) : pB < w.heap.size := lt_of_cell h.var
theorem MI.below (h : MI w0 n pB gr o v best w) (hb : Below w.heap.size w w') : MI w0 n pB gr o v best w' :=
  ⟨h.1.trans ⟨hb.os, hb.tape, hb.output, hb.size, fun i hi _ => hb.block i hi, fun _ _ h => h⟩, fun r hr => (h.2.1 r hr).below' hb, (hb.block pB h.varLt).trans h.2.2.1, h.2.2.2.below hb⟩
theorem MI.turned (h : MI w0 n pB gr o v best w) {a : Addr} (ha : OwnM n pB gr a.block) (u : Value) : Kept (fun _ i => OwnM n pB gr i) w0 (w.setCell a u) :=
  h.1.trans ⟨rfl, rfl, rfl, by simp [World.setCell], fun i _ hn => Below.heap_setCell w a u i (fun e => hn (by rw [e]; exact ha)), fun _ _ h => h⟩
variable {pN pO pS pOn gO gS : Nat} {T : List (List Nat)}
/-- A crop is laid. -/
theorem MI.lay (h : MI w0 n pB gr o v best w) (hC : MCtx w0 n pN pB pO pS pOn gO gS gr T) {r c : Nat} (hr : r < n) (x : Int) {o' : Nat → Nat → Int} (ho : ∀ r' c', o' r' c' = if r' = r ∧ c' = c then x else o r' c') : MI w0 n pB gr o' v best (w.setCell ⟨gr r, c, none⟩ (.int .i64 x)) := by
  refine ⟨h.turned (.inr ⟨r, hr, rfl⟩) _, fun s hs => ?_, ?_, h.2.2.2.far (hC.low r hr) _⟩
  · by_cases e : s = r
    · subst e
      have h2 := (h.2.1 s hs).set_ c x
      have e2 : (lineM n o s).set c x = lineM n o' s := by
        apply List.ext_getElem (by simp [lineM])
        intro i h1 h2
        simp [lineM, List.getElem_set, ho]
        by_cases e : c = i
        · rw [if_pos e, if_pos e.symm]
        · rw [if_neg e, if_neg (fun h => e h.symm)]
      rw [← e2]
      exact h2
    · have h2 := (h.2.1 s hs).far (p := ⟨gr r, c, none⟩) (fun he => e (hC.inj s r hs hr he)) (.int .i64 x)
      have e2 : lineM n o' s = lineM n o s := by
        unfold lineM
        apply List.map_congr_left
        intro i _
        rw [ho, if_neg (fun h => e h.1)]
      rw [e2]
      exact h2
  · exact (Below.heap_setCell w ⟨gr r, c, none⟩ _ pB (fun e => hC.ne r hr e.symm)).trans h.2.2.1
/-- The best is set. -/
theorem MI.setB (h : MI w0 n pB gr o v best w) (hC : MCtx w0 n pN pB pO pS pOn gO gS gr T) {v' : Value} {best' : List (List Int)} (hb : BRow w w0.heap.size v' best') : MI w0 n pB gr o v' best' (w.setCell ⟨pB, 0, none⟩ v') := by
  refine ⟨h.turned (.inl rfl) _, fun s hs => (h.2.1 s hs).far (p := ⟨pB, 0, none⟩) (hC.ne s hs) _, ?_, hb.far (a := ⟨pB, 0, none⟩) hC.lowB _⟩
  have := h.2.2.1
  simp [World.setCell, Array.getElem?_modify, this]
/-- The best grows. -/
theorem MI.push (h : MI w0 n pB gr o v best w) (hC : MCtx w0 n pN pB pO pS pOn gO gS gr T) {vs : List Value} (h1 : RowV w w0.heap.size v vs) (h2 : vs.length = best.length) (h3 : ∀ (j : Nat) (u : Value), vs[j]? = some u → Row w w0.heap.size u (best.getD j [])) {w1 : World} (hb : Below w.heap.size w w1) {u v' : Value} {l : List Int} (hu : Row w1 w0.heap.size u l) (hg : w1.grownBy w' v.ownBlock) (hr : RowV w' w0.heap.size v' (vs ++ [u])) : MI w0 n pB gr o v' (best ++ [l]) (w'.setCell ⟨pB, 0, none⟩ v') := by
  have m1 := h.below hb
  have hbr := BRow.push h1 h2 h3 hb hu hg hr
  have hge : ∀ b, v.ownBlock = some b → w0.heap.size ≤ b := fun b e => (World.ownsRow.lt h1 b e).1
  have hne : ∀ i, i < w0.heap.size → some i ≠ v.ownBlock := fun i hi e => by have := hge i e.symm; omega
  have hkeep : ∀ i, i < w0.heap.size → w'.heap[i]? = w1.heap[i]? := fun i hi => hg.block i (Nat.lt_of_lt_of_le hi m1.size) (hne i hi)
  have k2 : Kept (fun _ i => OwnM n pB gr i) w0 w' := ⟨hg.os.trans m1.1.os, hg.tape.trans m1.1.tape, hg.output.trans m1.1.output, Nat.le_trans m1.size hg.size, fun i hi hn => (hkeep i hi).trans (m1.1.block i hi hn), fun _ _ h => h⟩
  have k3 : Kept (fun _ i => OwnM n pB gr i) w0 (w'.setCell ⟨pB, 0, none⟩ v') := k2.trans ⟨rfl, rfl, rfl, by simp [World.setCell], fun i _ hn => Below.heap_setCell w' ⟨pB, 0, none⟩ _ i (fun e => hn (.inl e)), fun _ _ h => h⟩
  have hvar : w'.heap[pB]? = some (.cells #[v] 22 (0, 0)) := (hkeep pB hC.lowB).trans m1.2.2.1
  refine ⟨k3, fun r hr => ?_, ?_, hbr.far (a := ⟨pB, 0, none⟩) hC.lowB _⟩
  · have : Own w' (gr r) (lineM n o r) := (hkeep (gr r) (hC.low r hr)).trans (m1.2.1 r hr)
    exact this.far (p := ⟨pB, 0, none⟩) (hC.ne r hr) _
  · simp [World.setCell, Array.getElem?_modify, hvar]
/-- The variable of the best after an append. -/
theorem MI.pushVar (h : MI w0 n pB gr o v best w) (hC : MCtx w0 n pN pB pO pS pOn gO gS gr T) {vs : List Value} (h1 : RowV w w0.heap.size v vs) {w1 : World} (hb : Below w.heap.size w w1) (hg : w1.grownBy w' v.ownBlock) : w'.cell? ⟨pB, 0, none⟩ = some v ∧ w'.frozen? ⟨pB, 0, none⟩ = false := by
  have m1 := h.below hb
  have hne : some pB ≠ v.ownBlock := fun e => by have := (World.ownsRow.lt h1 pB e.symm).1; have := hC.lowB; omega
  have e : w'.heap[pB]? = w1.heap[pB]? := hg.block pB m1.varLt hne
  exact ⟨(World.cell?_of_block e).trans m1.var, (World.frozen?_of_block (a := ⟨pB, 0, none⟩) e).trans m1.varF⟩
/-- What is tried reads as a bed. -/
theorem MI.outB (h : MI w0 n pB gr o v best w) (hC : MCtx w0 n pN pB pO pS pOn gO gS gr T) (hn : 0 < n) (hn7 : n ≤ 7) : Beds w (some ⟨gO, 0, none⟩) n n (gridL n o) :=
  ⟨gridL_len n o, by omega, Nat.le_refl _, fun e => (by cases e), fun _ => ⟨gO, 0, rfl, fun j hj => ⟨some ⟨gr j, 0, none⟩, n, by
    rw [gridL_get o hj, lineM_len, Nat.zero_add]
    exact ⟨h.read (hC.out j hj), Nat.le_refl _, (fun e => by cases e), (h.2.1 j hj).ints' (lineM_len n o j) (by omega)⟩⟩⟩⟩
end
end Go.Proofs.YtiodednhadnekaaDoor

namespace Go.Proofs.YtiodednhadnekaaDoor
open Go.RowKit Go.Deep
attribute [local go_sem ↓] Go.wp_at_zero Go.wp_at_succ

theorem MG.len {n : Nat} {best : List (List Int)} (h : MG n best) : best.length ≤ n := by
  rcases h with e | e
  · rw [e]; simp
  · exact Nat.le_of_eq e.1
theorem MG.rows {n : Nat} {best : List (List Int)} (h : MG n best) (j : Nat) : (best.getD j []).length ≤ n := by
  rcases h with e | e
  · rw [e]; simp
  · rcases Nat.lt_or_ge j n with h | h
    · exact Nat.le_of_eq (e.2 j h)
    · rw [List.getD_eq_getElem?_getD, List.getElem?_eq_none (by rw [e.1]; exact h)]; simp
theorem enter64 (args : Array Value) (w : World) : (callFunc 64 args).run Tryd.prog w = .ok (.enter 64 args) w := by simp [go_sem]
theorem eql_nil (w : World) (A : Option Addr) (n c : Nat) : (binOp .eql 22 (.slice A n c) (.slice none 0 0)).run Tryd.prog w = .ok (.bool A.isNone) w := Go.Lib.run_eql_slice_nil w 22 29 A n c 0 0 Tryd.underlying22
attribute [local go_sem] eql_nil
section
variable (w0 : World) (n pN pB pO pS pOn gO gS : Nat) (gr : Nat → Nat) (T : List (List Nat))
/-- What Mate$2 is shown to do. -/
def OnM (f k : Nat) : Prop := ∀ (o : Nat → Nat → Int) (v : Value) (best : List (List Int)) (w : World), MI w0 n pB gr o v best w → MG n best → (best = [] → v = .slice none 0 0) → (∀ r c, o r c = -1 ∨ 0 ≤ o r c) →
  Calls Tryd.prog 64 #[.int .i64 (k : Int), .pointer (some ⟨pN, 0, none⟩), .pointer (some ⟨pB, 0, none⟩), .pointer (some ⟨pO, 0, none⟩), .pointer (some ⟨pS, 0, none⟩), .pointer (some ⟨pOn, 0, none⟩)] w
    fun e w' => e = .returned (.tuple #[]) ∧ ∃ v', MI w0 n pB gr o v' (mtF n T f k o best) w' ∧ (mtF n T f k o best = [] → v' = .slice none 0 0)
set_option maxRecDepth 100000 in
set_option maxHeartbeats 4000000 in
theorem f64_end (hC : MCtx w0 n pN pB pO pS pOn gO gS gr T) (hn : 0 < n) (hn5 : n ≤ 5) : OnM w0 n pN pB pO pS pOn gr T 0 n := by
  intro o v best w hM hG hnil ho
  have HM := Lib.hid hM
  have HC := Lib.hid hC
  have hne : gridL n o ≠ [] := fun e => by have := gridL_len n o; rw [e] at this; simp at this; omega
  have cN := hM.read hC.cN
  have cO := hM.read hC.cO
  have cB := hM.var
  have fB := hM.varF
  have hq : ((n : Int) == (n : Int)) = true := by simp
  obtain ⟨A, c, hv, hbn⟩ := hM.2.2.2.bedsN (by have := hG.len; omega) (fun j => by have := hG.rows j; omega)
  by_cases hb0 : best = []
  · have HU : Hid (mtF n T 0 n o best = gridL n o) := by show updM n o best = gridL n o; unfold updM; rw [if_pos hb0]
    have hv2 := hnil hb0
    subst hv2
    clear hM hC hG hnil ho hbn hv
    have cO2 := (HM.out.setB HC.out (BRow.nil w w0.heap.size)).read HC.out.cO
    have M2 := Lib.hid (HM.out.setB HC.out (BRow.nil w w0.heap.size))
    go_enter Tryd.func64, Tryd.ntmps64
    go_wp2
    obtain ⟨wa, hwa⟩ : ∃ z, z = w.setCell ⟨pB, 0, none⟩ (.slice none 0 0) := ⟨_, rfl⟩
    rw [← hwa] at M2 ⊢
    clear hwa cN cO cB fB cO2
    go_loopw [31] (fun i wr => ∃ r : Nat, r ≤ n ∧ i = .int .i64 (r : Int) ∧ ∃ v', MI w0 n pB gr o v' ((gridL n o).take r) wr) (fun i _ => n - (intOf i).toNat)
    case atStart => exact ⟨0, by omega, rfl, _, M2.out⟩
    case round => as_aux_lemma =>
      obtain ⟨r, hr, rfl, v', hm⟩ := hrel
      have HMr := Lib.hid hm
      by_cases hlt : r < n
      · obtain ⟨vs, hvs1, hvs2, hvs3⟩ := hm.2.2.2
        have cr := hm.read (HC.out.out r hlt)
        have cBr := hm.var
        have HSZ : Hid (w0.heap.size ≤ wr.heap.size) := hm.size
        have hvl : Hid (vs.length ≤ 1000000) := by
          show vs.length ≤ 1000000
          rw [hvs2, List.length_take]; omega
        have HI : Hid (Ints wr (some ⟨gr r, 0, none⟩) n (lineM n o r)) := (hm.2.1 r hlt).ints' (lineM_len n o r) (by omega)
        have HN : Hid ((gridL n o).take (r + 1) = (gridL n o).take r ++ [lineM n o r]) := by
          show (gridL n o).take (r + 1) = (gridL n o).take r ++ [lineM n o r]
          rw [List.take_succ_eq_append_getElem (by rw [gridL_len]; exact hlt)]
          congr 2
          have := gridL_get o hlt
          simpa [List.getD_eq_getElem?_getD, gridL_len, hlt] using this
        have K68 : Hid (∀ W, W.heap = wr.heap → Calls Tryd.prog 68 #[.slice (some ⟨gr r, 0, none⟩) n n] W fun e w' => ∃ A c, e = .returned (.slice A n c) ∧ Row w' W.heap.size (.slice A n c) (lineM n o r) ∧ Below W.heap.size W w') := fun W h => by
          refine (f68_any (some ⟨gr r, 0, none⟩) n n (lineM n o r) W (by have h2 := HI.out; unfold Ints World.cell? at h2 ⊢; rw [h]; exact h2) (fun h => absurd h (by simp)) (by omega)).mono ?_
          rintro e w' ⟨v, rfl, h1, h2⟩
          have hll := lineM_len n o r
          obtain ⟨A, c, rfl, _⟩ := h1.form3 (by omega)
          rw [hll] at h1 ⊢
          exact ⟨A, c, rfl, h1, h2⟩
        have HV : Hid (∀ W, Below wr.heap.size wr W → W.cell? ⟨pB, 0, none⟩ = some v') := Lib.hid fun W h => (hm.below h).var
        have R1 : Hid (∀ W, Below wr.heap.size wr W → RowV W w0.heap.size v' vs) := Lib.hid fun W h => hvs1.below h
        have HP := Lib.hid (fun (W w' : World) (u v2 : Value) (hb : Below wr.heap.size wr W) (hu : Row W w0.heap.size u (lineM n o r)) (hg : W.grownBy w' v'.ownBlock) (hr : RowV w' w0.heap.size v2 (vs ++ [u])) => (⟨hm.push HC.out hvs1 hvs2 hvs3 hb hu hg hr, hm.pushVar HC.out hvs1 hb hg⟩ : _ ∧ _))
        have r0 : (0 : Int) ≤ (r : Int) := by omega
        have rn : (r : Int) < (n : Int) := by omega
        clear hm hvs1 hvs2 hvs3
        go_wp2_with fail
        refine wp_region_held_drew (S := fun _ => True) (by kernel_rfl) trivial (fun _ => ?_)
        refine wpAnyH_take (i := 1) (oi := { dst := some 36, op := Op.move (Operand.tmp 8), type := 29, pos := "mate.go:104", after := #[], guard := none }) (v := .slice (some ⟨gr r, 0, none⟩) n n) rfl (by kernel_rfl) (by kernel_rfl) (by kernel_rfl) (fun _ _ _ h => h) (Or.inl ⟨by kernel_rfl, fun W _ => by kernel_rfl⟩) trivial ?_
        try simp only [Act.put, List.setIfInBounds_toArray, List.set_cons_zero, List.set_cons_succ]
        refine wpAnyH_ready (rs := [0, 2]) (by kernel_rfl) (by simp) ?_
        refine AllReadyH.cons (o := { dst := some 35, op := Op.load 22 (Operand.tmp 2), type := 22, pos := "mate.go:104", after := #[], guard := none }) rfl (fun K hK => ?_) (AllReadyH.cons (o := { dst := some 37, op := Op.call { callee := Callee.value (Operand.func 68), args := #[Operand.tmp 36], argTypes := #[29] }, type := 29, pos := "mate.go:104", after := #[{ on := 1, ground := Ground.data }], guard := none }) rfl (fun K hK => ?_) AllReadyH.nil)
        · skip
          go_simp
          refine hK.out _ _ trivial (fun _ => ?_)
          clear hK K
          try simp only [Act.put, List.setIfInBounds_toArray, List.set_cons_zero, List.set_cons_succ]
          refine wpAnyH_ready (rs := [2]) (by kernel_rfl) (by simp) ?_
          refine AllReadyH.cons (o := { dst := some 37, op := Op.call { callee := Callee.value (Operand.func 68), args := #[Operand.tmp 36], argTypes := #[29] }, type := 29, pos := "mate.go:104", after := #[{ on := 1, ground := Ground.data }], guard := none }) rfl (fun K hK => ?_) AllReadyH.nil
          go_simp
          refine (K68.out _ (by rfl)).mono ?_
          rintro e w4 ⟨A4, c4, rfl, hr4, hb4⟩
          have hq1 : Below wr.heap.size wr w4 := (by first | exact hb4 | exact below_step (a := wr) (b := wr.drew) (below_drewN (Below.refl _ _) 1) hb4)
          have HR4 : Hid (Row w4 w0.heap.size (.slice A4 n c4) (lineM n o r)) := Lib.hid (hr4.mono HSZ.out)
          have HQ1 := Lib.hid hq1
          have hv4 := HV.out _ hq1
          have HQ5 : Hid (Below wr.heap.size wr (w4.alloc (.cells #[.slice A4 n c4] 29))) := Lib.hid (hq1.alloc hq1.size _)
          have hv5 := HV.out _ HQ5.out
          have R5 : Hid (∀ W : World, W.heap = (w4.alloc (.cells #[.slice A4 n c4] 29)).heap → W.cell? ⟨w4.heap.size, 0, none⟩ = some (.slice A4 n c4)) := Lib.hid fun W e => by
            rw [World.cell?_of_block (congrArg (fun h => h[w4.heap.size]?) e), cell_of_row _ _ 0 _ _ _ (heap_alloc_new w4 _)]; rfl
          clear hr4 hb4 hq1
          refine hK.out _ _ trivial (fun _ => ?_)
          clear hK K
          try simp only [Act.put, List.setIfInBounds_toArray, List.set_cons_zero, List.set_cons_succ]
          refine wpAnyH_ready (rs := [3]) (by kernel_rfl) (by simp) ?_
          refine AllReadyH.cons (o := { dst := some 38, op := Op.buildSlice 22 1 #[(0, Operand.tmp 37)], type := 22, pos := "mate.go:104", after := #[{ on := 2, ground := Ground.data }], guard := none }) rfl (fun K hK => ?_) AllReadyH.nil
          go_simp
          refine hK.out _ _ trivial (fun _ => ?_)
          clear hK K
          try simp only [Act.put, List.setIfInBounds_toArray, List.set_cons_zero, List.set_cons_succ]
          refine wpAnyH_ready (rs := [4]) (by kernel_rfl) (by simp) ?_
          refine AllReadyH.cons (o := { dst := some 39, op := Op.call { callee := Callee.builtin Builtin.append, args := #[Operand.tmp 35, Operand.tmp 38], argTypes := #[22, 22] }, type := 22, pos := "mate.go:104", after := #[{ on := 0, ground := Ground.data }, { on := 3, ground := Ground.data }, { on := 2, ground := Ground.chain }], guard := none }) rfl (fun K hK => ?_) AllReadyH.nil
          refine step_pushV (by rfl) _ _ (by rfl) w0.heap.size v' vs (by rfl) (R1.out _ (by first | exact HQ5.out | exact HQ5.out.drew)) w4.heap.size 1 A4 n c4 (by rfl) (R5.out _ (by rfl)) hvl.out (Nat.le_trans HSZ.out (Below.size (by first | exact HQ5.out | exact HQ5.out.drew))) ?_
          intro v2 w' hr' hg' _
          obtain ⟨HP1, HP2, HP3⟩ := HP.out _ _ _ _ (by first | exact HQ5.out | exact HQ5.out.drew) (Row.below HR4.out (by first | exact below_alloc w4 _ | exact (below_alloc w4 _).drew)) hg' hr'
          obtain ⟨A2, c2, e2, _⟩ := hr'.form
          generalize (vs ++ [Value.slice A4 n c4]).length = len2 at e2
          subst e2
          have HQ2 := Lib.hid HP1
          clear HP1 hg' hr'
          refine hK.out _ _ trivial (fun _ => ?_)
          clear hK K
          try simp only [Act.put, List.setIfInBounds_toArray, List.set_cons_zero, List.set_cons_succ]
          refine wpAnyH_ready (rs := [5]) (by kernel_rfl) (by simp) ?_
          refine AllReadyH.cons (o := { dst := none, op := Op.store 22 (Operand.tmp 2) (Operand.tmp 39), type := 0, pos := "mate.go:104", after := #[{ on := 4, ground := Ground.data }, { on := 4, ground := Ground.chain }, { on := 0, ground := Ground.phase }, { on := 1, ground := Ground.phase }, { on := 2, ground := Ground.phase }, { on := 3, ground := Ground.phase }, { on := 4, ground := Ground.phase }], guard := none }) rfl (fun K hK => ?_) AllReadyH.nil
          go_simp
          refine hK.out _ _ trivial (fun _ => ?_)
          clear hK K
          try simp only [Act.put, List.setIfInBounds_toArray, List.set_cons_zero, List.set_cons_succ]
          refine wpAnyH_done (by kernel_rfl) ?_ _
          go_wp2
          go_roundw
          case rel => exact ⟨r + 1, by omega, by go_num, _, by rw [HN.out]; exact HQ2.out⟩
          case measure => simp [intOf]; omega
        · skip
          go_simp
          refine (K68.out _ (by rfl)).mono ?_
          rintro e w4 ⟨A4, c4, rfl, hr4, hb4⟩
          have hq1 : Below wr.heap.size wr w4 := (by first | exact hb4 | exact below_step (a := wr) (b := wr.drew) (below_drewN (Below.refl _ _) 1) hb4)
          have HR4 : Hid (Row w4 w0.heap.size (.slice A4 n c4) (lineM n o r)) := Lib.hid (hr4.mono HSZ.out)
          have HQ1 := Lib.hid hq1
          have hv4 := HV.out _ hq1
          have HQ5 : Hid (Below wr.heap.size wr (w4.alloc (.cells #[.slice A4 n c4] 29))) := Lib.hid (hq1.alloc hq1.size _)
          have hv5 := HV.out _ HQ5.out
          have R5 : Hid (∀ W : World, W.heap = (w4.alloc (.cells #[.slice A4 n c4] 29)).heap → W.cell? ⟨w4.heap.size, 0, none⟩ = some (.slice A4 n c4)) := Lib.hid fun W e => by
            rw [World.cell?_of_block (congrArg (fun h => h[w4.heap.size]?) e), cell_of_row _ _ 0 _ _ _ (heap_alloc_new w4 _)]; rfl
          clear hr4 hb4 hq1
          refine hK.out _ _ trivial (fun _ => ?_)
          clear hK K
          try simp only [Act.put, List.setIfInBounds_toArray, List.set_cons_zero, List.set_cons_succ]
          refine wpAnyH_ready (rs := [0, 3]) (by kernel_rfl) (by simp) ?_
          refine AllReadyH.cons (o := { dst := some 35, op := Op.load 22 (Operand.tmp 2), type := 22, pos := "mate.go:104", after := #[], guard := none }) rfl (fun K hK => ?_) (AllReadyH.cons (o := { dst := some 38, op := Op.buildSlice 22 1 #[(0, Operand.tmp 37)], type := 22, pos := "mate.go:104", after := #[{ on := 2, ground := Ground.data }], guard := none }) rfl (fun K hK => ?_) AllReadyH.nil)
          · skip
            go_simp
            refine hK.out _ _ trivial (fun _ => ?_)
            clear hK K
            try simp only [Act.put, List.setIfInBounds_toArray, List.set_cons_zero, List.set_cons_succ]
            refine wpAnyH_ready (rs := [3]) (by kernel_rfl) (by simp) ?_
            refine AllReadyH.cons (o := { dst := some 38, op := Op.buildSlice 22 1 #[(0, Operand.tmp 37)], type := 22, pos := "mate.go:104", after := #[{ on := 2, ground := Ground.data }], guard := none }) rfl (fun K hK => ?_) AllReadyH.nil
            go_simp
            refine hK.out _ _ trivial (fun _ => ?_)
            clear hK K
            try simp only [Act.put, List.setIfInBounds_toArray, List.set_cons_zero, List.set_cons_succ]
            refine wpAnyH_ready (rs := [4]) (by kernel_rfl) (by simp) ?_
            refine AllReadyH.cons (o := { dst := some 39, op := Op.call { callee := Callee.builtin Builtin.append, args := #[Operand.tmp 35, Operand.tmp 38], argTypes := #[22, 22] }, type := 22, pos := "mate.go:104", after := #[{ on := 0, ground := Ground.data }, { on := 3, ground := Ground.data }, { on := 2, ground := Ground.chain }], guard := none }) rfl (fun K hK => ?_) AllReadyH.nil
            refine step_pushV (by rfl) _ _ (by rfl) w0.heap.size v' vs (by rfl) (R1.out _ (by first | exact HQ5.out | exact HQ5.out.drew)) w4.heap.size 1 A4 n c4 (by rfl) (R5.out _ (by rfl)) hvl.out (Nat.le_trans HSZ.out (Below.size (by first | exact HQ5.out | exact HQ5.out.drew))) ?_
            intro v2 w' hr' hg' _
            obtain ⟨HP1, HP2, HP3⟩ := HP.out _ _ _ _ (by first | exact HQ5.out | exact HQ5.out.drew) (Row.below HR4.out (by first | exact below_alloc w4 _ | exact (below_alloc w4 _).drew)) hg' hr'
            obtain ⟨A2, c2, e2, _⟩ := hr'.form
            generalize (vs ++ [Value.slice A4 n c4]).length = len2 at e2
            subst e2
            have HQ2 := Lib.hid HP1
            clear HP1 hg' hr'
            refine hK.out _ _ trivial (fun _ => ?_)
            clear hK K
            try simp only [Act.put, List.setIfInBounds_toArray, List.set_cons_zero, List.set_cons_succ]
            refine wpAnyH_ready (rs := [5]) (by kernel_rfl) (by simp) ?_
            refine AllReadyH.cons (o := { dst := none, op := Op.store 22 (Operand.tmp 2) (Operand.tmp 39), type := 0, pos := "mate.go:104", after := #[{ on := 4, ground := Ground.data }, { on := 4, ground := Ground.chain }, { on := 0, ground := Ground.phase }, { on := 1, ground := Ground.phase }, { on := 2, ground := Ground.phase }, { on := 3, ground := Ground.phase }, { on := 4, ground := Ground.phase }], guard := none }) rfl (fun K hK => ?_) AllReadyH.nil
            go_simp
            refine hK.out _ _ trivial (fun _ => ?_)
            clear hK K
            try simp only [Act.put, List.setIfInBounds_toArray, List.set_cons_zero, List.set_cons_succ]
            refine wpAnyH_done (by kernel_rfl) ?_ _
            go_wp2
            go_roundw
            case rel => exact ⟨r + 1, by omega, by go_num, _, by rw [HN.out]; exact HQ2.out⟩
            case measure => simp [intOf]; omega
          · skip
            go_simp
            refine hK.out _ _ trivial (fun _ => ?_)
            clear hK K
            try simp only [Act.put, List.setIfInBounds_toArray, List.set_cons_zero, List.set_cons_succ]
            refine wpAnyH_ready (rs := [0]) (by kernel_rfl) (by simp) ?_
            refine AllReadyH.cons (o := { dst := some 35, op := Op.load 22 (Operand.tmp 2), type := 22, pos := "mate.go:104", after := #[], guard := none }) rfl (fun K hK => ?_) AllReadyH.nil
            go_simp
            refine hK.out _ _ trivial (fun _ => ?_)
            clear hK K
            try simp only [Act.put, List.setIfInBounds_toArray, List.set_cons_zero, List.set_cons_succ]
            refine wpAnyH_ready (rs := [4]) (by kernel_rfl) (by simp) ?_
            refine AllReadyH.cons (o := { dst := some 39, op := Op.call { callee := Callee.builtin Builtin.append, args := #[Operand.tmp 35, Operand.tmp 38], argTypes := #[22, 22] }, type := 22, pos := "mate.go:104", after := #[{ on := 0, ground := Ground.data }, { on := 3, ground := Ground.data }, { on := 2, ground := Ground.chain }], guard := none }) rfl (fun K hK => ?_) AllReadyH.nil
            refine step_pushV (by rfl) _ _ (by rfl) w0.heap.size v' vs (by rfl) (R1.out _ (by first | exact HQ5.out | exact HQ5.out.drew)) w4.heap.size 1 A4 n c4 (by rfl) (R5.out _ (by rfl)) hvl.out (Nat.le_trans HSZ.out (Below.size (by first | exact HQ5.out | exact HQ5.out.drew))) ?_
            intro v2 w' hr' hg' _
            obtain ⟨HP1, HP2, HP3⟩ := HP.out _ _ _ _ (by first | exact HQ5.out | exact HQ5.out.drew) (Row.below HR4.out (by first | exact below_alloc w4 _ | exact (below_alloc w4 _).drew)) hg' hr'
            obtain ⟨A2, c2, e2, _⟩ := hr'.form
            generalize (vs ++ [Value.slice A4 n c4]).length = len2 at e2
            subst e2
            have HQ2 := Lib.hid HP1
            clear HP1 hg' hr'
            refine hK.out _ _ trivial (fun _ => ?_)
            clear hK K
            try simp only [Act.put, List.setIfInBounds_toArray, List.set_cons_zero, List.set_cons_succ]
            refine wpAnyH_ready (rs := [5]) (by kernel_rfl) (by simp) ?_
            refine AllReadyH.cons (o := { dst := none, op := Op.store 22 (Operand.tmp 2) (Operand.tmp 39), type := 0, pos := "mate.go:104", after := #[{ on := 4, ground := Ground.data }, { on := 4, ground := Ground.chain }, { on := 0, ground := Ground.phase }, { on := 1, ground := Ground.phase }, { on := 2, ground := Ground.phase }, { on := 3, ground := Ground.phase }, { on := 4, ground := Ground.phase }], guard := none }) rfl (fun K hK => ?_) AllReadyH.nil
            go_simp
            refine hK.out _ _ trivial (fun _ => ?_)
            clear hK K
            try simp only [Act.put, List.setIfInBounds_toArray, List.set_cons_zero, List.set_cons_succ]
            refine wpAnyH_done (by kernel_rfl) ?_ _
            go_wp2
            go_roundw
            case rel => exact ⟨r + 1, by omega, by go_num, _, by rw [HN.out]; exact HQ2.out⟩
            case measure => simp [intOf]; omega
      · obtain rfl : r = n := by omega
        have HF : Hid (MI w0 r pB gr o v' (gridL r o) wr) := by
          have h := HMr.out
          rw [List.take_of_length_le (by rw [gridL_len]; omega)] at h
          exact h
        clear hm HMr
        go_wp2
        ((try simp only [Exit.inBlock, Exit.then]); refine bodyPost_ret (results_none rfl _ _ _) rfl ?_)
        exact ⟨rfl, v', by rw [HU.out]; exact HF.out, fun h => absurd (HU.out.symm.trans h) hne⟩
  · have hsq : sqShape n best := hG.resolve_left hb0
    have K65 := Lib.hid (f65_any (some ⟨gO, 0, none⟩) A n n n c (gridL n o) best w (hM.outB hC hn (by omega)) (by have := hbn.beds; rw [hsq.1] at this; exact this) (fun i hi => (gridL_shape n o).2 i hi) (fun i hi => hsq.2 i hi))
    rw [hsq.1] at hv
    obtain ⟨ba, oa, hA, _⟩ := hbn.2.2.2.2 (by rw [hsq.1]; exact hn)
    subst hA hv
    by_cases hlt : cmpG (gridL n o) best < 0
    · have HU : Hid (mtF n T 0 n o best = gridL n o) := by show updM n o best = gridL n o; unfold updM; rw [if_neg hb0, if_pos hlt]
      have hq2 : decide (cmpG (gridL n o) best < 0) = true := decide_eq_true hlt
      generalize cmpG (gridL n o) best = z at *
      have hen := enter66
      clear hM hC hG hnil ho hbn hlt
      have cO2 := (HM.out.setB HC.out (BRow.nil w w0.heap.size)).read HC.out.cO
      have M2 := Lib.hid (HM.out.setB HC.out (BRow.nil w w0.heap.size))
      go_enter Tryd.func64, Tryd.ntmps64
      go_wp2_with fail
      refine K65.out.mono ?_
      rintro e w1 ⟨rfl, rfl⟩
      go_wp2
      obtain ⟨wa, hwa⟩ : ∃ z, z = w.setCell ⟨pB, 0, none⟩ (.slice none 0 0) := ⟨_, rfl⟩
      rw [← hwa] at M2 ⊢
      clear hwa cN cO cB fB cO2
      go_loopw [31] (fun i wr => ∃ r : Nat, r ≤ n ∧ i = .int .i64 (r : Int) ∧ ∃ v', MI w0 n pB gr o v' ((gridL n o).take r) wr) (fun i _ => n - (intOf i).toNat)
      case atStart => exact ⟨0, by omega, rfl, _, M2.out⟩
      case round => as_aux_lemma =>
        obtain ⟨r, hr, rfl, v', hm⟩ := hrel
        have HMr := Lib.hid hm
        by_cases hlt : r < n
        · obtain ⟨vs, hvs1, hvs2, hvs3⟩ := hm.2.2.2
          have cr := hm.read (HC.out.out r hlt)
          have cBr := hm.var
          have HSZ : Hid (w0.heap.size ≤ wr.heap.size) := hm.size
          have hvl : Hid (vs.length ≤ 1000000) := by
            show vs.length ≤ 1000000
            rw [hvs2, List.length_take]; omega
          have HI : Hid (Ints wr (some ⟨gr r, 0, none⟩) n (lineM n o r)) := (hm.2.1 r hlt).ints' (lineM_len n o r) (by omega)
          have HN : Hid ((gridL n o).take (r + 1) = (gridL n o).take r ++ [lineM n o r]) := by
            show (gridL n o).take (r + 1) = (gridL n o).take r ++ [lineM n o r]
            rw [List.take_succ_eq_append_getElem (by rw [gridL_len]; exact hlt)]
            congr 2
            have := gridL_get o hlt
            simpa [List.getD_eq_getElem?_getD, gridL_len, hlt] using this
          have K68 : Hid (∀ W, W.heap = wr.heap → Calls Tryd.prog 68 #[.slice (some ⟨gr r, 0, none⟩) n n] W fun e w' => ∃ A c, e = .returned (.slice A n c) ∧ Row w' W.heap.size (.slice A n c) (lineM n o r) ∧ Below W.heap.size W w') := fun W h => by
            refine (f68_any (some ⟨gr r, 0, none⟩) n n (lineM n o r) W (by have h2 := HI.out; unfold Ints World.cell? at h2 ⊢; rw [h]; exact h2) (fun h => absurd h (by simp)) (by omega)).mono ?_
            rintro e w' ⟨v, rfl, h1, h2⟩
            have hll := lineM_len n o r
            obtain ⟨A, c, rfl, _⟩ := h1.form3 (by omega)
            rw [hll] at h1 ⊢
            exact ⟨A, c, rfl, h1, h2⟩
          have HV : Hid (∀ W, Below wr.heap.size wr W → W.cell? ⟨pB, 0, none⟩ = some v') := Lib.hid fun W h => (hm.below h).var
          have R1 : Hid (∀ W, Below wr.heap.size wr W → RowV W w0.heap.size v' vs) := Lib.hid fun W h => hvs1.below h
          have HP := Lib.hid (fun (W w' : World) (u v2 : Value) (hb : Below wr.heap.size wr W) (hu : Row W w0.heap.size u (lineM n o r)) (hg : W.grownBy w' v'.ownBlock) (hr : RowV w' w0.heap.size v2 (vs ++ [u])) => (⟨hm.push HC.out hvs1 hvs2 hvs3 hb hu hg hr, hm.pushVar HC.out hvs1 hb hg⟩ : _ ∧ _))
          have r0 : (0 : Int) ≤ (r : Int) := by omega
          have rn : (r : Int) < (n : Int) := by omega
          clear hm hvs1 hvs2 hvs3
          go_wp2_with fail
          refine wp_region_held_drew (S := fun _ => True) (by kernel_rfl) trivial (fun _ => ?_)
          refine wpAnyH_take (i := 1) (oi := { dst := some 36, op := Op.move (Operand.tmp 8), type := 29, pos := "mate.go:104", after := #[], guard := none }) (v := .slice (some ⟨gr r, 0, none⟩) n n) rfl (by kernel_rfl) (by kernel_rfl) (by kernel_rfl) (fun _ _ _ h => h) (Or.inl ⟨by kernel_rfl, fun W _ => by kernel_rfl⟩) trivial ?_
          try simp only [Act.put, List.setIfInBounds_toArray, List.set_cons_zero, List.set_cons_succ]
          refine wpAnyH_ready (rs := [0, 2]) (by kernel_rfl) (by simp) ?_
          refine AllReadyH.cons (o := { dst := some 35, op := Op.load 22 (Operand.tmp 2), type := 22, pos := "mate.go:104", after := #[], guard := none }) rfl (fun K hK => ?_) (AllReadyH.cons (o := { dst := some 37, op := Op.call { callee := Callee.value (Operand.func 68), args := #[Operand.tmp 36], argTypes := #[29] }, type := 29, pos := "mate.go:104", after := #[{ on := 1, ground := Ground.data }], guard := none }) rfl (fun K hK => ?_) AllReadyH.nil)
          · skip
            go_simp
            refine hK.out _ _ trivial (fun _ => ?_)
            clear hK K
            try simp only [Act.put, List.setIfInBounds_toArray, List.set_cons_zero, List.set_cons_succ]
            refine wpAnyH_ready (rs := [2]) (by kernel_rfl) (by simp) ?_
            refine AllReadyH.cons (o := { dst := some 37, op := Op.call { callee := Callee.value (Operand.func 68), args := #[Operand.tmp 36], argTypes := #[29] }, type := 29, pos := "mate.go:104", after := #[{ on := 1, ground := Ground.data }], guard := none }) rfl (fun K hK => ?_) AllReadyH.nil
            go_simp
            refine (K68.out _ (by rfl)).mono ?_
            rintro e w4 ⟨A4, c4, rfl, hr4, hb4⟩
            have hq1 : Below wr.heap.size wr w4 := (by first | exact hb4 | exact below_step (a := wr) (b := wr.drew) (below_drewN (Below.refl _ _) 1) hb4)
            have HR4 : Hid (Row w4 w0.heap.size (.slice A4 n c4) (lineM n o r)) := Lib.hid (hr4.mono HSZ.out)
            have HQ1 := Lib.hid hq1
            have hv4 := HV.out _ hq1
            have HQ5 : Hid (Below wr.heap.size wr (w4.alloc (.cells #[.slice A4 n c4] 29))) := Lib.hid (hq1.alloc hq1.size _)
            have hv5 := HV.out _ HQ5.out
            have R5 : Hid (∀ W : World, W.heap = (w4.alloc (.cells #[.slice A4 n c4] 29)).heap → W.cell? ⟨w4.heap.size, 0, none⟩ = some (.slice A4 n c4)) := Lib.hid fun W e => by
              rw [World.cell?_of_block (congrArg (fun h => h[w4.heap.size]?) e), cell_of_row _ _ 0 _ _ _ (heap_alloc_new w4 _)]; rfl
            clear hr4 hb4 hq1
            refine hK.out _ _ trivial (fun _ => ?_)
            clear hK K
            try simp only [Act.put, List.setIfInBounds_toArray, List.set_cons_zero, List.set_cons_succ]
            refine wpAnyH_ready (rs := [3]) (by kernel_rfl) (by simp) ?_
            refine AllReadyH.cons (o := { dst := some 38, op := Op.buildSlice 22 1 #[(0, Operand.tmp 37)], type := 22, pos := "mate.go:104", after := #[{ on := 2, ground := Ground.data }], guard := none }) rfl (fun K hK => ?_) AllReadyH.nil
            go_simp
            refine hK.out _ _ trivial (fun _ => ?_)
            clear hK K
            try simp only [Act.put, List.setIfInBounds_toArray, List.set_cons_zero, List.set_cons_succ]
            refine wpAnyH_ready (rs := [4]) (by kernel_rfl) (by simp) ?_
            refine AllReadyH.cons (o := { dst := some 39, op := Op.call { callee := Callee.builtin Builtin.append, args := #[Operand.tmp 35, Operand.tmp 38], argTypes := #[22, 22] }, type := 22, pos := "mate.go:104", after := #[{ on := 0, ground := Ground.data }, { on := 3, ground := Ground.data }, { on := 2, ground := Ground.chain }], guard := none }) rfl (fun K hK => ?_) AllReadyH.nil
            refine step_pushV (by rfl) _ _ (by rfl) w0.heap.size v' vs (by rfl) (R1.out _ (by first | exact HQ5.out | exact HQ5.out.drew)) w4.heap.size 1 A4 n c4 (by rfl) (R5.out _ (by rfl)) hvl.out (Nat.le_trans HSZ.out (Below.size (by first | exact HQ5.out | exact HQ5.out.drew))) ?_
            intro v2 w' hr' hg' _
            obtain ⟨HP1, HP2, HP3⟩ := HP.out _ _ _ _ (by first | exact HQ5.out | exact HQ5.out.drew) (Row.below HR4.out (by first | exact below_alloc w4 _ | exact (below_alloc w4 _).drew)) hg' hr'
            obtain ⟨A2, c2, e2, _⟩ := hr'.form
            generalize (vs ++ [Value.slice A4 n c4]).length = len2 at e2
            subst e2
            have HQ2 := Lib.hid HP1
            clear HP1 hg' hr'
            refine hK.out _ _ trivial (fun _ => ?_)
            clear hK K
            try simp only [Act.put, List.setIfInBounds_toArray, List.set_cons_zero, List.set_cons_succ]
            refine wpAnyH_ready (rs := [5]) (by kernel_rfl) (by simp) ?_
            refine AllReadyH.cons (o := { dst := none, op := Op.store 22 (Operand.tmp 2) (Operand.tmp 39), type := 0, pos := "mate.go:104", after := #[{ on := 4, ground := Ground.data }, { on := 4, ground := Ground.chain }, { on := 0, ground := Ground.phase }, { on := 1, ground := Ground.phase }, { on := 2, ground := Ground.phase }, { on := 3, ground := Ground.phase }, { on := 4, ground := Ground.phase }], guard := none }) rfl (fun K hK => ?_) AllReadyH.nil
            go_simp
            refine hK.out _ _ trivial (fun _ => ?_)
            clear hK K
            try simp only [Act.put, List.setIfInBounds_toArray, List.set_cons_zero, List.set_cons_succ]
            refine wpAnyH_done (by kernel_rfl) ?_ _
            go_wp2
            go_roundw
            case rel => exact ⟨r + 1, by omega, by go_num, _, by rw [HN.out]; exact HQ2.out⟩
            case measure => simp [intOf]; omega
          · skip
            go_simp
            refine (K68.out _ (by rfl)).mono ?_
            rintro e w4 ⟨A4, c4, rfl, hr4, hb4⟩
            have hq1 : Below wr.heap.size wr w4 := (by first | exact hb4 | exact below_step (a := wr) (b := wr.drew) (below_drewN (Below.refl _ _) 1) hb4)
            have HR4 : Hid (Row w4 w0.heap.size (.slice A4 n c4) (lineM n o r)) := Lib.hid (hr4.mono HSZ.out)
            have HQ1 := Lib.hid hq1
            have hv4 := HV.out _ hq1
            have HQ5 : Hid (Below wr.heap.size wr (w4.alloc (.cells #[.slice A4 n c4] 29))) := Lib.hid (hq1.alloc hq1.size _)
            have hv5 := HV.out _ HQ5.out
            have R5 : Hid (∀ W : World, W.heap = (w4.alloc (.cells #[.slice A4 n c4] 29)).heap → W.cell? ⟨w4.heap.size, 0, none⟩ = some (.slice A4 n c4)) := Lib.hid fun W e => by
              rw [World.cell?_of_block (congrArg (fun h => h[w4.heap.size]?) e), cell_of_row _ _ 0 _ _ _ (heap_alloc_new w4 _)]; rfl
            clear hr4 hb4 hq1
            refine hK.out _ _ trivial (fun _ => ?_)
            clear hK K
            try simp only [Act.put, List.setIfInBounds_toArray, List.set_cons_zero, List.set_cons_succ]
            refine wpAnyH_ready (rs := [0, 3]) (by kernel_rfl) (by simp) ?_
            refine AllReadyH.cons (o := { dst := some 35, op := Op.load 22 (Operand.tmp 2), type := 22, pos := "mate.go:104", after := #[], guard := none }) rfl (fun K hK => ?_) (AllReadyH.cons (o := { dst := some 38, op := Op.buildSlice 22 1 #[(0, Operand.tmp 37)], type := 22, pos := "mate.go:104", after := #[{ on := 2, ground := Ground.data }], guard := none }) rfl (fun K hK => ?_) AllReadyH.nil)
            · skip
              go_simp
              refine hK.out _ _ trivial (fun _ => ?_)
              clear hK K
              try simp only [Act.put, List.setIfInBounds_toArray, List.set_cons_zero, List.set_cons_succ]
              refine wpAnyH_ready (rs := [3]) (by kernel_rfl) (by simp) ?_
              refine AllReadyH.cons (o := { dst := some 38, op := Op.buildSlice 22 1 #[(0, Operand.tmp 37)], type := 22, pos := "mate.go:104", after := #[{ on := 2, ground := Ground.data }], guard := none }) rfl (fun K hK => ?_) AllReadyH.nil
              go_simp
              refine hK.out _ _ trivial (fun _ => ?_)
              clear hK K
              try simp only [Act.put, List.setIfInBounds_toArray, List.set_cons_zero, List.set_cons_succ]
              refine wpAnyH_ready (rs := [4]) (by kernel_rfl) (by simp) ?_
              refine AllReadyH.cons (o := { dst := some 39, op := Op.call { callee := Callee.builtin Builtin.append, args := #[Operand.tmp 35, Operand.tmp 38], argTypes := #[22, 22] }, type := 22, pos := "mate.go:104", after := #[{ on := 0, ground := Ground.data }, { on := 3, ground := Ground.data }, { on := 2, ground := Ground.chain }], guard := none }) rfl (fun K hK => ?_) AllReadyH.nil
              refine step_pushV (by rfl) _ _ (by rfl) w0.heap.size v' vs (by rfl) (R1.out _ (by first | exact HQ5.out | exact HQ5.out.drew)) w4.heap.size 1 A4 n c4 (by rfl) (R5.out _ (by rfl)) hvl.out (Nat.le_trans HSZ.out (Below.size (by first | exact HQ5.out | exact HQ5.out.drew))) ?_
              intro v2 w' hr' hg' _
              obtain ⟨HP1, HP2, HP3⟩ := HP.out _ _ _ _ (by first | exact HQ5.out | exact HQ5.out.drew) (Row.below HR4.out (by first | exact below_alloc w4 _ | exact (below_alloc w4 _).drew)) hg' hr'
              obtain ⟨A2, c2, e2, _⟩ := hr'.form
              generalize (vs ++ [Value.slice A4 n c4]).length = len2 at e2
              subst e2
              have HQ2 := Lib.hid HP1
              clear HP1 hg' hr'
              refine hK.out _ _ trivial (fun _ => ?_)
              clear hK K
              try simp only [Act.put, List.setIfInBounds_toArray, List.set_cons_zero, List.set_cons_succ]
              refine wpAnyH_ready (rs := [5]) (by kernel_rfl) (by simp) ?_
              refine AllReadyH.cons (o := { dst := none, op := Op.store 22 (Operand.tmp 2) (Operand.tmp 39), type := 0, pos := "mate.go:104", after := #[{ on := 4, ground := Ground.data }, { on := 4, ground := Ground.chain }, { on := 0, ground := Ground.phase }, { on := 1, ground := Ground.phase }, { on := 2, ground := Ground.phase }, { on := 3, ground := Ground.phase }, { on := 4, ground := Ground.phase }], guard := none }) rfl (fun K hK => ?_) AllReadyH.nil
              go_simp
              refine hK.out _ _ trivial (fun _ => ?_)
              clear hK K
              try simp only [Act.put, List.setIfInBounds_toArray, List.set_cons_zero, List.set_cons_succ]
              refine wpAnyH_done (by kernel_rfl) ?_ _
              go_wp2
              go_roundw
              case rel => exact ⟨r + 1, by omega, by go_num, _, by rw [HN.out]; exact HQ2.out⟩
              case measure => simp [intOf]; omega
            · skip
              go_simp
              refine hK.out _ _ trivial (fun _ => ?_)
              clear hK K
              try simp only [Act.put, List.setIfInBounds_toArray, List.set_cons_zero, List.set_cons_succ]
              refine wpAnyH_ready (rs := [0]) (by kernel_rfl) (by simp) ?_
              refine AllReadyH.cons (o := { dst := some 35, op := Op.load 22 (Operand.tmp 2), type := 22, pos := "mate.go:104", after := #[], guard := none }) rfl (fun K hK => ?_) AllReadyH.nil
              go_simp
              refine hK.out _ _ trivial (fun _ => ?_)
              clear hK K
              try simp only [Act.put, List.setIfInBounds_toArray, List.set_cons_zero, List.set_cons_succ]
              refine wpAnyH_ready (rs := [4]) (by kernel_rfl) (by simp) ?_
              refine AllReadyH.cons (o := { dst := some 39, op := Op.call { callee := Callee.builtin Builtin.append, args := #[Operand.tmp 35, Operand.tmp 38], argTypes := #[22, 22] }, type := 22, pos := "mate.go:104", after := #[{ on := 0, ground := Ground.data }, { on := 3, ground := Ground.data }, { on := 2, ground := Ground.chain }], guard := none }) rfl (fun K hK => ?_) AllReadyH.nil
              refine step_pushV (by rfl) _ _ (by rfl) w0.heap.size v' vs (by rfl) (R1.out _ (by first | exact HQ5.out | exact HQ5.out.drew)) w4.heap.size 1 A4 n c4 (by rfl) (R5.out _ (by rfl)) hvl.out (Nat.le_trans HSZ.out (Below.size (by first | exact HQ5.out | exact HQ5.out.drew))) ?_
              intro v2 w' hr' hg' _
              obtain ⟨HP1, HP2, HP3⟩ := HP.out _ _ _ _ (by first | exact HQ5.out | exact HQ5.out.drew) (Row.below HR4.out (by first | exact below_alloc w4 _ | exact (below_alloc w4 _).drew)) hg' hr'
              obtain ⟨A2, c2, e2, _⟩ := hr'.form
              generalize (vs ++ [Value.slice A4 n c4]).length = len2 at e2
              subst e2
              have HQ2 := Lib.hid HP1
              clear HP1 hg' hr'
              refine hK.out _ _ trivial (fun _ => ?_)
              clear hK K
              try simp only [Act.put, List.setIfInBounds_toArray, List.set_cons_zero, List.set_cons_succ]
              refine wpAnyH_ready (rs := [5]) (by kernel_rfl) (by simp) ?_
              refine AllReadyH.cons (o := { dst := none, op := Op.store 22 (Operand.tmp 2) (Operand.tmp 39), type := 0, pos := "mate.go:104", after := #[{ on := 4, ground := Ground.data }, { on := 4, ground := Ground.chain }, { on := 0, ground := Ground.phase }, { on := 1, ground := Ground.phase }, { on := 2, ground := Ground.phase }, { on := 3, ground := Ground.phase }, { on := 4, ground := Ground.phase }], guard := none }) rfl (fun K hK => ?_) AllReadyH.nil
              go_simp
              refine hK.out _ _ trivial (fun _ => ?_)
              clear hK K
              try simp only [Act.put, List.setIfInBounds_toArray, List.set_cons_zero, List.set_cons_succ]
              refine wpAnyH_done (by kernel_rfl) ?_ _
              go_wp2
              go_roundw
              case rel => exact ⟨r + 1, by omega, by go_num, _, by rw [HN.out]; exact HQ2.out⟩
              case measure => simp [intOf]; omega
        · obtain rfl : r = n := by omega
          have HF : Hid (MI w0 r pB gr o v' (gridL r o) wr) := by
            have h := HMr.out
            rw [List.take_of_length_le (by rw [gridL_len]; omega)] at h
            exact h
          clear hm HMr
          go_wp2
          ((try simp only [Exit.inBlock, Exit.then]); refine bodyPost_ret (results_none rfl _ _ _) rfl ?_)
          exact ⟨rfl, v', by rw [HU.out]; exact HF.out, fun h => absurd (HU.out.symm.trans h) hne⟩
    · have HU : Hid (mtF n T 0 n o best = best) := by show updM n o best = best; unfold updM; rw [if_neg hb0, if_neg hlt]
      have hq2 : decide (cmpG (gridL n o) best < 0) = false := decide_eq_false hlt
      generalize cmpG (gridL n o) best = z at *
      have hen := enter66
      clear hM hC hG hnil ho hbn hlt
      go_enter Tryd.func64, Tryd.ntmps64
      go_wp2_with fail
      refine K65.out.mono ?_
      rintro e w1 ⟨rfl, rfl⟩
      go_wp2
      ((try simp only [Exit.inBlock, Exit.then]); refine bodyPost_ret (results_none rfl _ _ _) rfl ?_)
      exact ⟨rfl, _, by rw [HU.out]; exact HM.out, fun h => absurd (HU.out.symm.trans h) hb0⟩
end
end Go.Proofs.YtiodednhadnekaaDoor

namespace Go.Proofs.YtiodednhadnekaaDoor
open Go.RowKit Go.Deep
attribute [local go_sem ↓] Go.wp_at_zero Go.wp_at_succ

section
variable (w0 : World) (n pN pB pO pS pOn gO gS : Nat) (gr : Nat → Nat) (T : List (List Nat))
/-- What lies at a place that is tried. -/
theorem MI.spot {w0 w : World} {n pN pB pO pS pOn gO gS : Nat} {gr : Nat → Nat} {T : List (List Nat)} {o : Nat → Nat → Int} {v : Value} {best : List (List Int)} (h : MI w0 n pB gr o v best w) (hC : MCtx w0 n pN pB pO pS pOn gO gS gr T) {r c : Nat} (hr : r < n) (hc : c < n) :
    w.cell? ⟨pO, 0, none⟩ = some (.slice (some ⟨gO, 0, none⟩) n n) ∧ w.cell? ⟨gO, r, none⟩ = some (.slice (some ⟨gr r, 0, none⟩) n n) ∧ w.cell? ⟨gr r, c, none⟩ = some (.int .i64 (o r c)) ∧ w.frozen? ⟨gr r, c, none⟩ = false := by
  have ho := h.2.1 r hr
  refine ⟨h.read hC.cO, h.read (hC.out r hr), ?_, ho.frozen c⟩
  rw [ho.cell c (by rw [lineM_len]; exact hc), lineM_get o r hc]
set_option maxRecDepth 100000 in
set_option maxHeartbeats 8000000 in
theorem f64_step (hC : MCtx w0 n pN pB pO pS pOn gO gS gr T) (hn : 0 < n) (hn5 : n ≤ 5) (f k : Nat) (hk : k < n) (ih : OnM w0 n pN pB pO pS pOn gr T f (k + 1)) : OnM w0 n pN pB pO pS pOn gr T (f + 1) k := by
  intro o v best w hM hG hnil ho
  have HM := Lib.hid hM
  have HC := Lib.hid hC
  have HIH := Lib.hid ih
  have HO := Lib.hid ho
  have HG := Lib.hid hG
  have HNIL := Lib.hid hnil
  obtain ⟨B, m, c, hsc, hm, hent⟩ := hC.sets k hk
  have HENT := Lib.hid hent
  have HSUC : Hid (mtF n T (f + 1) k o best = mtTo n T f k o best m) := by rw [hm]; exact mtF_succ n T f k o best
  have HT : Hid (∀ i, i < m → mtTo n T f k o best (i + 1) = mtStep n T f k o (mtTo n T f k o best i) ((byCol T k).getD i [])) := fun i hi => mtTo_succ (by rw [← hm]; exact hi)
  have HLT : Hid (∀ i, i < m → (((byCol T k).getD i []).length = n ∧ ∀ j, j < n → ((byCol T k).getD i []).getD j 0 < n)) := fun i hi => hC.lens _ (byCol_mem (by rw [← hm]; exact hi))
  have hmm : m ≤ 1000000 := by rw [hm]; exact Nat.le_trans (List.length_filter_le _ _) hC.many
  have cN := hM.read hC.cN
  have cS := hM.read hC.cS
  have cSk := hM.read hsc
  have k0 : (0 : Int) ≤ (k : Int) := by omega
  have kn : (k : Int) < (n : Int) := by omega
  have hq : ((k : Int) == (n : Int)) = false := by simp; omega
  have hen := enter64
  clear hM hC hG hnil ho ih hm hent hsc
  go_enter Tryd.func64, Tryd.ntmps64
  go_wp2
  go_loopw [46] (fun i wr => ∃ q : Nat, q ≤ m ∧ i = .int .i64 (q : Int) ∧ ∃ v', MI w0 n pB gr o v' (mtTo n T f k o best q) wr ∧ (mtTo n T f k o best q = [] → v' = .slice none 0 0)) (fun i _ => m - (intOf i).toNat)
  case atStart => exact ⟨0, by omega, rfl, v, HM.out, HNIL.out⟩
  case round => as_aux_lemma =>
    obtain ⟨q, hqm, rfl, v', hm, hnil⟩ := hrel
    have HMq := Lib.hid hm
    have HNq := Lib.hid hnil
    have HGq := Lib.hid (mtTo_shape (T := T) (f := f) (k := k) (o := o) HG.out q)
    by_cases hlt : q < m
    · obtain ⟨b, ob, rfl, b', o', c', hcb, hcl⟩ := HENT.out q hlt
      obtain ⟨hl1, hl2⟩ := HLT.out q hlt
      have HNX := HT.out q hlt
      obtain ⟨bst, hbst⟩ : ∃ z, z = mtTo n T f k o best q := ⟨_, rfl⟩
      obtain ⟨l, hl⟩ : ∃ z, z = (byCol T k).getD q [] := ⟨_, rfl⟩
      rw [← hbst] at HMq HNq HGq HNX
      rw [← hl] at hcl hl1 hl2 HNX
      have HL2 := Lib.hid hl2
      have HCL : Hid (∀ (o2 : Nat → Nat → Int) (v2 : Value) (b2 : List (List Int)) (W : World) (j : Nat), MI w0 n pB gr o2 v2 b2 W → j < n → W.cell? ⟨b', o' + j, none⟩ = some (.int .i64 (l.getD j 0 : Nat))) := fun o2 v2 b2 W j h hj => h.read (hcl j hj)
      have HNX' := Lib.hid HNX
      have cb := hm.read hcb
      have q0 : (0 : Int) ≤ (q : Int) := by omega
      have qm : (q : Int) < (m : Int) := by omega
      clear hm hnil hcb hcl hl2 HNX hbst hl
      go_wp2
      go_loop [52, 11] (fun i t => ∃ r : Nat, r ≤ n ∧ i = .int .i64 (r : Int) ∧ t = .bool (freeTo r l o)) (fun i _ => n - (intOf i).toNat)
      case atStart => exact ⟨0, by omega, rfl, rfl⟩
      case round => as_aux_lemma =>
        obtain ⟨r, hr, rfl, rfl⟩ := hrel
        by_cases hrn : r < n
        · have cl := HCL.out _ _ _ _ r HMq.out hrn
          have hx := HL2.out r hrn
          have HFS := Lib.hid (freeTo_succ r l o)
          obtain ⟨s1, s2, s3, _⟩ := HMq.out.spot HC.out hrn hx
          generalize l.getD r 0 = x at *
          have r0 : (0 : Int) ≤ (r : Int) := by omega
          have rn : (r : Int) < (n : Int) := by omega
          have x0 : (0 : Int) ≤ (x : Int) := by omega
          have xn : (x : Int) < (n : Int) := by omega
          generalize o r x = y at *
          cases hf : freeTo r l o
          · rw [hf, Bool.false_and] at HFS
            have HFS' := Lib.hid HFS.out.symm
            clear hf HFS
            go_wp2
            go_round
            case rel => exact ⟨r + 1, by omega, by go_num, by rw [← HFS'.out]⟩
            case measure => simp [intOf]; omega
          · rw [hf, Bool.true_and] at HFS
            have HFS' := Lib.hid HFS.out.symm
            clear hf HFS
            go_wp2
            go_round
            case rel => exact ⟨r + 1, by omega, by go_num, by rw [← HFS'.out]⟩
            case measure => simp [intOf]; omega
        · obtain rfl : r = n := by omega
          cases hf : freeTo r l o
          · have HE : Hid (mtTo r T f k o best (q + 1) = bst) := by
              show mtTo r T f k o best (q + 1) = bst
              rw [HNX'.out]; unfold mtStep; rw [hf]; rfl
            clear hf
            go_wp2
            go_roundw
            case rel => exact ⟨q + 1, by omega, by go_num, v', by rw [HE.out]; exact ⟨HMq.out, HNq.out⟩⟩
            case measure => simp [intOf]; omega
          · have HE : Hid (mtTo r T f k o best (q + 1) = mtF r T f (k + 1) (layTo r l k o) bst) := by
              show mtTo r T f k o best (q + 1) = mtF r T f (k + 1) (layTo r l k o) bst
              rw [HNX'.out]; unfold mtStep; rw [hf]; rfl
            have HUN : Hid (layTo r l (-1) (layTo r l k o) = o) := unlay hf HO.out k
            have HLO := Lib.hid (lay_ok (n := r) (l := l) HO.out k)
            clear hf
            go_wp2
            go_loopw [73] (fun i ws => ∃ s : Nat, s ≤ r ∧ i = .int .i64 (s : Int) ∧ MI w0 r pB gr (layTo s l k o) v' bst ws) (fun i _ => r - (intOf i).toNat)
            case atStart => exact ⟨0, by omega, rfl, by rw [layTo_zero]; exact HMq.out⟩
            case round => as_aux_lemma =>
              obtain ⟨s, hs, rfl, hms⟩ := hrel
              have HMs := Lib.hid hms
              clear hms
              by_cases hsn : s < r
              · have cl := HCL.out _ _ _ _ s HMs.out hsn
                have hx := HL2.out s hsn
                have HFS := Lib.hid (layTo_succ s l k o)
                obtain ⟨s1, s2, s3, s4⟩ := HMs.out.spot HC.out hsn hx
                have HMn := Lib.hid (HMs.out.lay HC.out hsn k HFS.out)
                generalize l.getD s 0 = x at *
                have r0 : (0 : Int) ≤ (s : Int) := by omega
                have rn : (s : Int) < (r : Int) := by omega
                have x0 : (0 : Int) ≤ (x : Int) := by omega
                have xn : (x : Int) < (r : Int) := by omega
                clear HFS
                go_wp2
                go_roundw
                case rel => exact ⟨s + 1, by omega, by go_num, HMn.out⟩
                case measure => simp [intOf]; omega
              · obtain rfl : s = r := by omega
                have cF := HMs.out.read HC.out.cF
                have K64 := Lib.hid (HIH.out (layTo s l k o) v' bst wr HMs.out HGq.out HNq.out HLO.out)
                go_wp2_with fail
                refine K64.out.mono ?_
                rintro e w2 ⟨rfl, v2, h1, h2⟩
                have HM2 := Lib.hid h1
                have HN2 := Lib.hid h2
                clear h1 h2
                go_wp2
                go_loopw [92] (fun i ws => ∃ t : Nat, t ≤ s ∧ i = .int .i64 (t : Int) ∧ MI w0 s pB gr (layTo t l (-1) (layTo s l k o)) v2 (mtF s T f (k + 1) (layTo s l k o) bst) ws) (fun i _ => s - (intOf i).toNat)
                case atStart => exact ⟨0, by omega, rfl, by rw [layTo_zero]; exact HM2.out⟩
                case round => as_aux_lemma =>
                  obtain ⟨t, ht, rfl, hmt⟩ := hrel
                  have HMt := Lib.hid hmt
                  clear hmt
                  by_cases hts : t < s
                  · have cl := HCL.out _ _ _ _ t HMt.out hts
                    have hx := HL2.out t hts
                    have HFS := Lib.hid (layTo_succ t l (-1) (layTo s l k o))
                    obtain ⟨s1, s2, s3, s4⟩ := HMt.out.spot HC.out hts hx
                    have HMn := Lib.hid (HMt.out.lay HC.out hts (-1) HFS.out)
                    generalize l.getD t 0 = x at *
                    have r0 : (0 : Int) ≤ (t : Int) := by omega
                    have rn : (t : Int) < (s : Int) := by omega
                    have x0 : (0 : Int) ≤ (x : Int) := by omega
                    have xn : (x : Int) < (s : Int) := by omega
                    clear HFS
                    go_wp2
                    go_roundw
                    case rel => exact ⟨t + 1, by omega, by go_num, HMn.out⟩
                    case measure => simp [intOf]; omega
                  · obtain rfl : t = s := by omega
                    have HME : Hid (MI w0 t pB gr o v2 (mtTo t T f k o best (q + 1)) wr ∧ (mtTo t T f k o best (q + 1) = [] → v2 = .slice none 0 0)) := by
                      have h := HMt.out
                      rw [HUN.out] at h
                      show MI w0 t pB gr o v2 (mtTo t T f k o best (q + 1)) wr ∧ (mtTo t T f k o best (q + 1) = [] → v2 = .slice none 0 0)
                      rw [HE.out]
                      exact ⟨h, HN2.out⟩
                    clear HMt
                    go_wp2
                    go_roundw
                    case rel => exact ⟨q + 1, by omega, by go_num, v2, HME.out⟩
                    case measure => simp [intOf]; omega
    · obtain rfl : q = m := by omega
      have HF : Hid (MI w0 n pB gr o v' (mtF n T (f + 1) k o best) wr ∧ (mtF n T (f + 1) k o best = [] → v' = .slice none 0 0)) := by rw [HSUC.out]; exact ⟨HMq.out, HNq.out⟩
      clear hm hnil HMq HNq HGq
      go_wp2
      go_end0
      exact ⟨rfl, v', HF.out⟩
/-- bed.Mate$2 -/
theorem f64_any (hC : MCtx w0 n pN pB pO pS pOn gO gS gr T) (hn : 0 < n) (hn5 : n ≤ 5) : ∀ (f k : Nat), k + f = n → OnM w0 n pN pB pO pS pOn gr T f k
  | 0, k, h => by
    obtain rfl : k = n := by omega
    exact f64_end w0 k pN pB pO pS pOn gO gS gr T hC hn hn5
  | f + 1, k, h => f64_step w0 n pN pB pO pS pOn gO gS gr T hC hn hn5 f k (by omega) (f64_any hC hn hn5 f (k + 1) (by omega))
end
end Go.Proofs.YtiodednhadnekaaDoor

namespace Go.Proofs.YtiodednhadnekaaDoor
open Go.RowKit Go.Deep

theorem trF_mem {b : List (List Int)} {n : Nat} : ∀ (k : Nat) (l : List Nat), l.length + k = n → (∀ i, i < l.length → l.getD i 0 < n) → ∀ l' ∈ trF b n k l, l'.length = n ∧ ∀ i, i < n → l'.getD i 0 < n
  | 0, l, h, hl, l', h' => by
    simp [trF] at h'
    subst h'
    exact ⟨by omega, fun i hi => hl i (by omega)⟩
  | k + 1, l, h, hl, l', h' => by
    unfold trF at h'
    rw [List.mem_flatMap] at h'
    obtain ⟨c, hc, h2⟩ := h'
    rw [List.mem_range] at hc
    split at h2
    · refine trF_mem k (l ++ [c]) (by simp; omega) (fun i hi => ?_) l' h2
      simp at hi
      rcases Nat.lt_or_ge i l.length with h3 | h3
      · rw [getD_app1 h3]; exact hl i h3
      · obtain rfl : i = l.length := by omega
        rw [getD_app2]; exact hc
    · simp at h2
theorem trans_mem {b : List (List Int)} {n : Nat} : ∀ l ∈ trans b n, l.length = n ∧ ∀ i, i < n → l.getD i 0 < n := trF_mem n [] (by simp) (fun i hi => by simp at hi)
theorem trans_many {b : List (List Int)} {n : Nat} (hn : n ≤ 7) : (trans b n).length ≤ 1000000 := by
  have h1 := trF_len b n n []
  have h2 : n ^ n ≤ 7 ^ 7 := Nat.le_trans (Nat.pow_le_pow_left hn n) (Nat.pow_le_pow_right (by decide) hn)
  have h3 : 7 ^ 7 = 823543 := by decide
  have h4 : (trans b n).length ≤ n ^ n := h1
  omega
theorem make_sets (n : Nat) (hn : n ≤ 1000000) (W : World) : (Instr.makeSlice 49 (.int .i64 (n : Int)) (.int .i64 (n : Int))).run Tryd.prog W =
    .ok (.slice (some ⟨W.heap.size, 0, none⟩) n n) (W.alloc (.cells (List.replicate n (Value.slice none 0 0)).toArray 22)) := by
  obtain ⟨i0, hi, hz0, hz1, hz2⟩ := info_parts (show (Tryd.prog.info? 22).map (fun i => (i.zero, i.size, i.bytes)) = some (some (.slice none 0 0), 1, 24) from by kernel_rfl)
  have hr := run_make (P := Tryd.prog) W 49 22 i0 (.slice none 0 0) Tryd.underlying49 hi hz0 .i64 .i64 n n (by omega) (by omega) (by rw [hz2]; omega) (by omega)
  have e : madeCells (Value.slice none 0 0).cells ((n : Int).toNat * i0.size) = (List.replicate n (Value.slice none 0 0)).toArray := by
    rw [hz1, Nat.mul_one, Int.toNat_natCast]
    apply Array.toList_inj.1
    exact (toList_madeCells_one _ _).trans (by simp)
  exact hr.trans (by rw [e, Int.toNat_natCast])
/-- The sets as they are made. -/
theorem SetsI.new {n base pS gS : Nat} {w : World} (h : OwnW w gS (List.replicate n (Value.slice none 0 0))) (hb : base ≤ gS) (hp : w.cell? ⟨pS, 0, none⟩ = some (.slice (some ⟨gS, 0, none⟩) n n)) (hne : pS ≠ gS) : SetsI n base pS gS [] w := by
  refine ⟨_, h, by simp, hb, hp, ?_, fun l hl => by simp at hl, fun j u hu => ?_, fun i j u v hij hu hv => ?_⟩
  · rintro (e | ⟨j, u, hu, hbk⟩)
    · exact hne e
    · rw [h.cell] at hu
      have := List.mem_of_getElem? hu
      rw [List.mem_replicate] at this
      rw [this.2] at hbk
      simp [Value.ownBlock] at hbk
  · have := List.mem_of_getElem? hu
    rw [List.mem_replicate] at this
    rw [this.2]
    exact ⟨[], RowV.nil w base, rfl, fun i v hv => by simp at hv⟩
  · have := List.mem_of_getElem? hu
    rw [List.mem_replicate] at this
    rw [this.2]
    intro b hb
    simp [Value.ownBlock] at hb
/-- What Mate reads of the sets. -/
theorem SetsI.mctx {n base pS gS pB k : Nat} {gr : Nat → Nat} {T : List (List Nat)} {w3 w : World} (h : SetsI n base pS gS T w3) (hb : Below w3.heap.size w3 w) (hB : w3.heap.size ≤ pB) (hg : ∀ r, r < n → w3.heap.size ≤ gr r) (hn : 0 < n) (hk : k < n) :
    ∃ B m c, CellR w n pB gr gS k (.slice B m c) ∧ m = (byCol T k).length ∧ ∀ i, i < m → ∃ b o, B = some ⟨b, o, none⟩ ∧ ∃ b' o' c', CellR w n pB gr b (o + i) (.slice (some ⟨b', o', none⟩) n c') ∧ ∀ j, j < n → CellR w n pB gr b' (o' + j) (.int .i64 (((byCol T k).getD i []).getD j 0 : Nat)) := by
  have hR : ∀ (p q : Nat) (x : Value), w3.cell? ⟨p, q, none⟩ = some x → CellR w n pB gr p q x := fun p q x hx => by
    have hlt := lt_of_cell hx
    refine ⟨(hb.cell hlt).trans hx, ?_⟩
    rintro (e | ⟨r, hr, e⟩)
    · have : p < w3.heap.size := hlt
      omega
    · have := hg r hr
      have : p < w3.heap.size := hlt
      omega
  obtain ⟨us, h1, h2, h3, h4, h5, h6, h7, h8⟩ := h
  have hl : k < us.length := by omega
  obtain ⟨B, m, c, e⟩ := h1.2 _ (List.getElem_mem hl)
  have hu : us[k]? = some (.slice B m c) := by rw [List.getElem?_eq_getElem hl, e]
  obtain ⟨vs, hr, hvl, hent⟩ := h7 k _ hu
  obtain ⟨A', c', e', hcell⟩ := hr.form
  injection e' with e1 e2 e3
  subst e1 e2 e3
  refine ⟨B, vs.length, c, hR _ _ _ (by rw [h1.cell]; exact hu), hvl, fun i hi => ?_⟩
  obtain ⟨g, eB, hgc⟩ := hcell (by omega)
  refine ⟨g, 0, eB, ?_⟩
  obtain ⟨A, c2, ev, hI⟩ := hent i vs[i] (List.getElem?_eq_getElem hi)
  have hln := h6 _ (byCol_mem (done := T) (j := k) (i := i) (by omega))
  have hII := hI.1
  rw [hln] at hII ev
  obtain ⟨b', o', eA, _⟩ := hII.at_ hn
  subst eA
  refine ⟨b', o', c2, hR _ _ _ ?_, fun j hj => hR _ _ _ ?_⟩
  · rw [Nat.zero_add, hgc i hi, List.getElem?_eq_getElem hi, ev]
  · obtain ⟨b2, o2, e2, hc⟩ := hII.at_ hj
    injection e2 with e2
    injection e2 with e3 e4
    subst e3 e4
    rw [hc, zs_get]
/-- The rows that Mate tries, as far as they are made. -/
def OutI (w : World) (gO n r : Nat) (G : List Nat) : Prop := G.length = r ∧ OwnV w gO (G.map (fun g => Value.slice (some ⟨g, 0, none⟩) n n) ++ List.replicate (n - r) (Value.slice none 0 0)) ∧ (∀ j, j < r → Own w (G.getD j 0) (List.replicate n (-1))) ∧ (∀ j, j < r → gO < G.getD j 0) ∧ ∀ i j, i < j → j < r → G.getD i 0 < G.getD j 0
theorem OutI.start (w : World) (n : Nat) : OutI (w.alloc (.cells (List.replicate n (Value.slice none 0 0)).toArray 29)) w.heap.size n 0 [] :=
  ⟨rfl, by have := OwnV.made w n; simpa using this, fun j hj => absurd hj (by omega), fun j hj => absurd hj (by omega), fun i j _ hj => absurd hj (by omega)⟩
theorem OutI.below {w w' : World} {gO n r : Nat} {G : List Nat} (h : OutI w gO n r G) (hb : Below w.heap.size w w') : OutI w' gO n r G :=
  ⟨h.1, h.2.1.below hb, fun j hj => (h.2.2.1 j hj).below' hb, h.2.2.2.1, h.2.2.2.2⟩
theorem OutI.next {w w' : World} {gO n r g : Nat} {G : List Nat} (h : OutI w gO n r G) (hr : r < n) (hb : Below w.heap.size w w') (hg : Own w' g (List.replicate n (-1))) (hge : w.heap.size ≤ g) : OutI (w'.setCell ⟨gO, r, none⟩ (.slice (some ⟨g, 0, none⟩) n n)) gO n (r + 1) (G ++ [g]) := by
  have hlt := h.2.1.lt
  obtain ⟨h1, h2, h3, h4, h5⟩ := h.below hb
  have hgl : ∀ j, j < r → G.getD j 0 < w.heap.size := fun j hj => (h.2.2.1 j hj).lt
  have e1 : ∀ j, j < r → (G ++ [g]).getD j 0 = G.getD j 0 := fun j hj => by
    rw [List.getD_eq_getElem?_getD, List.getElem?_append_left (by omega), ← List.getD_eq_getElem?_getD]
  have e2 : (G ++ [g]).getD r 0 = g := by rw [← h1]; simp [List.getD_eq_getElem?_getD]
  refine ⟨by simp [h1], ?_, fun j hj => ?_, fun j hj => ?_, fun i j hij hj => ?_⟩
  · have := h2.set_ r (v := .slice (some ⟨g, 0, none⟩) n n) ⟨_, _, _, rfl⟩
    have e : (G.map (fun g => Value.slice (some ⟨g, 0, none⟩) n n) ++ List.replicate (n - r) (Value.slice none 0 0)).set r (.slice (some ⟨g, 0, none⟩) n n) = (G ++ [g]).map (fun g => Value.slice (some ⟨g, 0, none⟩) n n) ++ List.replicate (n - (r + 1)) (Value.slice none 0 0) := by
      rw [List.set_append_right _ _ (by simp [h1])]
      have e3 : n - r = (n - (r + 1)) + 1 := by omega
      rw [e3, List.replicate_succ]
      simp [h1]
    rw [← e]
    exact this
  · by_cases e : j = r
    · subst e
      rw [e2]
      exact hg.far (p := ⟨gO, j, none⟩) (by show g ≠ gO; omega) _
    · rw [e1 j (by omega)]
      exact (h3 j (by omega)).far (p := ⟨gO, r, none⟩) (by have := h4 j (by omega); show G.getD j 0 ≠ gO; omega) _
  · by_cases e : j = r
    · subst e; rw [e2]; omega
    · rw [e1 j (by omega)]; exact h4 j (by omega)
  · by_cases e : j = r
    · subst e; rw [e2, e1 i hij]; have := hgl i hij; omega
    · rw [e1 j (by omega), e1 i (by omega)]; exact h5 i j hij (by omega)
theorem OutI.cell {w : World} {gO n : Nat} {G : List Nat} (h : OutI w gO n n G) {r : Nat} (hr : r < n) : w.cell? ⟨gO, r, none⟩ = some (.slice (some ⟨G.getD r 0, 0, none⟩) n n) := by
  obtain ⟨h1, h2, _⟩ := h
  rw [h2.cell, List.getElem?_append_left (by simp [h1]; exact hr)]
  simp [List.getD_eq_getElem?_getD, show r < G.length by omega]
theorem OutI.spot {w : World} {gO n r : Nat} {G : List Nat} (h : OutI w gO n r G) (hr : r < n) : (∃ u, w.cell? ⟨gO, r, none⟩ = some u) ∧ w.frozen? ⟨gO, r, none⟩ = false := by
  obtain ⟨h1, h2, _⟩ := h
  refine ⟨?_, h2.frozen r⟩
  rw [h2.cell]
  have hlt : r < (G.map (fun g => Value.slice (some ⟨g, 0, none⟩) n n) ++ List.replicate (n - r) (Value.slice none 0 0)).length := by simp; omega
  exact ⟨_, List.getElem?_eq_getElem hlt⟩
end Go.Proofs.YtiodednhadnekaaDoor

namespace Go.Proofs.YtiodednhadnekaaDoor
open Go.RowKit Go.Deep
attribute [local go_sem ↓] Go.wp_at_zero Go.wp_at_succ
attribute [local go_sem] run_store_func
theorem eql_nil' (w : World) (A : Option Addr) (n c : Nat) : (binOp .eql 22 (.slice A n c) (.slice none 0 0)).run Tryd.prog w = .ok (.bool A.isNone) w := Go.Lib.run_eql_slice_nil w 22 29 A n c 0 0 Tryd.underlying22
attribute [local go_sem] eql_nil'

def mateOk (b : List (List Int)) : Prop := fullB b = true ∧ b.length ≤ 5
instance (b : List (List Int)) : Decidable (mateOk b) := by unfold mateOk; infer_instance
/-- The least mate with the first row 0, 1 and so on; none, if there is none. -/
def mateL (b : List (List Int)) : List (List Int) := if mateOk b then mtF b.length (trans b b.length) b.length 0 (fun _ _ => -1) [] else []
def mateE (b : List (List Int)) : Int := if mateOk b then (if mateL b = [] then 10 else 0) else 2
theorem OwnW.sown {w : World} {n gS i : Nat} (h : OwnW w gS (List.replicate n (Value.slice none 0 0))) (hi : SOwn gS w i) : i = gS := by
  rcases hi with e | ⟨j, u, hu, hbk⟩
  · exact e
  · rw [h.cell] at hu
    have := List.mem_of_getElem? hu
    rw [List.mem_replicate] at this
    rw [this.2] at hbk
    simp [Value.ownBlock] at hbk
theorem mate_new (w : World) (n : Nat) : ∃ wz, wz = (((w.alloc (.cells #[.int .i64 (n : Int)] 3)).alloc (.cells (List.replicate n (Value.slice none 0 0)).toArray 22)).alloc (.cells #[.slice (some ⟨w.heap.size + 1, 0, none⟩) n n] 49)) ∧ Below w.heap.size w wz ∧
    wz.cell? ⟨w.heap.size, 0, none⟩ = some (.int .i64 (n : Int)) ∧ OwnW wz (w.heap.size + 1) (List.replicate n (Value.slice none 0 0)) ∧ wz.cell? ⟨w.heap.size + 1 + 1, 0, none⟩ = some (.slice (some ⟨w.heap.size + 1, 0, none⟩) n n) := by
  have s1 : (w.alloc (.cells #[.int .i64 (n : Int)] 3)).heap.size = w.heap.size + 1 := by simp
  have a1 : (w.alloc (.cells #[.int .i64 (n : Int)] 3)).heap[w.heap.size]? = some (.cells #[.int .i64 (n : Int)] 3 (0, 0)) := heap_alloc_new w _
  obtain ⟨w1, hw1⟩ : ∃ z, z = w.alloc (.cells #[.int .i64 (n : Int)] 3) := ⟨_, rfl⟩
  have b1 : Below w.heap.size w w1 := by rw [hw1]; exact below_alloc w _
  rw [← hw1] at s1 a1 ⊢
  have s2 : (w1.alloc (.cells (List.replicate n (Value.slice none 0 0)).toArray 22)).heap.size = w.heap.size + 1 + 1 := by simp [s1]
  have a2 : OwnW (w1.alloc (.cells (List.replicate n (Value.slice none 0 0)).toArray 22)) (w.heap.size + 1) (List.replicate n (Value.slice none 0 0)) := by rw [← s1]; exact OwnW.made w1 n
  have a12 := (Below.heap_alloc w1 (.cells (List.replicate n (Value.slice none 0 0)).toArray 22) w.heap.size (by omega)).trans a1
  obtain ⟨w2, hw2⟩ : ∃ z, z = w1.alloc (.cells (List.replicate n (Value.slice none 0 0)).toArray 22) := ⟨_, rfl⟩
  have b2 : Below w.heap.size w w2 := by rw [hw2]; exact b1.alloc (by omega) _
  rw [← hw2] at s2 a2 a12 ⊢
  have a3 : (w2.alloc (.cells #[.slice (some ⟨w.heap.size + 1, 0, none⟩) n n] 49)).heap[w.heap.size + 1 + 1]? = some (.cells #[.slice (some ⟨w.heap.size + 1, 0, none⟩) n n] 49 (0, 0)) := by rw [← s2]; exact heap_alloc_new w2 _
  have a13 := (Below.heap_alloc w2 (.cells #[.slice (some ⟨w.heap.size + 1, 0, none⟩) n n] 49) w.heap.size (by omega)).trans a12
  have a23 := a2.below (below_alloc w2 (.cells #[.slice (some ⟨w.heap.size + 1, 0, none⟩) n n] 49))
  refine ⟨_, rfl, b2.alloc (by omega) _, ?_, a23, ?_⟩
  · rw [cell_of_row _ _ 0 _ _ _ a13]; rfl
  · rw [cell_of_row _ _ 0 _ _ _ a3]; rfl
theorem mate_ctx {w3 wr ws : World} {base n s gO : Nat} {G : List Nat} {T : List (List Nat)} (hI : SetsI n base (s + 1 + 1) (s + 1) T w3) (cN : w3.cell? ⟨s, 0, none⟩ = some (.int .i64 (n : Int))) (cS : w3.cell? ⟨s + 1 + 1, 0, none⟩ = some (.slice (some ⟨s + 1, 0, none⟩) n n)) (hgO : gO = w3.heap.size) (hO : OutI wr gO n n G) (hB : Below gO w3 wr) (hcO : wr.cell? ⟨gO + 1, 0, none⟩ = some (.slice (some ⟨gO, 0, none⟩) n n)) (hn : 0 < n)
    (hT : ∀ l ∈ T, l.length = n ∧ ∀ i, i < n → l.getD i 0 < n) (hTm : T.length ≤ 1000000)
    (hws : ws = (wr.alloc (.cells #[.slice none 0 0] 22)).alloc (.cells #[.func (.func 64) #[] #[.pointer (some ⟨s, 0, none⟩), .pointer (some ⟨wr.heap.size, 0, none⟩), .pointer (some ⟨gO + 1, 0, none⟩), .pointer (some ⟨s + 1 + 1, 0, none⟩), .pointer (some ⟨wr.heap.size + 1, 0, none⟩)]] 70)) :
    MCtx ws n s wr.heap.size (gO + 1) (s + 1 + 1) (wr.heap.size + 1) gO (s + 1) (fun r => G.getD r 0) T ∧ MI ws n wr.heap.size (fun r => G.getD r 0) (fun _ _ => -1) (.slice none 0 0) [] ws ∧ Below wr.heap.size wr ws := by
  have hbs : Below wr.heap.size wr ws := by rw [hws]; exact below_alloc2 wr _ _
  have hh := heap_alloc_new (wr.alloc (.cells #[.slice none 0 0] 22)) (.cells #[.func (.func 64) #[] #[.pointer (some ⟨s, 0, none⟩), .pointer (some ⟨wr.heap.size, 0, none⟩), .pointer (some ⟨gO + 1, 0, none⟩), .pointer (some ⟨s + 1 + 1, 0, none⟩), .pointer (some ⟨wr.heap.size + 1, 0, none⟩)]] 70)
  have s1 : (wr.alloc (.cells #[.slice none 0 0] 22)).heap.size = wr.heap.size + 1 := by simp
  have hv := (Below.heap_alloc (wr.alloc (.cells #[.slice none 0 0] 22)) (.cells #[.func (.func 64) #[] #[.pointer (some ⟨s, 0, none⟩), .pointer (some ⟨wr.heap.size, 0, none⟩), .pointer (some ⟨gO + 1, 0, none⟩), .pointer (some ⟨s + 1 + 1, 0, none⟩), .pointer (some ⟨wr.heap.size + 1, 0, none⟩)]] 70) wr.heap.size (by omega)).trans (heap_alloc_new wr _)
  rw [← hws] at hh hv
  rw [s1] at hh
  have hsz : ws.heap.size = wr.heap.size + 1 + 1 := by rw [hws]; simp
  have hgl : ∀ r, r < n → G.getD r 0 < wr.heap.size := fun r hr => (hO.2.2.1 r hr).lt
  have hgg : ∀ r, r < n → gO < G.getD r 0 := hO.2.2.2.1
  have hg3 : w3.heap.size ≤ wr.heap.size := hB.size
  have hOc : ∀ r, r < n → G.getD r 0 ≠ gO + 1 := fun r hr e => by
    have h1 := (hO.2.2.1 r hr).cell 0 (by simp; exact hn)
    rw [e, hcO] at h1
    cases h1
  have low : ∀ (p q : Nat) (x : Value), wr.cell? ⟨p, q, none⟩ = some x → (∀ r, r < n → p ≠ G.getD r 0) → CellR ws n wr.heap.size (fun r => G.getD r 0) p q x := fun p q x hx hp => by
    have hlt : p < wr.heap.size := lt_of_cell hx
    refine ⟨(hbs.cell (p := ⟨p, q, none⟩) hlt).trans hx, ?_⟩
    rintro (e | ⟨r, hr, e⟩)
    · omega
    · exact hp r hr e
  have low3 : ∀ (p q : Nat) (x : Value), w3.cell? ⟨p, q, none⟩ = some x → CellR ws n wr.heap.size (fun r => G.getD r 0) p q x := fun p q x hx => by
    have hlt : p < w3.heap.size := lt_of_cell hx
    refine low p q x ((hB.cell (p := ⟨p, q, none⟩) (by rw [hgO]; exact hlt)).trans hx) (fun r hr e => ?_)
    have h1 := hgg r hr
    have h2 : p = G.getD r 0 := e
    omega
  refine ⟨⟨low3 _ _ _ cN, low _ _ _ hcO (fun r hr e => hOc r hr e.symm), low3 _ _ _ cS, ⟨?_, ?_⟩, fun r hr => low _ _ _ (hO.cell hr) (fun q hq e => by have h1 := hgg q hq; have h2 : gO = G.getD q 0 := e; omega), fun r q hr hq e => ?_, fun r hr => ?_, fun r hr e => ?_, by omega, fun k hk => ?_, hT, hTm⟩, ⟨Kept.refl _ _, fun r hr => ?_, hv, BRow.nil _ _⟩, hbs⟩
  · rw [cell_of_row _ _ 0 _ _ _ hh]; rfl
  · rintro (e | ⟨r, hr, e⟩)
    · omega
    · have h1 := hgl r hr; have h2 : wr.heap.size + 1 = G.getD r 0 := e; omega
  · rcases Nat.lt_trichotomy r q with h | h | h
    · have := hO.2.2.2.2 r q h hq; have e : G.getD r 0 = G.getD q 0 := e; omega
    · exact h
    · have := hO.2.2.2.2 q r h hr; have e : G.getD r 0 = G.getD q 0 := e; omega
  · have := hgl r hr; show G.getD r 0 < _; omega
  · have := hgl r hr; have e : G.getD r 0 = wr.heap.size := e; omega
  · exact hI.mctx ((hB.trans (hbs.mono (by omega))).mono (by omega)) hg3 (fun r hr => by have := hgg r hr; show _ ≤ G.getD r 0; omega) hn hk
  · have h1 := (hO.2.2.1 r hr).below' hbs
    have e : lineM n (fun _ _ => -1) r = List.replicate n (-1) := by
      apply List.ext_getElem (by simp [lineM])
      intro i _ _
      simp [lineM]
    rw [e]
    exact h1
set_option maxRecDepth 100000 in
set_option maxHeartbeats 8000000 in
/-- bed.Mate -/
theorem f22_any (A : Option Addr) (n c : Nat) (b : List (List Int)) (w : World) (hs : Beds w A n c b) :
    Calls Tryd.prog 22 #[.slice A n c] w fun e w' => ∃ A' k c', e = .returned (.tuple #[.slice A' k c', .int .i64 (mateE b)]) ∧ BedsN w' w.heap.size A' k c' (mateL b) ∧ Below w.heap.size w w' := by
  have K60 := Lib.hid (f60_any A n c b w hs)
  have hbl := hs.len
  have hsm := hs.small
  cases hf : fullB b
  · rw [hf] at K60
    have hno : ¬ mateOk b := fun h => by rw [h.1] at hf; cases hf
    have HE : Hid (mateE b = 2 ∧ mateL b = []) := by unfold mateE mateL; rw [if_neg hno, if_neg hno]; exact ⟨rfl, rfl⟩
    clear hs hf hno
    go_enter Tryd.func22, Tryd.ntmps22
    go_wp2_with fail
    refine K60.out.mono ?_
    rintro e w1 ⟨rfl, hb⟩
    have HB := Lib.hid hb
    clear hb
    go_wp2
    go_ret2
    exact ⟨none, 0, 0, by rw [HE.out.1]; rfl, by rw [HE.out.2]; exact BedsN.nil _ _, HB.out⟩
  rw [hf] at K60
  by_cases h5 : 5 < n
  · have hno : ¬ mateOk b := fun h => by have := h.2; omega
    have HE : Hid (mateE b = 2 ∧ mateL b = []) := by unfold mateE mateL; rw [if_neg hno, if_neg hno]; exact ⟨rfl, rfl⟩
    clear hs hf hno
    go_enter Tryd.func22, Tryd.ntmps22
    go_wp2_with fail
    refine K60.out.mono ?_
    rintro e w1 ⟨rfl, hb⟩
    have HB := Lib.hid hb
    clear hb
    go_wp2
    go_ret2
    exact ⟨none, 0, 0, by rw [HE.out.1]; rfl, by rw [HE.out.2]; exact BedsN.nil _ _, HB.out⟩
  obtain ⟨hn1, hn7, hfull⟩ := fullB_iff.1 hf
  rw [hbl] at hn1 hn7 hfull
  have hok : mateOk b := ⟨hf, by omega⟩
  have HL : Hid (mateL b = mtF n (trans b n) n 0 (fun _ _ => -1) []) := by
    show mateL b = _
    unfold mateL; rw [if_pos hok, hbl]
  have HE : Hid (mateE b = if mateL b = [] then 10 else 0) := by
    show mateE b = _
    unfold mateE; rw [if_pos hok]
  have HF := Lib.hid hfull
  have HS := Lib.hid hs
  have hmk := make_sets n (by omega)
  have hmk2 := make_slices n (by omega)
  have hmf : ∀ (fn : Fn) (first cap : Array Value) (w : World), (Instr.makeFunc fn first cap).run Tryd.prog w = .ok (.func fn first cap) w := fun _ _ _ _ => rfl
  have hen := enter62
  have hen2 := enter64
  clear hs hf hfull hok
  go_enter Tryd.func22, Tryd.ntmps22
  go_wp2_with fail
  refine K60.out.mono ?_
  rintro e w1 ⟨rfl, hb⟩
  obtain ⟨wz, hwz, hbz, cN, oW, cS⟩ := mate_new w1 n
  obtain ⟨s, hs⟩ : ∃ s, s = w1.heap.size := ⟨_, rfl⟩
  have hsz : w.heap.size ≤ s := by rw [hs]; exact hb.size
  have BZ : Hid (Below w.heap.size w wz) := Lib.hid (hb.trans (hbz.mono (by rw [← hs]; exact hsz)))
  have IZ : Hid (SetsI n w.heap.size (s + 1 + 1) (s + 1) [] wz) := Lib.hid (SetsI.new (by rw [hs]; exact oW) (by omega) (by rw [hs]; exact cS) (by omega))
  have hNS : ¬ SOwn (s + 1) wz s := fun h => by
    have := OwnW.sown (by rw [hs]; exact oW) h
    omega
  have cNz : wz.cell? ⟨s, 0, none⟩ = some (.int .i64 (n : Int)) := by rw [hs]; exact cN
  have K61 := Lib.hid (f61_any n w.heap.size 62 #[.pointer (some ⟨s + 1 + 1, 0, none⟩)] false (SOwn (s + 1)) (SetsI n w.heap.size (s + 1 + 1) (s + 1)) (visit62 n w.heap.size (s + 1 + 1) (s + 1) (by omega) hn7) b w A c wz HF.out HS.out rfl BZ.out hn7 IZ.out)
  have cN1 := cell_new w1 #[.int .i64 (n : Int)] 3 0
  rw [← hs] at hwz
  clear hb hbz cN oW cS K60
  go_wp2_with fail
  rw [← hs]
  simp only [List.toArray_replicate] at hwz
  rw [← hwz]
  clear hwz cN1
  have HNS := Lib.hid hNS
  clear hNS hs
  refine K61.out.mono ?_
  rintro e w3 ⟨rfl, hI, hk⟩
  have hcN3 : w3.cell? ⟨s, 0, none⟩ = some (.int .i64 (n : Int)) := (World.cell?_of_block (hk.block s (lt_of_cell cNz) HNS.out)).trans cNz
  have cN3 := Lib.hid hcN3
  have I3 : Hid (SetsI n w.heap.size (s + 1 + 1) (s + 1) (trans b n) w3) := hI
  have B3 : Hid (Below w.heap.size w w3) := hk.below BZ.out BZ.out.size (fun i hi => (IZ.out.lt hi).1)
  have cS3 : Hid (w3.cell? ⟨s + 1 + 1, 0, none⟩ = some (.slice (some ⟨s + 1, 0, none⟩) n n)) := by obtain ⟨us, _, _, _, h4, _⟩ := I3.out; exact h4
  clear hI hk K61 BZ IZ HNS cNz
  obtain ⟨gO, hgO⟩ : ∃ z, z = w3.heap.size := ⟨_, rfl⟩
  have hsl : s < gO := by rw [hgO]; exact lt_of_cell cN3.out
  have hsl2 : s + 1 + 1 < gO := by rw [hgO]; exact lt_of_cell cS3.out
  obtain ⟨wd, hwd⟩ : ∃ z, z = (w3.alloc (.cells (List.replicate n (Value.slice none 0 0)).toArray 29)).alloc (.cells #[.slice (some ⟨gO, 0, none⟩) n n] 22) := ⟨_, rfl⟩
  have O0 : Hid (OutI wd gO n 0 []) := by
    show OutI wd gO n 0 []
    rw [hwd, hgO]
    exact (OutI.start w3 n).below (below_alloc _ _)
  have D0 : Hid (Below gO w3 wd) := by
    show Below gO w3 wd
    rw [hwd, hgO]; exact below_alloc2 w3 _ _
  have hcOd : wd.cell? ⟨gO + 1, 0, none⟩ = some (.slice (some ⟨gO, 0, none⟩) n n) := by
    have h := cell_new (w3.alloc (.cells (List.replicate n (Value.slice none 0 0)).toArray 29)) #[.slice (some ⟨gO, 0, none⟩) n n] 22 0
    rw [← hwd] at h
    rw [hgO] at h ⊢
    simpa using h
  have cOd := Lib.hid hcOd
  simp only [List.toArray_replicate] at hwd
  clear hcOd
  go_wp2_with fail
  rw [← hgO, ← hwd]
  have HGO := Lib.hid hgO
  clear hwd hgO hcN3 hmk hmk2
  go_loopw [29] (fun i wr => ∃ r : Nat, r ≤ n ∧ i = .int .i64 (r : Int) ∧ ∃ G, OutI wr gO n r G ∧ Below gO w3 wr ∧ wr.cell? ⟨gO + 1, 0, none⟩ = some (.slice (some ⟨gO, 0, none⟩) n n)) (fun i _ => n - (intOf i).toNat)
  case atStart => exact ⟨0, by omega, rfl, [], O0.out, D0.out, cOd.out⟩
  case round => as_aux_lemma =>
    obtain ⟨r, hr, rfl, G, hO, hB, hcO⟩ := hrel
    have HO := Lib.hid hO
    have HB := Lib.hid hB
    have HCO := Lib.hid hcO
    by_cases hlt : r < n
    · have hsp := HO.out.spot hlt
      have cNr : wr.cell? ⟨s, 0, none⟩ = some (.int .i64 (n : Int)) := hB.cell hsl |>.trans cN3.out
      have S1 : Hid (∀ W, Below wr.heap.size wr W → W.cell? ⟨gO + 1, 0, none⟩ = some (.slice (some ⟨gO, 0, none⟩) n n) ∧ W.cell? ⟨s, 0, none⟩ = some (.int .i64 (n : Int))) := Lib.hid fun W h => ⟨(h.cell (lt_of_cell HCO.out)).trans HCO.out, (h.cell (lt_of_cell cNr)).trans cNr⟩
      have S2 : Hid (∀ (W : World) (u : Value), (W.cell? ⟨gO + 1, 0, none⟩ = some (.slice (some ⟨gO, 0, none⟩) n n) ∧ W.cell? ⟨s, 0, none⟩ = some (.int .i64 (n : Int))) → ((W.setCell ⟨gO, r, none⟩ u).cell? ⟨gO + 1, 0, none⟩ = some (.slice (some ⟨gO, 0, none⟩) n n) ∧ (W.setCell ⟨gO, r, none⟩ u).cell? ⟨s, 0, none⟩ = some (.int .i64 (n : Int)))) := Lib.hid fun W u h => ⟨(World.cell?_setCell_other W ⟨gO, r, none⟩ ⟨gO + 1, 0, none⟩ u (fun e => by injection e with e; omega)).trans h.1, (World.cell?_setCell_other W ⟨gO, r, none⟩ ⟨s, 0, none⟩ u (fun e => by injection e with e; omega)).trans h.2⟩
      have SP : Hid (∀ W, Below wr.heap.size wr W → (∃ u, W.cell? ⟨gO, r, none⟩ = some u) ∧ W.frozen? ⟨gO, r, none⟩ = false) := Lib.hid fun W h => (HO.out.below h).spot hlt
      have K63 : Hid (∀ W, W.heap = (wr.alloc (.cells #[.int .i64 (-1)] 3)).heap → Calls Tryd.prog 63 #[.slice (some ⟨wr.heap.size, 0, none⟩) 1 1, .int .i64 (n : Int)] W fun e w' => ∃ g, e = .returned (.slice (some ⟨g, 0, none⟩) n n) ∧ Own w' g (List.replicate n (-1)) ∧ W.heap.size ≤ g ∧ Below W.heap.size W w') := Lib.hid fun W e => f63_one wr.heap.size n (-1) hn1 hn7 W (by
        rw [World.cell?_of_block (congrArg (fun h => h[wr.heap.size]?) e), cell_of_row _ _ 0 _ _ _ (heap_alloc_new wr _)]; rfl)
      have HSZ : Hid (gO ≤ wr.heap.size) := Lib.hid (by have := hB.size; have := HGO.out; omega)
      have r0 : (0 : Int) ≤ (r : Int) := by omega
      have rn : (r : Int) < (n : Int) := by omega
      clear hO hB hcO hsp
      go_wp2_with fail
      refine wp_region_held_drew (S := fun W => W.cell? ⟨gO + 1, 0, none⟩ = some (.slice (some ⟨gO, 0, none⟩) n n) ∧ W.cell? ⟨s, 0, none⟩ = some (.int .i64 (n : Int))) (by kernel_rfl) (⟨HCO.out, cNr⟩) (fun hS => ?_)
      refine wpAnyH_take (i := 0) (oi := { dst := some 32, op := Op.load 22 (Operand.tmp 6), type := 22, pos := "mate.go:95", after := #[], guard := none }) (v := .slice (some ⟨gO, 0, none⟩) n n) rfl (by kernel_rfl) (by kernel_rfl) (by kernel_rfl) (fun _ _ _ h => h) (Or.inl ⟨by kernel_rfl, fun W hSW => by have h1 := hSW.1; go_simp⟩) hS ?_
      try simp only [Act.put, List.setIfInBounds_toArray, List.set_cons_zero, List.set_cons_succ]
      refine wpAnyH_take (i := 1) (oi := { dst := some 33, op := Op.move (Operand.tmp 7), type := 3, pos := "mate.go:95", after := #[], guard := none }) (v := .int .i64 (r : Int)) rfl (by kernel_rfl) (by kernel_rfl) (by kernel_rfl) (fun _ _ _ h => h) (Or.inl ⟨by kernel_rfl, fun W hSW => by kernel_rfl⟩) hS ?_
      try simp only [Act.put, List.setIfInBounds_toArray, List.set_cons_zero, List.set_cons_succ]
      refine wpAnyH_take (i := 3) (oi := { dst := some 35, op := Op.load 3 (Operand.tmp 4), type := 3, pos := "mate.go:95", after := #[], guard := none }) (v := .int .i64 (n : Int)) rfl (by kernel_rfl) (by kernel_rfl) (by kernel_rfl) (fun _ _ _ h => h) (Or.inl ⟨by kernel_rfl, fun W hSW => by have h1 := hSW.2; go_simp⟩) hS ?_
      try simp only [Act.put, List.setIfInBounds_toArray, List.set_cons_zero, List.set_cons_succ]
      refine wpAnyH_ready (rs := [2]) (by kernel_rfl) (by simp) ?_
      refine AllReadyH.cons (o := { dst := some 34, op := Op.buildSlice 29 1 #[(0, Operand.const (Value.int IntKind.i64 (-1)))], type := 29, pos := "mate.go:95", after := #[], guard := none }) rfl (fun K hK => ?_) AllReadyH.nil
      go_simp
      refine hK.out _ _ (S1.out _ (by first | exact below_alloc wr _ | exact (below_alloc wr _).drew)) (fun hS => ?_)
      clear hK K
      try simp only [Act.put, List.setIfInBounds_toArray, List.set_cons_zero, List.set_cons_succ]
      refine wpAnyH_ready (rs := [4]) (by kernel_rfl) (by simp) ?_
      refine AllReadyH.cons (o := { dst := some 36, op := Op.call { callee := Callee.value (Operand.func 63), args := #[Operand.tmp 34, Operand.tmp 35], argTypes := #[29, 3] }, type := 29, pos := "mate.go:95", after := #[{ on := 2, ground := Ground.data }, { on := 3, ground := Ground.data }], guard := none }) rfl (fun K hK => ?_) AllReadyH.nil
      go_simp
      refine (K63.out _ (by rfl)).mono ?_
      rintro e w4 ⟨g, rfl, hg4, hge, hb4⟩
      have hq1 : Below wr.heap.size wr w4 := (by first | exact below_step (below_alloc wr _) hb4 | exact below_step (below_alloc wr _).drew hb4)
      have hge2 : wr.heap.size ≤ g := Nat.le_trans (Below.size (by first | exact below_alloc wr _ | exact (below_alloc wr _).drew)) hge
      have HQ1 := Lib.hid hq1
      have HG4 := Lib.hid hg4
      have HGE := Lib.hid hge2
      obtain ⟨⟨u4, hu4⟩, hz4⟩ := SP.out _ hq1
      clear hg4 hge hge2 hb4 hq1
      refine hK.out _ _ (S1.out _ HQ1.out) (fun hS => ?_)
      clear hK K
      try simp only [Act.put, List.setIfInBounds_toArray, List.set_cons_zero, List.set_cons_succ]
      refine wpAnyH_ready (rs := [5]) (by kernel_rfl) (by simp) ?_
      refine AllReadyH.cons (o := { dst := some 37, op := Op.indexAddr 22 (Operand.tmp 32) (Operand.tmp 33), type := 0, pos := "mate.go:95", after := #[{ on := 0, ground := Ground.data }, { on := 1, ground := Ground.data }, { on := 0, ground := Ground.phase }, { on := 1, ground := Ground.phase }, { on := 2, ground := Ground.phase }, { on := 3, ground := Ground.phase }, { on := 4, ground := Ground.phase }], guard := none }) rfl (fun K hK => ?_) AllReadyH.nil
      go_simp
      refine hK.out _ _ (hS) (fun hS => ?_)
      clear hK K
      try simp only [Act.put, List.setIfInBounds_toArray, List.set_cons_zero, List.set_cons_succ]
      refine wpAnyH_ready (rs := [6]) (by kernel_rfl) (by simp) ?_
      refine AllReadyH.cons (o := { dst := none, op := Op.store 29 (Operand.tmp 37) (Operand.tmp 36), type := 0, pos := "mate.go:95", after := #[{ on := 5, ground := Ground.data }, { on := 4, ground := Ground.data }, { on := 4, ground := Ground.chain }, { on := 0, ground := Ground.phase }, { on := 1, ground := Ground.phase }, { on := 2, ground := Ground.phase }, { on := 3, ground := Ground.phase }, { on := 4, ground := Ground.phase }], guard := none }) rfl (fun K hK => ?_) AllReadyH.nil
      go_simp
      refine hK.out _ _ (S2.out _ _ hS) (fun hS => ?_)
      clear hK K
      try simp only [Act.put, List.setIfInBounds_toArray, List.set_cons_zero, List.set_cons_succ]
      refine wpAnyH_done (by kernel_rfl) ?_ _
      have HO5 := Lib.hid (HO.out.next hlt HQ1.out HG4.out HGE.out)
      have HB5 : Hid (Below gO w3 (w4.setCell ⟨gO, r, none⟩ (.slice (some ⟨g, 0, none⟩) n n))) := Lib.hid ((HB.out.trans (HQ1.out.mono HSZ.out)).setCell (Nat.le_refl _) _)
      have HS5 := Lib.hid hS.1
      clear hS hu4 hz4
      go_wp2
      go_roundw
      case rel => exact ⟨r + 1, by omega, by go_num, _, HO5.out, HB5.out, HS5.out⟩
      case measure => simp [intOf]; omega
    · obtain rfl : r = n := by omega
      obtain ⟨ws, hws⟩ : ∃ z, z = (wr.alloc (.cells #[.slice none 0 0] 22)).alloc (.cells #[.func (.func 64) #[] #[.pointer (some ⟨s, 0, none⟩), .pointer (some ⟨wr.heap.size, 0, none⟩), .pointer (some ⟨gO + 1, 0, none⟩), .pointer (some ⟨s + 1 + 1, 0, none⟩), .pointer (some ⟨wr.heap.size + 1, 0, none⟩)]] 70) := ⟨_, rfl⟩
      obtain ⟨hMC, hMI, hbs⟩ := mate_ctx I3.out cN3.out cS3.out HGO.out hO hB hcO hn1 trans_mem (trans_many hn7) hws
      have K64 := Lib.hid (f64_any ws r s wr.heap.size (gO + 1) (s + 1 + 1) (wr.heap.size + 1) gO (s + 1) (fun r => G.getD r 0) (trans b r) hMC hn1 (by omega) r 0 (by omega) (fun _ _ => -1) (.slice none 0 0) [] ws hMI (.inl rfl) (fun _ => rfl) (fun _ _ => .inl rfl))
      have hBW : Below w.heap.size w ws := by
        have h1 := B3.out.size
        have h2 := hB.size
        have h3 := HGO.out
        exact (B3.out.trans (hB.mono (by omega))).trans (hbs.mono (by omega))
      have HBW : Hid (∀ w', Kept (fun _ i => OwnM r wr.heap.size (fun r => G.getD r 0) i) ws w' → Below w.heap.size w w') := Lib.hid fun w' k => k.below hBW hBW.size (fun i hi => by
        have h1 := B3.out.size
        have h2 := hB.size
        have h3 := HGO.out
        rcases hi with e | ⟨q, hq, e⟩
        · omega
        · have := hO.2.2.2.1 q hq
          have e : i = G.getD q 0 := e
          omega)
      have HSW : Hid (w.heap.size ≤ ws.heap.size) := Lib.hid hBW.size
      have HMG : Hid (MG r (mateL b)) := Lib.hid (by rw [HL.out]; exact mtF_shape r 0 _ [] (.inl rfl))
      rw [← HL.out] at K64
      have hF64 : ws.cell? ⟨wr.heap.size + 1, 0, none⟩ = some (.func (.func 64) #[] #[.pointer (some ⟨s, 0, none⟩), .pointer (some ⟨wr.heap.size, 0, none⟩), .pointer (some ⟨gO + 1, 0, none⟩), .pointer (some ⟨s + 1 + 1, 0, none⟩), .pointer (some ⟨wr.heap.size + 1, 0, none⟩)]) := hMC.cF.1
      clear hO hB hcO hMC hMI hbs hBW hF64
      go_wp2_with fail
      rw [← hws]
      clear hws
      refine K64.out.mono ?_
      rintro e w4 ⟨rfl, v4, hM4, hN4⟩
      have HM4 := Lib.hid hM4
      have cB4 := hM4.var
      cases hml : mateL b with
      | nil =>
        have hv4 := hN4 hml
        subst hv4
        have HML := Lib.hid hml
        have HEE : Hid (mateE b = 10) := Lib.hid (by rw [HE.out, if_pos hml])
        clear hM4 hN4 hml
        go_wp2
        go_ret2
        exact ⟨none, 0, 0, by rw [HEE.out]; rfl, by rw [HML.out]; exact BedsN.nil _ _, HBW.out _ HM4.out.1⟩
      | cons x xs =>
        have hne : mateL b ≠ [] := by rw [hml]; simp
        have HEE : Hid (mateE b = 0) := Lib.hid (by rw [HE.out, if_neg hne])
        have hsq : sqShape r (mateL b) := HMG.out.resolve_left hne
        obtain ⟨A4, c4, hv4, hN⟩ := hM4.2.2.2.bedsN (by have := hsq.1; omega) (fun j => by have := HMG.out.rows j; omega)
        rw [hsq.1] at hv4 hN
        subst hv4
        obtain ⟨g4, o4, hA4, _⟩ := hN.2.2.2.2 (by omega)
        subst hA4
        have HN := Lib.hid (hN.mono HSW.out)
        clear hM4 hN4 hne hN hml hsq
        go_wp2
        go_ret2
        exact ⟨_, _, _, by rw [HEE.out]; rfl, HN.out, HBW.out _ HM4.out.1⟩
end Go.Proofs.YtiodednhadnekaaDoor

namespace Go.Proofs.YtiodednhadnekaaDoor
open Go.RowKit Go.Deep

def cyc3 : List (List Int) := [[0, 1, 2], [1, 2, 0], [2, 0, 1]]
def mat3 : List (List Int) := [[0, 1, 2], [2, 0, 1], [1, 2, 0]]
def bed3 : List (List Int) := [[0, -1, -1], [-1, -1, 0], [-1, -1, -1]]
theorem cyc3_is : cycL 3 1 = cyc3 := by decide
theorem mate3 : mateL cyc3 = mat3 := by decide +kernel
theorem mateE3 : mateE cyc3 = 0 := by
  unfold mateE
  rw [if_pos (by unfold mateOk; decide +kernel), if_neg (by rw [mate3]; decide)]
theorem tr3 : trN cyc3 = 3 ∧ trE cyc3 = 0 := by decide +kernel
theorem cyc3_full : IsFull 3 cyc3 := (fullB_iff.1 (show fullB cyc3 = true by decide +kernel)).2.2
theorem can_at {b : List (List Int)} (h : ∀ r, r < 3 → ∀ c, c < 3 → 0 ≤ gAt b r c → gAt cyc3 r c = gAt b r c) : canB 3 b = true := by
  unfold canB
  exact decide_eq_true (cnt_pos.2 ⟨cyc3, cyc3_full, fun r c hr hc => h r hr c hc⟩)
theorem fill3 : fillTo 3 bed3 3 = cyc3 := by
  have k00 : fillStep 3 bed3 0 0 = bed3 := fillStep_keep (by decide)
  have k01 : fillStep 3 bed3 0 1 = [[0, 1, -1], [-1, -1, 0], [-1, -1, -1]] := fillStep_hit (pre := []) (suf := [2]) (x := 1) (by decide) (by decide) (by simp) (can_at (by decide))
  have k02 : fillStep 3 [[0, 1, -1], [-1, -1, 0], [-1, -1, -1]] 0 2 = [[0, 1, 2], [-1, -1, 0], [-1, -1, -1]] := fillStep_hit (pre := []) (suf := []) (x := 2) (by decide) (by decide) (by simp) (can_at (by decide))
  have k10 : fillStep 3 [[0, 1, 2], [-1, -1, 0], [-1, -1, -1]] 1 0 = [[0, 1, 2], [1, -1, 0], [-1, -1, -1]] := fillStep_hit (pre := []) (suf := [2]) (x := 1) (by decide) (by decide) (by simp) (can_at (by decide))
  have k11 : fillStep 3 [[0, 1, 2], [1, -1, 0], [-1, -1, -1]] 1 1 = [[0, 1, 2], [1, 2, 0], [-1, -1, -1]] := fillStep_hit (pre := []) (suf := []) (x := 2) (by decide) (by decide) (by simp) (can_at (by decide))
  have k12 : fillStep 3 [[0, 1, 2], [1, 2, 0], [-1, -1, -1]] 1 2 = [[0, 1, 2], [1, 2, 0], [-1, -1, -1]] := fillStep_keep (by decide)
  have k20 : fillStep 3 [[0, 1, 2], [1, 2, 0], [-1, -1, -1]] 2 0 = [[0, 1, 2], [1, 2, 0], [2, -1, -1]] := fillStep_hit (pre := []) (suf := []) (x := 2) (by decide) (by decide) (by simp) (can_at (by decide))
  have k21 : fillStep 3 [[0, 1, 2], [1, 2, 0], [2, -1, -1]] 2 1 = [[0, 1, 2], [1, 2, 0], [2, 0, -1]] := fillStep_hit (pre := []) (suf := []) (x := 0) (by decide) (by decide) (by simp) (can_at (by decide))
  have k22 : fillStep 3 [[0, 1, 2], [1, 2, 0], [2, 0, -1]] 2 2 = [[0, 1, 2], [1, 2, 0], [2, 0, 1]] := fillStep_hit (pre := []) (suf := []) (x := 1) (by decide) (by decide) (by simp) (can_at (by decide))
  show fillStep 3 (fillStep 3 (fillStep 3 (fillStep 3 (fillStep 3 (fillStep 3 (fillStep 3 (fillStep 3 (fillStep 3 bed3 0 0) 0 1) 0 2) 1 0) 1 1) 1 2) 2 0) 2 1) 2 2 = cyc3
  rw [k00, k01, k02, k10, k11, k12, k20, k21, k22]
  rfl
theorem fillLE3 : fillL bed3 = cyc3 ∧ fillE bed3 = 0 := by
  have h1 : bedB bed3 = true := by decide +kernel
  have h2 : canB bed3.length bed3 = true := can_at (by decide)
  unfold fillL fillE
  rw [if_pos h1, if_pos h2, if_pos h1, if_pos h2]
  exact ⟨fill3, rfl⟩
theorem ints3 {w : World} {g : Nat} {x y z : Int} (h : w.heap[g]? = some (.cells #[.int .i64 x, .int .i64 y, .int .i64 z] 3 (0, 0))) : Ints w (some ⟨g, 0, none⟩) 3 [x, y, z] :=
  Own.ints' (xs := [x, y, z]) h rfl (by omega)
/-- Three rows of three numbers that are laid down. -/
theorem lit3 (w : World) (a b c d e f g h i : Int) : ∃ wz, wz = ((((w.alloc (.cells #[.int .i64 a, .int .i64 b, .int .i64 c] 3)).alloc (.cells #[.int .i64 d, .int .i64 e, .int .i64 f] 3)).alloc (.cells #[.int .i64 g, .int .i64 h, .int .i64 i] 3)).alloc (.cells #[.slice (some ⟨w.heap.size, 0, none⟩) 3 3, .slice (some ⟨w.heap.size + 1, 0, none⟩) 3 3, .slice (some ⟨w.heap.size + 1 + 1, 0, none⟩) 3 3] 29)) ∧ Below w.heap.size w wz ∧ Beds wz (some ⟨w.heap.size + 1 + 1 + 1, 0, none⟩) 3 3 [[a, b, c], [d, e, f], [g, h, i]] := by
  have s1 : (w.alloc (.cells #[.int .i64 a, .int .i64 b, .int .i64 c] 3)).heap.size = w.heap.size + 1 := by simp
  have a1 : (w.alloc (.cells #[.int .i64 a, .int .i64 b, .int .i64 c] 3)).heap[w.heap.size]? = some (.cells #[.int .i64 a, .int .i64 b, .int .i64 c] 3 (0, 0)) := heap_alloc_new w _
  obtain ⟨w1, hw1⟩ : ∃ z, z = w.alloc (.cells #[.int .i64 a, .int .i64 b, .int .i64 c] 3) := ⟨_, rfl⟩
  have b1 : Below w.heap.size w w1 := by rw [hw1]; exact below_alloc w _
  rw [← hw1] at s1 a1 ⊢
  have s2 : (w1.alloc (.cells #[.int .i64 d, .int .i64 e, .int .i64 f] 3)).heap.size = w.heap.size + 1 + 1 := by simp [s1]
  have a2 : (w1.alloc (.cells #[.int .i64 d, .int .i64 e, .int .i64 f] 3)).heap[w.heap.size + 1]? = some (.cells #[.int .i64 d, .int .i64 e, .int .i64 f] 3 (0, 0)) := by rw [← s1]; exact heap_alloc_new w1 _
  have a12 := (Below.heap_alloc w1 (.cells #[.int .i64 d, .int .i64 e, .int .i64 f] 3) w.heap.size (by omega)).trans a1
  obtain ⟨w2, hw2⟩ : ∃ z, z = w1.alloc (.cells #[.int .i64 d, .int .i64 e, .int .i64 f] 3) := ⟨_, rfl⟩
  have b2 : Below w.heap.size w w2 := by rw [hw2]; exact b1.alloc (by omega) _
  rw [← hw2] at s2 a2 a12 ⊢
  have s3 : (w2.alloc (.cells #[.int .i64 g, .int .i64 h, .int .i64 i] 3)).heap.size = w.heap.size + 1 + 1 + 1 := by simp [s2]
  have a3 : (w2.alloc (.cells #[.int .i64 g, .int .i64 h, .int .i64 i] 3)).heap[w.heap.size + 1 + 1]? = some (.cells #[.int .i64 g, .int .i64 h, .int .i64 i] 3 (0, 0)) := by rw [← s2]; exact heap_alloc_new w2 _
  have a13 := (Below.heap_alloc w2 (.cells #[.int .i64 g, .int .i64 h, .int .i64 i] 3) w.heap.size (by omega)).trans a12
  have a23 := (Below.heap_alloc w2 (.cells #[.int .i64 g, .int .i64 h, .int .i64 i] 3) (w.heap.size + 1) (by omega)).trans a2
  obtain ⟨w3, hw3⟩ : ∃ z, z = w2.alloc (.cells #[.int .i64 g, .int .i64 h, .int .i64 i] 3) := ⟨_, rfl⟩
  have b3 : Below w.heap.size w w3 := by rw [hw3]; exact b2.alloc (by omega) _
  rw [← hw3] at s3 a3 a13 a23 ⊢
  obtain ⟨ob, hob⟩ : ∃ z, z = Obj.cells #[.slice (some ⟨w.heap.size, 0, none⟩) 3 3, .slice (some ⟨w.heap.size + 1, 0, none⟩) 3 3, .slice (some ⟨w.heap.size + 1 + 1, 0, none⟩) 3 3] 29 := ⟨_, rfl⟩
  rw [← hob]
  have a4 : (w3.alloc ob).heap[w.heap.size + 1 + 1 + 1]? = some ob := by rw [← s3]; exact heap_alloc_new w3 _
  have a14 := (Below.heap_alloc w3 ob w.heap.size (by omega)).trans a13
  have a24 := (Below.heap_alloc w3 ob (w.heap.size + 1) (by omega)).trans a23
  have a34 := (Below.heap_alloc w3 ob (w.heap.size + 1 + 1) (by omega)).trans a3
  obtain ⟨w4, hw4⟩ : ∃ z, z = w3.alloc ob := ⟨_, rfl⟩
  have b4 : Below w.heap.size w w4 := by rw [hw4]; exact b3.alloc (by omega) _
  rw [← hw4] at a4 a14 a24 a34 ⊢
  rw [hob] at a4
  refine ⟨_, rfl, b4, rfl, by omega, by omega, fun h => (by cases h), fun _ => ⟨_, 0, rfl, fun j hj => ?_⟩⟩
  have hj3 : j = 0 ∨ j = 1 ∨ j = 2 := by omega
  rcases hj3 with rfl | rfl | rfl
  · exact ⟨_, 3, by rw [cell_of_row _ _ _ _ _ _ a4]; rfl, Nat.le_refl _, fun h => (by cases h), ints3 a14⟩
  · exact ⟨_, 3, by rw [cell_of_row _ _ _ _ _ _ a4]; rfl, Nat.le_refl _, fun h => (by cases h), ints3 a24⟩
  · exact ⟨_, 3, by rw [cell_of_row _ _ _ _ _ _ a4]; rfl, Nat.le_refl _, fun h => (by cases h), ints3 a34⟩
end Go.Proofs.YtiodednhadnekaaDoor

namespace Go.Proofs.YtiodednhadnekaaDoor
open Go.RowKit Go.Deep
attribute [local go_sem ↓] Go.wp_at_zero Go.wp_at_succ

set_option maxRecDepth 100000 in
set_option maxHeartbeats 8000000 in
/-- dibberlaw01.alive -/
theorem f17_any (w : World) (ht : Tab w) : Calls Tryd.prog 17 #[] w fun e w' => e = .returned (.bool true) ∧ Below w.heap.size w w' := by
  have K38 : Hid (Calls Tryd.prog 38 #[.int .i64 3, .int .i64 1] w fun e w' => ∃ A c, e = .returned (.tuple #[.slice A 3 c, .int .i64 0]) ∧ BedsN w' w.heap.size A 3 c cyc3 ∧ Below w.heap.size w w') := Lib.hid (by
    have h := f38_yes 3 1 w (by unfold cycOk; decide)
    rw [cyc3_is] at h
    exact h)
  have HT := Lib.hid ht
  clear ht
  go_enter Tryd.func17, Tryd.ntmps17
  go_wp2_with fail
  refine K38.out.mono ?_
  rintro e w1 ⟨A, c, rfl, hb1, hw1⟩
  have B1 := Lib.hid hb1.beds
  have W1 := Lib.hid hw1
  clear hb1 hw1 K38
  go_wp2_with fail
  refine (f22_any A 3 c cyc3 w1 B1.out).mono ?_
  rintro e w2 ⟨A2, k2, c2, rfl, hb2, hw2⟩
  rw [mate3] at hb2
  have hk2 : k2 = 3 := hb2.1.symm
  subst hk2
  rw [mateE3]
  have M2 := Lib.hid hb2.beds
  have B2 := Lib.hid (B1.out.below hw2)
  have W2 := Lib.hid (below_step W1.out hw2)
  clear hb2 hw2 B1 W1
  go_wp2_with fail
  refine (f30_any A 3 c cyc3 w2 B2.out).mono ?_
  rintro e w3 ⟨rfl, hw3⟩
  rw [tr3.1, tr3.2]
  have M3 := Lib.hid (M2.out.below hw3)
  have W3 := Lib.hid (below_step W2.out hw3)
  clear hw3 B2 W2 M2
  obtain ⟨wa, hwa, hba, hla⟩ := lit3 w3 0 (-1) (-1) (-1) (-1) 0 (-1) (-1) (-1)
  go_wp2_with fail
  rw [← hwa]
  clear hwa
  refine (f19_any _ 3 3 bed3 wa hla ((HT.out.below W3.out).below hba)).mono ?_
  rintro e w4 ⟨A4, k4, c4, rfl, hb4, hw4⟩
  rw [fillLE3.1] at hb4
  rw [fillLE3.2]
  have hk4 : k4 = 3 := hb4.1.symm
  subst hk4
  have L4 := Lib.hid hb4.beds
  have M4 := Lib.hid ((M3.out.below hba).below hw4)
  have W4 := Lib.hid (below_step (below_step W3.out hba) hw4)
  clear hla hba hb4 hw4 M3 W3
  obtain ⟨wb, hwb, hbb, hlb⟩ := lit3 w4 0 1 2 2 0 1 1 2 0
  go_wp2_with fail
  rw [← hwb]
  clear hwb
  refine (f20_any A2 _ 3 c2 3 3 mat3 mat3 wb (M4.out.below hbb) hlb).mono ?_
  rintro e w5 ⟨rfl, k5, rfl⟩
  rw [show decide (mat3 = mat3) = true from by decide]
  have W5 := Lib.hid (below_drewN (below_step W4.out hbb) k5)
  have L5 := Lib.hid ((L4.out.below hbb).drewN k5)
  clear hbb hlb L4 M4 W4
  obtain ⟨wc, hwc⟩ : ∃ z, z = wb.drewN k5 := ⟨_, rfl⟩
  rw [← hwc] at W5 L5 ⊢
  clear hwc
  obtain ⟨wd, hwd, hbd, hld⟩ := lit3 wc 0 1 2 1 2 0 2 0 1
  go_wp2_with fail
  rw [← hwd]
  clear hwd
  refine (f20_any A4 _ 3 c4 3 3 cyc3 cyc3 wd (L5.out.below hbd) hld).mono ?_
  rintro e w6 ⟨rfl, k6, rfl⟩
  rw [show decide (cyc3 = cyc3) = true from by decide]
  have W6 := Lib.hid (below_drewN (below_step W5.out hbd) k6)
  clear hbd hld L5 W5
  go_wp2
  go_ret
  exact ⟨rfl, W6.out⟩
end Go.Proofs.YtiodednhadnekaaDoor
