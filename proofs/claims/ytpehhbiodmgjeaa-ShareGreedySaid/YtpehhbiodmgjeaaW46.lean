/- Walks: the orders, with what Corners does at each. -/
import Derived.Test.YtpehhbiodmgjeaaW42
import Derived.Test.YtpehhbiodmgjeaaW45
import Derived.Test.YtpehhbiodmgjeaaW8
namespace Go.Proofs.Ytpehhbiodmgjeaa
open Go.RowKit
def seenM (l : List Nat) : Nat := l.foldl (fun s i => s ||| 2 ^ i) 0
theorem seenM_snoc (l : List Nat) (x : Nat) : seenM (l ++ [x]) = seenM l ||| 2 ^ x := by
  unfold seenM; rw [List.foldl_append]; rfl
theorem seenM_bit (l : List Nat) (x : Nat) : (seenM l).testBit x = decide (x ∈ l) := by
  unfold seenM
  suffices ∀ s, (l.foldl (fun s i => s ||| 2 ^ i) s).testBit x = (s.testBit x || decide (x ∈ l)) by simpa using this 0
  induction l with
  | nil => simp
  | cons a l ih =>
    intro s
    rw [List.foldl_cons, ih, Nat.testBit_or, Nat.testBit_two_pow]
    by_cases h : a = x
    · subst h; simp
    · have h2 : ¬ x = a := fun e => h e.symm
      simp [h, h2]
theorem seenM_lt (l : List Nat) (n : Nat) (h : ∀ x ∈ l, x < n) : seenM l < 2 ^ n := by
  unfold seenM
  suffices ∀ s, s < 2 ^ n → l.foldl (fun s i => s ||| 2 ^ i) s < 2 ^ n from this 0 (Nat.pow_pos (by omega))
  induction l with
  | nil => exact fun s h => h
  | cons a l ih =>
    intro s hs
    rw [List.foldl_cons]
    exact ih (fun x hx => h x (by simp [hx])) _ (Nat.or_lt_two_pow hs (Nat.pow_lt_pow_right (by omega) (h a (by simp))))
/-- append to a slice of ints that has no room, inside a region that draws. -/
theorem step_pushFull {w : World} {ops : Array Oper} {o : Oper} {a : Act} {K : Act → World → Prop} {Q : Exit → Act → World → Prop} {E : Prop} (hgd : o.guard = none) (s x : Operand)
    (ho : o.op = .call { callee := .builtin .append, args := #[s, x], argTypes := #[22, 22] })
    (A : Option Addr) (n : Nat) (xs : List Int) (hs : a.eval s = .slice A n n) (hn : A = none → n = 0) (hi : Ints w A n xs) (g c : Nat) (y : Int) (hx : a.eval x = .slice (some ⟨g, 0, none⟩) 1 c)
    (hc : w.cell? ⟨g, 0, none⟩ = some (.int .i64 y)) (hl : n ≤ 1000000)
    (h : ∀ v' w', Row w' w.heap.size v' (xs ++ [y]) → w.grownBy w' none → K (a.put o.dst v') w') : if Region.wanted o (yielded ops a.tmps) = true then Oper.wp Try.prog o a w K Q else E := by
  have hw : Region.wanted o (yielded ops a.tmps) = true := by simp [Region.wanted, hgd]
  rw [if_pos hw]
  obtain ⟨i0, hi0, hz0, hz1, hz2⟩ := info_parts (show (Try.prog.info? 3).map (fun i => (i.zero, i.size, i.bytes)) = some (some (.int .i64 0), 1, 8) from by kernel_rfl)
  have hnews : ∀ (j : Nat) (u : Value), ([Value.int .i64 y] : List Value)[j]? = some u → w.cell? ((⟨g, 0, none⟩ : Addr).add j) = some u := by
    intro j u hj
    match j, hj with
    | 0, hj => simp at hj; subst hj; simpa [Addr.add] using hc
  have e : (xs ++ [y]).length = n + 1 := by rw [List.length_append, hi.len]; rfl
  cases A with
  | some b =>
    obtain ⟨v', w', hrun, r1, r2⟩ := run_append_arg_grows (P := Try.prog) w 22 o.type 3 i0 (.int .i64 0) 1 8 Try.underlying22 hi0 hz0 hz1 hz2 rfl (by decide) b n n (xs.map (Value.int .i64)) (by rw [List.length_map, hi.len, Nat.mul_one]) (by
      intro j u hu
      have hj : j < n := by
        rcases Nat.lt_or_ge j n with h | h
        · exact h
        · rw [List.getElem?_eq_none (by rw [List.length_map, hi.len]; exact h)] at hu; cases hu
      obtain ⟨b', off, e, hc⟩ := hi.ad (by omega)
      cases e
      have hjl : j < xs.length := by rw [hi.len]; exact hj
      rw [Go.WideShapes.add_plain, hc j hj, ← hu]
      simp [hjl]) ⟨g, 0, none⟩ 1 c [.int .i64 y] rfl hnews (by omega) (by unfold maxLen; omega) (by omega)
    unfold Oper.wp
    simp [execOp, ho, resolve, invoke, builtin, hs, hx, hrun, Result.andThen]
    exact h v' w' (by unfold Row; rw [e]; simpa using r1) r2
  | none =>
    obtain rfl := hn rfl
    have hl0 : xs = [] := List.eq_nil_of_length_eq_zero hi.len
    subst hl0
    obtain ⟨v', w', hrun, r1, r2, _⟩ := run_append_own (P := Try.prog) w w.heap.size 22 o.type 3 i0 (.int .i64 0) 1 8 Try.underlying22 hi0 hz0 hz1 hz2 rfl (by decide) (.slice none 0 0) 0 [] (World.ownsRow_nil w _ 3 1) ⟨g, 0, none⟩ 1 c [.int .i64 y] rfl hnews (by intro u hu; simp at hu; subst hu; rfl) (by unfold maxLen; omega) (by omega) (Nat.le_refl _)
    unfold Oper.wp
    simp [execOp, ho, resolve, invoke, builtin, hs, hx, hrun, Result.andThen]
    exact h v' w' (by unfold Row; rw [e]; simpa using r1) (by simpa [Value.ownBlock] using r2)
theorem enter75 (args : Array Value) (w : World) : (callFunc 75 args).run Try.prog w = .ok (.enter 75 args) w := by simp [go_sem]
theorem enter91 (args : Array Value) (w : World) : (callFunc 91 args).run Try.prog w = .ok (.enter 91 args) w := by simp [go_sem]
section
variable (w0 : World) (B pC p n len c : Nat) (A : Option Addr) (xs : List Int) (pn pv po : Nat)
/-- What on is told. -/
structure OnX (w : World) : Prop where
  bn : Box w pn (.pointer (some ⟨p, 0, none⟩)) 52
  bv : Box w pv (.func (.func 75) #[] #[.pointer (some ⟨B, 0, none⟩), .pointer (some ⟨pC, 0, none⟩)]) 79
  bo : Box w po (.func (.func 91) #[] #[.pointer (some ⟨pn, 0, none⟩), .pointer (some ⟨pv, 0, none⟩), .pointer (some ⟨po, 0, none⟩)]) 86
  below : Below B w0 w
theorem OnX.kept {w w' : World} (h : OnX w0 B pC p pn pv po w) (k : KeptT B w w') (hB : B ≤ w.heap.size) : OnX w0 B pC p pn pv po w' :=
  ⟨h.bn.kept (by decide) (by decide) k, h.bv.kept (by decide) (by decide) k, h.bo.kept (by decide) (by decide) k, k.below h.below hB⟩
def OnC (k : Nat) (l : List Nat) : Prop := ∀ (T : List (List Int)) (Ao : Option Addr) (d : Nat) (w : World), OnX w0 B pC p pn pv po w → St B T w → Ints w Ao l.length (zs l) → Own3 w Ao → l.length ≤ d → (Ao = none → l.length = 0 ∧ d = 0) → (∀ x ∈ l, x < n) → T.length + (ordF n k l).length ≤ 999999 →
  Calls Try.prog 91 #[.slice Ao l.length d, .int .i64 (seenM l : Int), .pointer (some ⟨pn, 0, none⟩), .pointer (some ⟨pv, 0, none⟩), .pointer (some ⟨po, 0, none⟩)] w fun e w' => e = .returned (.tuple #[]) ∧ St B (T ++ (ordF n k l).map (greedyL n xs)) w' ∧ KeptT B w w'
set_option maxRecDepth 100000 in
set_option maxHeartbeats 4000000 in
theorem f91_end (H : CosI w0 pC p n len c A xs) (hB : B = w0.heap.size) (l : List Nat) (hl : l.length = n) : OnC w0 B pC p n xs pn pv po 0 l := by
  intro T Ao d w hx hst hi ho hd hnil hln hT
  have hF : Hid (ordF n 0 l = [l]) := rfl
  rw [hF.out, List.length_singleton] at hT
  have K := Lib.hid (f75_any w0 B pC p n len c A xs H hB T Ao l.length d (zs l) w hx.below (by omega) hst hi (fun j hj => by
    rw [zs_get]
    have := hln _ (List.getElem_mem hj)
    rw [List.getD_eq_getElem?_getD, List.getElem?_eq_getElem hj]
    simp only [Option.getD_some]
    omega))
  rw [zs_back] at K
  have c1 := hx.bn.cell
  have c2 := hx.bv.cell
  have hq : ((l.length : Int) == (n : Int)) = true := by simp; omega
  have c3 := (H.cost.1)
  have hb := hx.below
  have c4 := (hb.cell (by rw [hB]; exact lt_of_cell c3)).trans c3
  have hen := enter75
  generalize seenM l = C1 at *
  have HFM : Hid ((ordF n 0 l).map (greedyL n xs) = [greedyL n xs l]) := Lib.hid (by rw [hF.out]; rfl)
  have hd2 : (l.length : Int) ≤ (d : Int) := by omega
  obtain ⟨r, hr⟩ : ∃ z, z = l.length := ⟨_, rfl⟩
  rw [← hr] at hq K hd2 hl ⊢
  have hsm : r ≤ 6 := by have := H.n6; omega
  obtain rfl : r = n := hl
  clear hB hx hst hi ho hd hnil hln hT H hb c3 hF hr
  go_enter Try.func91, Try.ntmps91
  go_wp2_with fail
  refine K.out.mono ?_
  rintro e w1 ⟨rfl, h1, h2⟩
  have H1 := Lib.hid h1
  have H2 := Lib.hid h2
  clear h1 h2
  go_wp2
  refine bodyPost_ret (results_none rfl _ _ _) rfl ?_
  exact ⟨rfl, by rw [HFM.out]; exact H1.out, H2.out⟩
set_option maxRecDepth 100000 in
set_option maxHeartbeats 8000000 in
theorem f91_step (H : CosI w0 pC p n len c A xs) (hB : B = w0.heap.size) (k : Nat) (l : List Nat) (hl : l.length + (k + 1) = n) (ih : ∀ x, x < n → OnC w0 B pC p n xs pn pv po k (l ++ [x])) : OnC w0 B pC p n xs pn pv po (k + 1) l := by
  intro T Ao d w hx hst hi ho hd hnil hln hT
  have hn := H.n6
  have HX := Lib.hid hx
  have HST := Lib.hid hst
  have HI := Lib.hid hi
  have HO := Lib.hid ho
  have HNIL := Lib.hid hnil
  have HIH := Lib.hid ih
  have HLN := Lib.hid hln
  have HTC : Hid (∀ x, ordTo n k l (x + 1) = ordTo n k l x ++ ordC n k l x) := Lib.hid (ordTo_succ n k l)
  have HTD : Hid (∀ x, ordC n k l x = if x ∈ l then [] else ordF n k (l ++ [x])) := Lib.hid fun x => rfl
  have HF : Hid (ordF n (k + 1) l = ordTo n k l n) := rfl
  have HZ : Hid (ordTo n k l 0 = []) := rfl
  have HTM : Hid (∀ x, x ≤ n → T.length + (ordTo n k l x).length ≤ 999999) := Lib.hid fun x hx => by
    rw [HF.out] at hT
    have : (ordTo n k l x).length ≤ (ordTo n k l n).length := by
      suffices ∀ d, x ≤ d → (ordTo n k l x).length ≤ (ordTo n k l d).length from this n hx
      intro d hd
      induction d with
      | zero => obtain rfl : x = 0 := by omega
                exact Nat.le_refl _
      | succ d ih =>
        rcases Nat.lt_or_ge d x with h | h
        · obtain rfl : x = d + 1 := by omega
          exact Nat.le_refl _
        · rw [ordTo_succ, List.length_append]
          have := ih h
          omega
    omega
  have HXL : Hid (∀ x, (l ++ [x]).length = l.length + 1) := Lib.hid fun x => by simp
  have HSN : Hid (∀ x, seenM (l ++ [x]) = seenM l ||| 2 ^ x) := Lib.hid (seenM_snoc l)
  have HBIT : Hid (∀ x, (seenM l).testBit x = decide (x ∈ l)) := Lib.hid (seenM_bit l)
  have h64 : seenM l < 64 := Nat.lt_of_lt_of_le (seenM_lt l n hln) (pow6 n hn)
  have c1 := hx.bn.cell
  have c3 := H.cost.1
  have c4 := (hx.below.cell (by rw [hB]; exact lt_of_cell c3)).trans c3
  have hen := enter91
  have hBl : B ≤ w.heap.size := Nat.le_of_lt hst.lt
  obtain ⟨r, hr⟩ : ∃ z, z = l.length := ⟨_, rfl⟩
  have HRL : Hid (l.length = r) := Lib.hid hr.symm
  rw [← hr] at hl hd HI HNIL HXL ⊢
  generalize seenM l = C1 at *
  have hq : ((r : Int) == (n : Int)) = false := by simp; omega
  have hrd : (r : Int) ≤ (d : Int) := by omega
  have r0 : (0 : Int) ≤ (r : Int) := by omega
  have hr6 : r ≤ 1000000 := by omega
  clear hx hst hi ho hd hnil hln hT ih c3 hr H
  go_enter Try.func91, Try.ntmps91
  go_wp2_with fail
  go_loopw [22] (fun xi wr => ∃ x : Nat, x ≤ n ∧ xi = .int .i64 (x : Int) ∧ Hid (St B (T ++ (ordTo n k l x).map (greedyL n xs)) wr) ∧ Hid (KeptT B w wr)) (fun xi _ => n - (intOf xi).toNat)
  case atStart => exact ⟨0, by omega, rfl, Lib.hid (by rw [HZ.out]; simpa using HST.out), Lib.hid (KeptT.refl _ _)⟩
  case round => as_aux_lemma =>
    obtain ⟨x, hx, rfl, HS, HK⟩ := hrel
    by_cases hxn : x < n
    · have x0 : (0 : Int) ≤ (x : Int) := by omega
      have xn : (x : Int) < (n : Int) := by omega
      obtain ⟨N, hN, hshl⟩ := shl_one x (by omega)
      have hN2 : N ≤ 64 := by rw [hN]; exact pow6 x (by omega)
      have e1 := bits_and_nat C1 N (by omega) (by omega)
      have e2 := bits_or_nat C1 N (by omega) (by omega)
      have hbt := bit_and _ h64 x (by omega)
      rw [← hN] at hbt
      have HSN1 := Lib.hid (HSN.out x)
      rw [← hN] at HSN1
      have HBX := Lib.hid (HBIT.out x)
      clear hN
      cases hb : C1.testBit x
      · have hz : C1 &&& N = 0 := by rw [hb] at hbt; simpa using hbt
        rw [hz] at e1
        have HM : Hid (¬ x ∈ l) := Lib.hid (by have := HBX.out; rw [hb] at this; simpa using this)
        have HE : Hid (ordTo n k l (x + 1) = ordTo n k l x ++ ordF n k (l ++ [x])) := Lib.hid (by rw [HTC.out, HTD.out, if_neg HM.out])
        clear hbt hb hz HBX
        have HXR : Hid (OnX w0 B pC p pn pv po wr) := Lib.hid (OnX.kept w0 B pC p pn pv po HX.out HK.out hBl)
        have cpo := HXR.out.bo.cell
        have S1 : Hid (∀ W, Below wr.heap.size wr W → W.cell? ⟨po, 0, none⟩ = some (.func (.func 91) #[] #[.pointer (some ⟨pn, 0, none⟩), .pointer (some ⟨pv, 0, none⟩), .pointer (some ⟨po, 0, none⟩)])) := Lib.hid fun W h => (HXR.out.bo.below h).cell
        have S3 : Hid (∀ W, KeptT B wr W → W.cell? ⟨po, 0, none⟩ = some (.func (.func 91) #[] #[.pointer (some ⟨pn, 0, none⟩), .pointer (some ⟨pv, 0, none⟩), .pointer (some ⟨po, 0, none⟩)])) := Lib.hid fun W h => (HXR.out.bo.kept (by decide) (by decide) h).cell
        have RN : Hid (Ao = none → r = 0) := Lib.hid fun h => (HNIL.out h).1
        have R1 : Hid (∀ W, Below wr.heap.size wr W → Ints W Ao r (zs l)) := Lib.hid fun W h => (HI.out.kept HO.out HK.out).below h
        have R3 : Hid (∀ (W w' : World) (A' : Option Addr) (c' : Nat), Below wr.heap.size wr W → Below W.heap.size W w' → Ints w' A' (r + 1) (zs (l ++ [x])) → Own3 w' A' → r + 1 ≤ c' → (A' = none → r + 1 = 0 ∧ c' = 0) →
            Calls Try.prog 91 #[.slice A' (r + 1) c', .int .i64 ((C1 ||| N : Nat) : Int), .pointer (some ⟨pn, 0, none⟩), .pointer (some ⟨pv, 0, none⟩), .pointer (some ⟨po, 0, none⟩)] w' fun e w'' => e = .returned (.tuple #[]) ∧ St B (T ++ (ordTo n k l (x + 1)).map (greedyL n xs)) w'' ∧ KeptT B wr w'') := Lib.hid fun W w' A' c' h1 h2 h3 h4 h5 h6 => by
          have h7 : Below wr.heap.size wr w' := below_step h1 h2
          have h := HIH.out x hxn (T ++ (ordTo n k l x).map (greedyL n xs)) A' c' w' (OnX.kept w0 B pC p pn pv po HXR.out (KeptT.of h7) (Nat.le_of_lt HS.out.lt)) (HS.out.below h7) (by rw [HXL.out]; exact h3) h4 (by rw [HXL.out]; exact h5) (fun e => by rw [HXL.out]; exact h6 e) (fun y hy => by
            rcases List.mem_append.1 hy with hy | hy
            · exact HLN.out y hy
            · rw [List.mem_singleton] at hy; omega) (by
            have := HTM.out (x + 1) (by omega)
            rw [HE.out, List.length_append] at this
            rw [List.length_append, List.length_map]
            omega)
          rw [HXL.out, HSN1.out] at h
          exact h.mono fun e w'' hh => ⟨hh.1, by rw [HE.out, List.map_append, ← List.append_assoc]; exact hh.2.1, (KeptT.of h7).trans hh.2.2⟩
        go_wp2_with fail
        refine wp_region_held_drew (S := fun W => W.cell? ⟨po, 0, none⟩ = some (.func (.func 91) #[] #[.pointer (some ⟨pn, 0, none⟩), .pointer (some ⟨pv, 0, none⟩), .pointer (some ⟨po, 0, none⟩)])) (by kernel_rfl) (S1.out _ (by first | exact Below.refl _ _ | exact (Below.refl _ _).drew)) (fun hS => ?_)
        refine wpAnyH_take (i := 0) (oi := { dst := some 30, op := Op.load 86 (Operand.tmp 4), type := 86, pos := "share.go:142", after := #[], guard := none }) (v := (.func (.func 91) #[] #[.pointer (some ⟨pn, 0, none⟩), .pointer (some ⟨pv, 0, none⟩), .pointer (some ⟨po, 0, none⟩)])) rfl (by kernel_rfl) (by kernel_rfl) (by kernel_rfl) (fun _ _ _ h => h) (Or.inl ⟨by kernel_rfl, fun W hSW => by go_simp⟩) hS ?_
        try simp only [Act.put, List.setIfInBounds_toArray, List.set_cons_zero, List.set_cons_succ]
        refine wpAnyH_take (i := 1) (oi := { dst := some 31, op := Op.move (Operand.tmp 0), type := 22, pos := "share.go:142", after := #[], guard := none }) (v := .slice Ao r d) rfl (by kernel_rfl) (by kernel_rfl) (by kernel_rfl) (fun _ _ _ h => h) (Or.inl ⟨by kernel_rfl, fun W hSW => by kernel_rfl⟩) hS ?_
        try simp only [Act.put, List.setIfInBounds_toArray, List.set_cons_zero, List.set_cons_succ]
        refine wpAnyH_take (i := 2) (oi := { dst := some 32, op := Op.move (Operand.tmp 0), type := 22, pos := "share.go:142", after := #[], guard := none }) (v := .slice Ao r d) rfl (by kernel_rfl) (by kernel_rfl) (by kernel_rfl) (fun _ _ _ h => h) (Or.inl ⟨by kernel_rfl, fun W hSW => by kernel_rfl⟩) hS ?_
        try simp only [Act.put, List.setIfInBounds_toArray, List.set_cons_zero, List.set_cons_succ]
        refine wpAnyH_take (i := 3) (oi := { dst := some 33, op := Op.call { callee := Callee.builtin Builtin.len, args := #[Operand.tmp 32], argTypes := #[22] }, type := 3, pos := "share.go:142", after := #[{ on := 2, ground := Ground.data }], guard := none }) (v := .int .i64 (r : Int)) rfl (by kernel_rfl) (by kernel_rfl) (by kernel_rfl) (fun _ _ _ h => h) (Or.inl ⟨by kernel_rfl, fun W hSW => by go_simp⟩) hS ?_
        try simp only [Act.put, List.setIfInBounds_toArray, List.set_cons_zero, List.set_cons_succ]
        refine wpAnyH_take (i := 4) (oi := { dst := some 34, op := Op.move (Operand.tmp 0), type := 22, pos := "share.go:142", after := #[], guard := none }) (v := .slice Ao r d) rfl (by kernel_rfl) (by kernel_rfl) (by kernel_rfl) (fun _ _ _ h => h) (Or.inl ⟨by kernel_rfl, fun W hSW => by kernel_rfl⟩) hS ?_
        try simp only [Act.put, List.setIfInBounds_toArray, List.set_cons_zero, List.set_cons_succ]
        refine wpAnyH_take (i := 5) (oi := { dst := some 35, op := Op.call { callee := Callee.builtin Builtin.len, args := #[Operand.tmp 34], argTypes := #[22] }, type := 3, pos := "share.go:142", after := #[{ on := 4, ground := Ground.data }], guard := none }) (v := .int .i64 (r : Int)) rfl (by kernel_rfl) (by kernel_rfl) (by kernel_rfl) (fun _ _ _ h => h) (Or.inl ⟨by kernel_rfl, fun W hSW => by go_simp⟩) hS ?_
        try simp only [Act.put, List.setIfInBounds_toArray, List.set_cons_zero, List.set_cons_succ]
        refine wpAnyH_take (i := 6) (oi := { dst := some 36, op := Op.slice 22 (Operand.tmp 31) none (some (Operand.tmp 33)) (some (Operand.tmp 35)), type := 22, pos := "share.go:142", after := #[{ on := 1, ground := Ground.data }, { on := 3, ground := Ground.data }, { on := 5, ground := Ground.data }], guard := none }) (v := .slice Ao r r) rfl (by kernel_rfl) (by kernel_rfl) (by kernel_rfl) (fun _ _ _ h => h) (Or.inl ⟨by kernel_rfl, fun W hSW => by go_simp⟩) hS ?_
        try simp only [Act.put, List.setIfInBounds_toArray, List.set_cons_zero, List.set_cons_succ]
        refine wpAnyH_take (i := 7) (oi := { dst := some 37, op := Op.move (Operand.tmp 7), type := 3, pos := "share.go:142", after := #[], guard := none }) (v := .int .i64 (x : Int)) rfl (by kernel_rfl) (by kernel_rfl) (by kernel_rfl) (fun _ _ _ h => h) (Or.inl ⟨by kernel_rfl, fun W hSW => by kernel_rfl⟩) hS ?_
        try simp only [Act.put, List.setIfInBounds_toArray, List.set_cons_zero, List.set_cons_succ]
        refine wpAnyH_take (i := 10) (oi := { dst := some 40, op := Op.move (Operand.tmp 1), type := 3, pos := "share.go:142", after := #[], guard := none }) (v := .int .i64 (C1 : Int)) rfl (by kernel_rfl) (by kernel_rfl) (by kernel_rfl) (fun _ _ _ h => h) (Or.inl ⟨by kernel_rfl, fun W hSW => by kernel_rfl⟩) hS ?_
        try simp only [Act.put, List.setIfInBounds_toArray, List.set_cons_zero, List.set_cons_succ]
        refine wpAnyH_take (i := 11) (oi := { dst := some 41, op := Op.move (Operand.tmp 7), type := 3, pos := "share.go:142", after := #[], guard := none }) (v := .int .i64 (x : Int)) rfl (by kernel_rfl) (by kernel_rfl) (by kernel_rfl) (fun _ _ _ h => h) (Or.inl ⟨by kernel_rfl, fun W hSW => by kernel_rfl⟩) hS ?_
        try simp only [Act.put, List.setIfInBounds_toArray, List.set_cons_zero, List.set_cons_succ]
        refine wpAnyH_take (i := 12) (oi := { dst := some 42, op := Op.binOp BinOp.shl 3 (Operand.const (Value.int IntKind.i64 1)) (Operand.tmp 41) 3, type := 3, pos := "share.go:142", after := #[{ on := 11, ground := Ground.data }], guard := none }) (v := .int .i64 (N : Int)) rfl (by kernel_rfl) (by kernel_rfl) (by kernel_rfl) (fun _ _ _ h => h) (Or.inl ⟨by kernel_rfl, fun W hSW => by go_simp⟩) hS ?_
        try simp only [Act.put, List.setIfInBounds_toArray, List.set_cons_zero, List.set_cons_succ]
        refine wpAnyH_take (i := 13) (oi := { dst := some 43, op := Op.binOp BinOp.or 3 (Operand.tmp 40) (Operand.tmp 42) 3, type := 3, pos := "share.go:142", after := #[{ on := 10, ground := Ground.data }, { on := 12, ground := Ground.data }], guard := none }) (v := .int .i64 ((C1 ||| N : Nat) : Int)) rfl (by kernel_rfl) (by kernel_rfl) (by kernel_rfl) (fun _ _ _ h => h) (Or.inl ⟨by kernel_rfl, fun W hSW => by go_simp⟩) hS ?_
        try simp only [Act.put, List.setIfInBounds_toArray, List.set_cons_zero, List.set_cons_succ]
        refine wpAnyH_ready (rs := [8]) (by kernel_rfl) (by simp) ?_
        refine AllReadyH.cons (o := { dst := some 38, op := Op.buildSlice 22 1 #[(0, Operand.tmp 37)], type := 22, pos := "share.go:142", after := #[{ on := 7, ground := Ground.data }], guard := none }) rfl (fun K hK => ?_) AllReadyH.nil
        go_simp
        refine hK.out _ _ (S1.out _ (by first | exact below_alloc wr _ | exact (below_alloc wr _).drew)) (fun hS => ?_)
        clear hK K
        try simp only [Act.put, List.setIfInBounds_toArray, List.set_cons_zero, List.set_cons_succ]
        refine wpAnyH_ready (rs := [9]) (by kernel_rfl) (by simp) ?_
        refine AllReadyH.cons (o := { dst := some 39, op := Op.call { callee := Callee.builtin Builtin.append, args := #[Operand.tmp 36, Operand.tmp 38], argTypes := #[22, 22] }, type := 22, pos := "share.go:142", after := #[{ on := 6, ground := Ground.data }, { on := 8, ground := Ground.data }], guard := none }) rfl (fun K hK => ?_) AllReadyH.nil
        refine step_pushFull (by rfl) _ _ (by rfl) Ao r (zs l) (by rfl) RN.out (R1.out _ (by first | exact below_alloc wr _ | exact (below_alloc wr _).drew)) wr.heap.size 1 (x : Int) (by rfl) ((cell_new wr #[.int .i64 (x : Int)] 3 0).trans rfl) hr6 ?_
        intro v2 w2 hr2 hg2
        have hbA : Below wr.heap.size wr (wr.alloc (.cells #[.int .i64 (x : Int)] 3)) := below_alloc wr _
        have hb2 : Below (wr.alloc (.cells #[.int .i64 (x : Int)] 3)).heap.size (wr.alloc (.cells #[.int .i64 (x : Int)] 3)) w2 := by first | exact grown_none hg2 | exact below_step (below_drewN (Below.refl _ _) 1) (grown_none hg2)
        obtain ⟨A2, c2, e2, q1, q2, q3, q4⟩ := Row.form3 hr2 (by rw [← zs_snoc, zs_len, HXL.out]; omega)
        rw [← zs_snoc, zs_len, HXL.out] at e2 q1 q2 q3
        subst e2
        have KC := Lib.hid (R3.out _ w2 A2 c2 hbA hb2 q3 q4 q1 q2)
        have HQ := Lib.hid (below_step hbA hb2)
        clear hr2 hg2 hbA hb2 q1 q2 q3 q4
        refine hK.out _ _ (S1.out _ HQ.out) (fun hS => ?_)
        clear hK K
        try simp only [Act.put, List.setIfInBounds_toArray, List.set_cons_zero, List.set_cons_succ]
        refine wpAnyH_ready (rs := [14]) (by kernel_rfl) (by simp) ?_
        refine AllReadyH.cons (o := { dst := some 44, op := Op.call { callee := Callee.value (Operand.tmp 30), args := #[Operand.tmp 39, Operand.tmp 43], argTypes := #[22, 3] }, type := 0, pos := "share.go:142", after := #[{ on := 0, ground := Ground.data }, { on := 9, ground := Ground.data }, { on := 13, ground := Ground.data }, { on := 9, ground := Ground.chain }], guard := none }) rfl (fun K hK => ?_) AllReadyH.nil
        go_simp
        refine KC.out.mono ?_
        rintro e w3 ⟨rfl, p1, p2⟩
        have P1 := Lib.hid p1
        have P2 := Lib.hid p2
        clear p1 p2
        refine hK.out _ _ (S3.out _ P2.out) (fun hS => ?_)
        clear hK K
        try simp only [Act.put, List.setIfInBounds_toArray, List.set_cons_zero, List.set_cons_succ]
        refine wpAnyH_done (by kernel_rfl) ?_ _
        go_wp2
        go_roundw
        case rel => exact ⟨x + 1, by omega, by go_num, P1, Lib.hid (HK.out.trans P2.out)⟩
        case measure => simp [intOf]; omega
      · have hz : ¬ C1 &&& N = 0 := by rw [hb] at hbt; simpa using hbt
        generalize C1 &&& N = V at *
        have hNZ : ((V : Int) == 0) = false := by simp; omega
        have HM : Hid (x ∈ l) := Lib.hid (by have := HBX.out; rw [hb] at this; simpa using this)
        have HE : Hid (ordTo n k l (x + 1) = ordTo n k l x) := Lib.hid (by rw [HTC.out, HTD.out, if_pos HM.out, List.append_nil])
        clear hbt hb hz HBX
        go_wp2
        go_roundw
        case rel => exact ⟨x + 1, by omega, by go_num, Lib.hid (by rw [HE.out]; exact HS.out), HK⟩
        case measure => simp [intOf]; omega
    · obtain rfl : x = n := by omega
      go_wp2
      go_end0
      exact ⟨rfl, by rw [HF.out]; exact HS.out, HK.out⟩
theorem f91_all (H : CosI w0 pC p n len c A xs) (hB : B = w0.heap.size) : ∀ (k : Nat) (l : List Nat), l.length + k = n → OnC w0 B pC p n xs pn pv po k l
  | 0, l, h => f91_end w0 B pC p n len c A xs pn pv po H hB l h
  | k + 1, l, h => f91_step w0 B pC p n len c A xs pn pv po H hB k l h fun x _ => f91_all H hB k (l ++ [x]) (by simp; omega)
end
end Go.Proofs.Ytpehhbiodmgjeaa
