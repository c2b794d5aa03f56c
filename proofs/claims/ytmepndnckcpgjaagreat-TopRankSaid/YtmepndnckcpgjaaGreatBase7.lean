/- Words for rows of slices whose blocks are blocks of ints; an append to a slice without room. No condition. -/
import Derived.Test.YtmepndnckcpgjaaGreatBase6
import Derived.ArgAppend
namespace Go.Proofs.YtmepndnckcpgjaaGreat
open Go.RowKit
/-- natural numbers as ints -/
def zs (l : List Nat) : List Int := l.map Int.ofNat
theorem zs_get (l : List Nat) (i : Nat) : (zs l).getD i 0 = ((l.getD i 0 : Nat) : Int) := by
  unfold zs
  rw [List.getD_eq_getElem?_getD, List.getD_eq_getElem?_getD, List.getElem?_map]
  cases l[i]? <;> simp
theorem zs_len (l : List Nat) : (zs l).length = l.length := by simp [zs]
theorem zs_snoc (l : List Nat) (x : Nat) : zs (l ++ [x]) = zs l ++ [(x : Int)] := by simp [zs]
theorem zs_back (l : List Nat) : (zs l).map Int.toNat = l := by
  unfold zs
  rw [List.map_map]
  have : (Int.toNat ∘ Int.ofNat) = id := by funext x; rfl
  rw [this, List.map_id]
/-- The block is one of ints. -/
def Own3 (w : World) (B : Option Addr) : Prop := ∀ a, B = some a → ∃ cs fr, w.heap[a.block]? = some (.cells cs 3 fr)
theorem lt_of_block {w : World} {g : Nat} {o : Obj} (h : w.heap[g]? = some o) : g < w.heap.size := by
  rcases Nat.lt_or_ge g w.heap.size with hlt | hge
  · exact hlt
  · rw [Array.getElem?_eq_none hge] at h; cases h
theorem Own3.nil (w : World) : Own3 w none := fun a h => by cases h
theorem Own3.below {w w' : World} {B : Option Addr} (h : Own3 w B) (hb : Below w.heap.size w w') : Own3 w' B := fun a e => by
  obtain ⟨cs, fr, h1⟩ := h a e
  exact ⟨cs, fr, (hb.block _ (lt_of_block h1)).trans h1⟩
theorem Own.own3 {w : World} {g : Nat} {xs : List Int} (h : Own w g xs) : Own3 w (some ⟨g, 0, none⟩) := fun a e => by
  cases e
  exact ⟨_, _, h⟩
theorem Row.form3 {w : World} {base : Nat} {v : Value} {xs : List Int} (h : Row w base v xs) (hs : xs.length ≤ 1000000) : ∃ A c, v = .slice A xs.length c ∧ xs.length ≤ c ∧ (A = none → xs.length = 0 ∧ c = 0) ∧ Ints w A xs.length xs ∧ Own3 w A := by
  rcases h.2 with ⟨e, hn⟩ | ⟨g, cap, cur, e, hb, hh, hc, hm, hsz, ht⟩
  · have : xs = [] := List.eq_nil_of_length_eq_zero hn
    subst this
    exact ⟨none, 0, e, Nat.le_refl _, fun _ => ⟨rfl, rfl⟩, Ints.nil w none, Own3.nil w⟩
  · refine ⟨_, cap, e, hc, fun h => (by cases h), ⟨rfl, by omega, fun _ => ⟨g, 0, rfl, fun j hj => ?_⟩⟩, fun a e2 => by cases e2; exact ⟨_, _, hh⟩⟩
    rw [Nat.zero_add, cell_of_row w g j cur 3 (0, 0) hh]
    rw [Nat.mul_one] at ht
    have h3 : (cur.toList.take xs.length)[j]? = cur.toList[j]? := List.getElem?_take_of_lt hj
    rw [ht] at h3
    rw [← Array.getElem?_toList, ← h3]
    simp [hj]
/-- The values vs are slices that read as the lists of T, in blocks of ints. -/
def Rows3 (w : World) (vs : List Value) (T : List (List Int)) : Prop :=
  vs.length = T.length ∧ ∀ j, j < T.length → ∃ B d, vs[j]? = some (.slice B (T.getD j []).length d) ∧ (T.getD j []).length ≤ d ∧ (B = none → (T.getD j []).length = 0 ∧ d = 0) ∧ Ints w B (T.getD j []).length (T.getD j []) ∧ Own3 w B
section
variable {w w' : World} {base : Nat} {v : Value} {vs us : List Value} {T U : List (List Int)}
theorem Rows3.nil (w : World) : Rows3 w [] [] := ⟨rfl, fun j hj => by cases hj⟩
theorem Rows3.below (h : Rows3 w vs T) (hb : Below w.heap.size w w') : Rows3 w' vs T :=
  ⟨h.1, fun j hj => by
    obtain ⟨B, d, h1, h2, h3, h4, h5⟩ := h.2 j hj
    exact ⟨B, d, h1, h2, h3, h4.below hb, h5.below hb⟩⟩
theorem Rows3.drewN (h : Rows3 w vs T) (m : Nat) : Rows3 (w.drewN m) vs T := h
theorem Rows3.drew (h : Rows3 w vs T) : Rows3 w.drew vs T := h
theorem Rows3.one {B : Option Addr} {n d : Nat} {x : List Int} (hi : Ints w B n x) (hd : n ≤ d) (hn : B = none → n = 0 ∧ d = 0) (ho : Own3 w B) : Rows3 w [.slice B n d] [x] :=
  ⟨rfl, fun j hj => by
    obtain rfl : j = 0 := by simpa using hj
    have e := hi.len
    subst e
    exact ⟨B, d, rfl, hd, hn, hi, ho⟩⟩
theorem Rows3.append (h : Rows3 w vs T) (k : Rows3 w us U) : Rows3 w (vs ++ us) (T ++ U) :=
  ⟨by rw [List.length_append, List.length_append, h.1, k.1], fun j hj => by
    rcases Nat.lt_or_ge j T.length with hl | hl
    · rw [show (T ++ U).getD j [] = T.getD j [] by simp [List.getD_eq_getElem?_getD, List.getElem?_append_left hl], List.getElem?_append_left (by rw [h.1]; exact hl)]
      exact h.2 j hl
    · rw [List.length_append] at hj
      rw [show (T ++ U).getD j [] = U.getD (j - T.length) [] by simp [List.getD_eq_getElem?_getD, List.getElem?_append_right hl], List.getElem?_append_right (by rw [h.1]; exact hl), h.1]
      exact k.2 (j - T.length) (by omega)⟩
theorem Rows3.take (h : Rows3 w vs T) (k : Nat) : Rows3 w (vs.take k) (T.take k) :=
  ⟨by rw [List.length_take, List.length_take, h.1], fun j hj => by
    rw [List.length_take] at hj
    have e : (T.take k).getD j [] = T.getD j [] := by simp [List.getD_eq_getElem?_getD, show j < k by omega]
    rw [e, List.getElem?_take, if_pos (by omega)]
    exact h.2 j (by omega)⟩
theorem Rows3.drop (h : Rows3 w vs T) (k : Nat) : Rows3 w (vs.drop k) (T.drop k) :=
  ⟨by rw [List.length_drop, List.length_drop, h.1], fun j hj => by
    rw [List.length_drop] at hj
    have e : (T.drop k).getD j [] = T.getD (k + j) [] := by simp [List.getD_eq_getElem?_getD]
    rw [e, List.getElem?_drop]
    exact h.2 (k + j) (by omega)⟩
theorem Rows3.slice (h : Rows3 w vs T) {j : Nat} (hj : j < T.length) : ∃ B n d, vs[j]? = some (.slice B n d) := by
  obtain ⟨B, d, h1, _⟩ := h.2 j hj
  exact ⟨B, _, d, h1⟩
/-- What grows is a row of slices: the lists stay. -/
theorem Rows3.grown (h : Rows3 w us U) (hr : RowV w base v vs) (hg : w.grownBy w' v.ownBlock) : Rows3 w' us U :=
  ⟨h.1, fun j hj => by
    obtain ⟨B, d, h1, h2, h3, h4, h5⟩ := h.2 j hj
    have hblk : ∀ a, B = some a → w'.heap[a.block]? = w.heap[a.block]? := fun a e => by
      obtain ⟨cs, fr, hc⟩ := h5 a e
      refine hg.block a.block (lt_of_block hc) fun e2 => ?_
      rcases hr.2 with ⟨e3, _⟩ | ⟨g, cap, cur, e3, _, hh, _⟩
      · rw [e3] at e2; simp [Value.ownBlock] at e2
      · rw [e3] at e2
        simp [Value.ownBlock] at e2
        rw [e2, hh] at hc
        injection hc with hc
        injection hc with _ h6 _
        exact absurd h6 (by decide)
    refine ⟨B, d, h1, h2, h3, ⟨h4.1, h4.2.1, fun hp => ?_⟩, fun a e => ?_⟩
    · obtain ⟨b, off, e, hc⟩ := h4.2.2 hp
      refine ⟨b, off, e, fun j hj => ?_⟩
      rw [← hc j hj]
      exact World.cell?_of_block (a := ⟨b, off + j, none⟩) (hblk ⟨b, off, none⟩ e)
    · obtain ⟨cs, fr, hc⟩ := h5 a e
      exact ⟨cs, fr, (hblk a e).trans hc⟩⟩
end
/-- A slice of slices whose values are vs. -/
def Beds3 (w : World) (A : Option Addr) (c : Nat) (vs : List Value) (T : List (List Int)) : Prop :=
  Rows3 w vs T ∧ T.length ≤ 1000000 ∧ T.length ≤ c ∧ (A = none → T.length = 0 ∧ c = 0) ∧ (0 < T.length → ∃ g o, A = some ⟨g, o, none⟩ ∧ ∀ j, j < T.length → w.cell? ⟨g, o + j, none⟩ = vs[j]?)
theorem Beds3.beds {w : World} {A : Option Addr} {c : Nat} {vs : List Value} {T : List (List Int)} (h : Beds3 w A c vs T) : Beds w A T.length c T :=
  ⟨rfl, h.2.1, h.2.2.1, h.2.2.2.1, fun hn => by
    obtain ⟨g, o, e, hc⟩ := h.2.2.2.2 hn
    exact ⟨g, o, e, fun j hj => by
      obtain ⟨B, d, h1, h2, h3, h4, _⟩ := h.1.2 j hj
      exact ⟨B, d, (hc j hj).trans h1, h2, h3, h4⟩⟩⟩
theorem RowV.beds3 {w : World} {base : Nat} {v : Value} {vs : List Value} {T : List (List Int)} (h : RowV w base v vs) (hr : Rows3 w vs T) (hs : T.length ≤ 1000000) : ∃ A c, v = .slice A T.length c ∧ Beds3 w A c vs T := by
  have hcap : ∃ A c, v = .slice A vs.length c ∧ vs.length ≤ c ∧ (A = none → vs.length = 0 ∧ c = 0) := by
    rcases h.2 with ⟨e2, hn⟩ | ⟨g, cap, cur, e2, hb, hh, hc, _⟩
    · exact ⟨none, 0, by rw [e2, hn], by omega, fun _ => ⟨hn, rfl⟩⟩
    · exact ⟨_, cap, e2, hc, fun h => by cases h⟩
  obtain ⟨A, c, e, hle, hnone⟩ := hcap
  obtain ⟨A', c', e', hc⟩ := h.form
  rw [e] at e'
  injection e' with e1 e2 e3
  subst e1 e3
  rw [hr.1] at e hc hle hnone
  refine ⟨A, c, e, hr, hs, hle, hnone, fun hp => ?_⟩
  obtain ⟨g, hA, hcell⟩ := hc hp
  exact ⟨g, 0, hA, fun j hj => by rw [Nat.zero_add]; exact hcell j hj⟩
/-- append to a slice of ints that has no room. -/
theorem wpList_pushFull {w : World} {ops : Array Oper} {rest : List Oper} {o : Oper} {a : Act} {Q : Exit → Act → World → Prop} (hgd : o.guard = none) (s x : Operand)
    (ho : o.op = .call { callee := .builtin .append, args := #[s, x], argTypes := #[23, 23] })
    (A : Option Addr) (n : Nat) (xs : List Int) (hs : a.eval s = .slice A n n) (hn : A = none → n = 0) (hi : Ints w A n xs) (g c : Nat) (y : Int) (hx : a.eval x = .slice (some ⟨g, 0, none⟩) 1 c)
    (hc : w.cell? ⟨g, 0, none⟩ = some (.int .i64 y)) (hl : n ≤ 1000000)
    (h : ∀ v' w', Row w' w.heap.size v' (xs ++ [y]) → w.grownBy w' none → wpList Tryz.prog ops Q rest (a.put o.dst v') w') : wpList Tryz.prog ops Q (o :: rest) a w := by
  obtain ⟨i0, hi0, hz0, hz1, hz2⟩ := info_parts (show (Tryz.prog.info? 3).map (fun i => (i.zero, i.size, i.bytes)) = some (some (.int .i64 0), 1, 8) from by kernel_rfl)
  refine wpList_append_grows w hgd s x 23 ho 3 i0 (.int .i64 0) 1 8 Tryz.underlying23 hi0 hz0 hz1 hz2 rfl (by decide) A n n (xs.map (Value.int .i64)) hs (fun e => ⟨hn e, hn e⟩) (by rw [List.length_map, hi.len, Nat.mul_one]) ?_ ⟨g, 0, none⟩ 1 c [.int .i64 y] hx rfl ?_ ?_ (by omega) ?_ ?_ ?_
  · intro b e j u hu
    have hj : j < n := by
      rcases Nat.lt_or_ge j n with h | h
      · exact h
      · rw [List.getElem?_eq_none (by rw [List.length_map, hi.len]; exact h)] at hu; cases hu
    obtain ⟨b', off, e2, hc⟩ := hi.ad (by omega)
    rw [e] at e2
    cases e2
    have hjl : j < xs.length := by rw [hi.len]; exact hj
    rw [Go.WideShapes.add_plain, hc j hj, ← hu]
    simp [hjl]
  · intro j u hj
    match j, hj with
    | 0, hj => simp at hj; subst hj; simpa [Addr.add] using hc
  · intro u hu; simp at hu; subst hu; rfl
  · unfold maxLen; omega
  · omega
  · intro v' w' h1 h2
    refine h v' w' ?_ h2
    unfold Row
    have e : (xs ++ [y]).length = n + 1 := by rw [List.length_append, hi.len]; rfl
    rw [e]
    simpa using h1
theorem le_alloc {m : Nat} {w : World} (h : m ≤ w.heap.size) (o : Obj) : m ≤ (w.alloc o).heap.size := Nat.le_trans h (below_alloc w o).size
theorem grown_none {w w' : World} (h : w.grownBy w' none) : Below w.heap.size w w' := ⟨h.os, h.tape, h.output, h.size, fun i hi => h.block i hi (by simp)⟩
end Go.Proofs.YtmepndnckcpgjaaGreat
