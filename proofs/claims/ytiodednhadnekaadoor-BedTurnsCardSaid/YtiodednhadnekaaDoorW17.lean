/- Walks: transversals. -/
import Derived.Test.YtiodednhadnekaaDoorW16
namespace Go.Proofs.YtiodednhadnekaaDoor
open Go.RowKit Go.Deep
attribute [local go_sem ↓] Go.wp_at_zero Go.wp_at_succ

section
variable (n base : Nat) (fv : FuncId) (caps : Array Value) (stop : Bool) (Own : World → Nat → Prop) (I : List (List Nat) → World → Prop) (V : Visit n base fv caps stop Own I) (b : List (List Int)) (w0 : World) (B : Option Addr) (cb pn pv pb po : Nat)
/-- What on is shown to do from some columns on. -/
def OnC (k : Nat) (l : List Nat) : Prop := ∀ (done : List (List Nat)) (A : Option Addr) (c : Nat) (w : World), I done w → Ctx n base fv caps Own w0 B cb pn pv pb po w → IntsN Own w A l → (A = none → l = []) → l.length ≤ c → done.length + (trF b n k l).length ≤ 1000000 →
  Calls Tryd.prog 94 #[.slice A l.length c, .int .i64 (colsM l : Int), .int .i64 (cropsM b l : Int), .pointer (some ⟨pn, 0, none⟩), .pointer (some ⟨pv, 0, none⟩), .pointer (some ⟨pb, 0, none⟩), .pointer (some ⟨po, 0, none⟩)] w
    fun e w' => e = .returned (.bool (hit stop (trF b n k l))) ∧ I (done ++ vis stop (trF b n k l)) w' ∧ Kept Own w w'
include V
set_option maxHeartbeats 1000000 in
theorem f94_end (l : List Nat) (hl : l.length = n) (hln : ∀ i, i < n → l.getD i 0 < n) : OnC n base fv caps stop Own I b w0 B cb pn pv pb po 0 l := by
  intro done A c w hI hC hA _ _ hd
  obtain ⟨h1, h2, _⟩ := hC
  have hi := hA.1
  rw [hl] at hi
  have K := Lib.hid (V.call done l A c w hI (by omega) hl hln hi hA.2)
  have hf := V.enter
  have HR : Hid (trF b n 0 l = [l]) := rfl
  have HV : Hid (vis stop [l] = [l] ∧ hit stop [l] = stop) := by cases stop <;> exact ⟨rfl, rfl⟩
  have c1 := h1.1
  have c2 := h2.1
  rw [hl]
  generalize colsM l = C1 at *
  generalize cropsM b l = C2 at *
  have hsm := hi.small
  have hq : ((n : Int) == (n : Int)) = true := by simp
  clear hI hA h1 h2 hd hi hl hln
  go_enter Tryd.func94, Tryd.ntmps94
  go_wp2_with fail
  refine K.out.mono ?_
  rintro e w' ⟨rfl, h1, h2⟩
  have H1 := Lib.hid h1
  have H2 := Lib.hid h2
  clear h1 h2
  go_wp2
  go_ret
  exact ⟨ret_bool (by rw [HR.out, HV.out.2]), by rw [HR.out, HV.out.1]; exact H1.out, H2.out⟩
omit V
theorem enter94 (args : Array Value) (w : World) : (callFunc 94 args).run Tryd.prog w = .ok (.enter 94 args) w := by simp [go_sem]
include V
set_option maxRecDepth 100000 in
set_option maxHeartbeats 4000000 in
theorem f94_step (hb : IsFull n b) (hs : Beds w0 B n cb b) (hbase : base = w0.heap.size) (hn7 : n ≤ 7) (k : Nat) (l : List Nat) (hl : l.length + (k + 1) = n) (hln : ∀ i, i < l.length → l.getD i 0 < n)
    (ih : ∀ c, c < n → OnC n base fv caps stop Own I b w0 B cb pn pv pb po k (l ++ [c])) : OnC n base fv caps stop Own I b w0 B cb pn pv pb po (k + 1) l := by
  intro done A c w hI hC hA hnil hcap hd
  have HS := Lib.hid hs
  have HC := Lib.hid hC
  have HA := Lib.hid hA
  have HI := Lib.hid hI
  have HV := Lib.hid V
  have HIH := Lib.hid ih
  have HFULL := Lib.hid hb
  have HNIL := Lib.hid hnil
  have HBS := Lib.hid hbase
  have hcols : colsM l < 128 := Nat.lt_of_lt_of_le (orN_lt (N := 7) fun i hi => Nat.pow_lt_pow_right (by decide) (by have := hln i hi; omega)) (by decide)
  have hcrops : cropsM b l < 128 := Nat.lt_of_lt_of_le (orN_lt (N := 7) fun i hi => Nat.pow_lt_pow_right (by decide) (by have := hb.lo i (l.getD i 0) (by omega) (hln i hi); omega)) (by decide)
  have HLO : Hid (∀ c, c < n → 0 ≤ gAt b l.length c ∧ gAt b l.length c < n) := fun c hc => hb.lo l.length c (by omega) hc
  have HOK : Hid (∀ c, okT b l c = (!(colsM l).testBit c && !(cropsM b l).testBit (gAt b l.length c).toNat)) := fun c => rfl
  have HAP : Hid (∀ c, colsM (l ++ [c]) = colsM l ||| 2 ^ c ∧ cropsM b (l ++ [c]) = cropsM b l ||| 2 ^ (gAt b l.length c).toNat ∧ (l ++ [c]).length = l.length + 1) := fun c => ⟨colsM_app l c, cropsM_app b l c, by simp⟩
  have HTS : Hid (trF b n (k + 1) l = trTo b n k l n) := rfl
  have HTC : Hid (∀ c, trTo b n k l (c + 1) = trTo b n k l c ++ trC b n k l c) := trTo_succ b n k l
  have HTD : Hid (∀ c, trC b n k l c = if okT b l c = true then trF b n k (l ++ [c]) else []) := fun c => rfl
  have HPRE : Hid (∀ c d, c ≤ d → ∃ t, trTo b n k l d = trTo b n k l c ++ t) := fun c d h => trTo_pre h
  have HLEN : Hid (done.length + (trTo b n k l n).length ≤ 1000000) := hd
  have HROW : Hid ((b.getD l.length []).length = n) := hb.shape.2 _ (by omega)
  have HAT : Hid (∀ c, gAt b l.length c = (b.getD l.length []).getD c 0) := fun c => rfl
  obtain ⟨g0, o0, rfl, RB, rd, hrc, _, _, hri⟩ := hs.at_ (show l.length < n by omega)
  rw [HROW.out] at hrc hri
  have HRI := Lib.hid hri
  have hrlt := lt_of_cell hrc
  have hcr : w.cell? ⟨g0, o0 + l.length, none⟩ = some (.slice RB n rd) := (hC.2.2.2.2.1.cell (by rw [hbase]; exact hrlt)).trans hrc
  obtain ⟨h1, h2, h3, h4, h5, h6⟩ := hC
  have c1 := h1.1
  have c3 := h3.1
  have hsm := hA.1.small
  obtain ⟨m, hm⟩ : ∃ m, m = l.length := ⟨_, rfl⟩
  have HM := Lib.hid hm
  rw [← hm] at hl hcap hcr hsm ⊢
  have m0 : (0 : Int) ≤ (m : Int) := by omega
  have mn : (m : Int) < (n : Int) := by omega
  have hq : ((m : Int) == (n : Int)) = false := by simp; omega
  generalize colsM l = C1 at *
  generalize cropsM b l = C2 at *
  clear V hs hb hI hA hnil ih hd hri hrc h1 h2 h3 h4 h5 h6 hln hm hrlt hbase
  go_enter Tryd.func94, Tryd.ntmps94
  go_wp2_with fail
  go_loopw [26] (fun i wr => ∃ c : Nat, c ≤ n ∧ i = .int .i64 (c : Int) ∧ Hid (I (done ++ trTo b n k l c) wr ∧ Kept Own w wr ∧ (stop = true → trTo b n k l c = []))) (fun i _ => n - (intOf i).toNat)
  case atStart => exact ⟨0, by omega, rfl, ⟨by rw [trTo_zero, List.append_nil]; exact HI.out, Kept.refl _ _, fun _ => rfl⟩⟩
  case round => as_aux_lemma =>
    obtain ⟨x, hx, rfl, hst⟩ := hrel
    by_cases hlt : x < n
    · have HO : Hid (∀ i, Own w i → base ≤ i) := fun i h => (HV.out.lt _ _ i HI.out h).1
      have HCR : Hid (Ctx n base fv caps Own w0 (some ⟨g0, o0, none⟩) cb pn pv pb po wr) := HC.out.kept hst.out.2.1 HO.out
      have hbl := HCR.out.2.2.2.2.1
      have hri2 := (HRI.out.below (by rw [← HBS.out]; exact hbl)).at_ hlt
      obtain ⟨g1, o1, e1, hcy⟩ := hri2
      have cpo := HCR.out.2.2.2.1.1
      obtain ⟨y, hy⟩ := nat_of _ (HLO.out x hlt).1
      have hyn := (HLO.out x hlt).2
      rw [hy] at hyn
      have hxy : (b.getD l.length []).getD x 0 = (y : Int) := hy
      rw [hxy] at hcy
      subst e1
      obtain ⟨N, hN, hshl⟩ := shl_one x (by omega)
      obtain ⟨N2, hN2, hshl2⟩ := shl_one y (by omega)
      have l1 : N ≤ 128 := by rw [hN]; exact Nat.le_trans (Nat.pow_le_pow_right (by omega) (show x ≤ 7 by omega)) (by decide)
      have l2 : N2 ≤ 128 := by rw [hN2]; exact Nat.le_trans (Nat.pow_le_pow_right (by omega) (show y ≤ 7 by omega)) (by decide)
      have a1 := bits_and_nat C1 N (by omega) (by omega)
      have a2 := bits_and_nat C2 N2 (by omega) (by omega)
      have a3 := bits_or_nat C1 N (by omega) (by omega)
      have a4 := bits_or_nat C2 N2 (by omega) (by omega)
      have z1 : (((C1 &&& N : Nat) : Int) == 0) = !C1.testBit x := by rw [hN]; exact and_pow_zero C1 x
      have z2 : (((C2 &&& N2 : Nat) : Int) == 0) = !C2.testBit y := by rw [hN2]; exact and_pow_zero C2 y
      have HOK := Lib.hid (HOK.out x)
      rw [hy, Int.toNat_natCast] at HOK
      have HAP := Lib.hid (HAP.out x)
      rw [hy, Int.toNat_natCast, ← hN, ← hN2, ← HM.out] at HAP
      have HTC := Lib.hid (HTC.out x)
      have HTD := Lib.hid (HTD.out x)
      have HNX : Hid (∀ W, okT b l x = false → I (done ++ trTo b n k l x) W → Kept Own w W → (stop = true → trTo b n k l x = []) → I (done ++ trTo b n k l (x + 1)) W ∧ Kept Own w W ∧ (stop = true → trTo b n k l (x + 1) = [])) := fun W h p1 p2 p3 => by
        rw [HTC.out, HTD.out, h, if_neg (by simp), List.append_nil]; exact ⟨p1, p2, p3⟩
      have x0 : (0 : Int) ≤ (x : Int) := by omega
      have xn : (x : Int) < (n : Int) := by omega
      clear hxy hy hN hN2
      cases t1 : C1.testBit x
      · rw [t1, Bool.not_false] at z1
        cases t2 : C2.testBit y
        · rw [t2, Bool.not_false] at z2
          have HOKT : Hid (okT b l x = true) := by rw [HOK.out, t1, t2]; rfl
          have R1 : Hid (∀ W : World, W.heap = (wr.alloc (.cells #[.int .i64 (x : Int)] 3)).heap → Ints W A m (zs l)) := fun W h => by
            rcases Nat.eq_zero_or_pos m with e0 | e0
            · have hl0 : l = [] := List.eq_nil_of_length_eq_zero (by rw [← HM.out]; exact e0)
              subst hl0
              subst e0
              exact Ints.nil _ _
            · have h1 := (HA.out.kept hst.out.2.1 (by rw [← HM.out]; exact e0)).1
              rw [← HM.out] at h1
              have h2 := h1.below (below_alloc wr (.cells #[.int .i64 (x : Int)] 3))
              exact ⟨h2.1, h2.2.1, fun hp => by
                obtain ⟨g, o, e, hc⟩ := h2.2.2 hp
                exact ⟨g, o, e, fun j hj => by have := hc j hj; unfold World.cell? at this ⊢; rw [h]; exact this⟩⟩
          have R2 : Hid (∀ W : World, W.heap = (wr.alloc (.cells #[.int .i64 (x : Int)] 3)).heap → W.cell? ⟨wr.heap.size, 0, none⟩ = some (.int .i64 (x : Int))) := fun W h => by
            have h1 := cell_new wr #[.int .i64 (x : Int)] 3 0
            unfold World.cell? at h1 ⊢
            rw [h]; exact h1
          have RN : Hid (A = none → m = 0) := fun h => by rw [HM.out, HNIL.out h]; rfl
          have R3 : Hid (∀ (W w' : World) (A' : Option Addr) (c' : Nat), Below wr.heap.size wr W → IntsN (fun _ i => i < W.heap.size) w' A' (l ++ [x]) → A' ≠ none → m + 1 ≤ c' → Below W.heap.size W w' →
              Calls Tryd.prog 94 #[.slice A' (m + 1) c', .int .i64 ((C1 ||| N : Nat) : Int), .int .i64 ((C2 ||| N2 : Nat) : Int), .pointer (some ⟨pn, 0, none⟩), .pointer (some ⟨pv, 0, none⟩), .pointer (some ⟨pb, 0, none⟩), .pointer (some ⟨po, 0, none⟩)] w' fun e w'' => e = .returned (.bool (hit stop (trF b n k (l ++ [x])))) ∧ I (done ++ trTo b n k l x ++ vis stop (trF b n k (l ++ [x]))) w'' ∧ Kept Own w w'') := fun W w' A' c' hb1 hin hne hc' hb2 => by
            have hb3 : Below wr.heap.size wr w' := below_step hb1 hb2
            have k3 := HV.out.grow hst.out.1 hb3
            have hI3 := (HV.out.keep _ _ _ hst.out.1 hb3).1
            have hpre : done.length + (trTo b n k l x).length + (trF b n k (l ++ [x])).length ≤ 1000000 := by
              obtain ⟨t, ht⟩ := HPRE.out (x + 1) n (by omega)
              have h1 := HLEN.out
              rw [ht, HTC.out, HTD.out, if_pos HOKT.out] at h1
              simp only [List.length_append] at h1
              omega
            have h := HIH.out x hlt (done ++ trTo b n k l x) A' c' w' hI3 (HCR.out.kept k3 (fun i h => (HV.out.lt _ _ i hst.out.1 h).1)) ⟨hin.1, fun g o e => HV.out.new hst.out.1 hb3 (by have := hin.2 g o e; have := hb1.size; omega)⟩ (fun e => absurd e hne) (by rw [HAP.out.2.2]; exact hc') (by rw [List.length_append]; omega)
            rw [HAP.out.1, HAP.out.2.1, HAP.out.2.2] at h
            exact h.mono fun e w'' hh => ⟨hh.1, hh.2.1, (hst.out.2.1.trans k3).trans hh.2.2⟩
          have HGO : Hid (∀ W, hit stop (trF b n k (l ++ [x])) = false → I (done ++ trTo b n k l x ++ vis stop (trF b n k (l ++ [x]))) W → Kept Own w W → I (done ++ trTo b n k l (x + 1)) W ∧ Kept Own w W ∧ (stop = true → trTo b n k l (x + 1) = [])) := fun W h p1 p2 => by
            obtain ⟨v1, v2⟩ := vis_miss h
            rw [v1] at p1
            rw [HTC.out, HTD.out, if_pos HOKT.out]
            exact ⟨by rw [← List.append_assoc]; exact p1, p2, fun hs => by rw [hst.out.2.2 hs, v2 hs]; rfl⟩
          have HEND : Hid (∀ W, hit stop (trF b n k (l ++ [x])) = true → I (done ++ trTo b n k l x ++ vis stop (trF b n k (l ++ [x]))) W → Kept Own w W → hit stop (trF b n (k + 1) l) = true ∧ I (done ++ vis stop (trF b n (k + 1) l)) W ∧ Kept Own w W) := fun W h p1 p2 => by
            obtain ⟨t, ht⟩ := HPRE.out (x + 1) n (by omega)
            obtain ⟨v1, v2⟩ := vis_hit (T := t) hst.out.2.2 h
            rw [HTS.out, ht, HTC.out, HTD.out, if_pos HOKT.out]
            exact ⟨v2, by rw [v1, ← List.append_assoc]; exact p1, p2⟩
          have S1 : Hid (∀ W, Below wr.heap.size wr W → W.cell? ⟨po, 0, none⟩ = some (.func (.func 94) #[] #[.pointer (some ⟨pn, 0, none⟩), .pointer (some ⟨pv, 0, none⟩), .pointer (some ⟨pb, 0, none⟩), .pointer (some ⟨po, 0, none⟩)])) := fun W h => (h.cell (lt_of_cell cpo)).trans cpo
          have hen := enter94
          generalize C1 &&& N = V1 at *
          generalize C2 &&& N2 = V2 at *
          generalize C1 ||| N = V3 at *
          generalize C2 ||| N2 = V4 at *
          have hm6 : m ≤ 1000000 := by omega
          have hcm : (m : Int) ≤ (c : Int) := by omega
          have S3 : Hid (∀ W, Kept Own w W → W.cell? ⟨po, 0, none⟩ = some (.func (.func 94) #[] #[.pointer (some ⟨pn, 0, none⟩), .pointer (some ⟨pv, 0, none⟩), .pointer (some ⟨pb, 0, none⟩), .pointer (some ⟨po, 0, none⟩)])) := fun W h => (HC.out.kept h HO.out).2.2.2.1.1
          cases hhit : hit stop (trF b n k (l ++ [x]))
          · skip
            rw [hhit] at R3 HGO HEND
            clear t1 t2 HNX hst hhit
            go_wp2_with fail
            refine wp_region_held_drew (S := fun W => W.cell? ⟨po, 0, none⟩ = some (.func (.func 94) #[] #[.pointer (some ⟨pn, 0, none⟩), .pointer (some ⟨pv, 0, none⟩), .pointer (some ⟨pb, 0, none⟩), .pointer (some ⟨po, 0, none⟩)])) (by kernel_rfl) (cpo) (fun hS => ?_)
            refine wpAnyH_take (i := 0) (oi := { dst := some 31, op := Op.move (Operand.tmp 1), type := 3, pos := "mate.go:18", after := #[], guard := none }) (v := .int .i64 (C1 : Int)) rfl (by kernel_rfl) (by kernel_rfl) (by kernel_rfl) (fun _ _ _ h => h) (Or.inl ⟨by kernel_rfl, fun W hSW => by kernel_rfl⟩) hS ?_
            try simp only [Act.put, List.setIfInBounds_toArray, List.set_cons_zero, List.set_cons_succ]
            refine wpAnyH_take (i := 1) (oi := { dst := some 32, op := Op.move (Operand.tmp 11), type := 3, pos := "mate.go:18", after := #[], guard := none }) (v := .int .i64 (x : Int)) rfl (by kernel_rfl) (by kernel_rfl) (by kernel_rfl) (fun _ _ _ h => h) (Or.inl ⟨by kernel_rfl, fun W hSW => by kernel_rfl⟩) hS ?_
            try simp only [Act.put, List.setIfInBounds_toArray, List.set_cons_zero, List.set_cons_succ]
            refine wpAnyH_take (i := 2) (oi := { dst := some 33, op := Op.binOp BinOp.shl 3 (Operand.const (Value.int IntKind.i64 1)) (Operand.tmp 32) 3, type := 3, pos := "mate.go:18", after := #[{ on := 1, ground := Ground.data }], guard := none }) (v := .int .i64 (N : Int)) rfl (by kernel_rfl) (by kernel_rfl) (by kernel_rfl) (fun _ _ _ h => h) (Or.inl ⟨by kernel_rfl, fun W hSW => by go_simp⟩) hS ?_
            try simp only [Act.put, List.setIfInBounds_toArray, List.set_cons_zero, List.set_cons_succ]
            refine wpAnyH_take (i := 3) (oi := { dst := some 34, op := Op.binOp BinOp.and 3 (Operand.tmp 31) (Operand.tmp 33) 3, type := 3, pos := "mate.go:18", after := #[{ on := 0, ground := Ground.data }, { on := 2, ground := Ground.data }], guard := none }) (v := .int .i64 (V1 : Int)) rfl (by kernel_rfl) (by kernel_rfl) (by kernel_rfl) (fun _ _ _ h => h) (Or.inl ⟨by kernel_rfl, fun W hSW => by go_simp⟩) hS ?_
            try simp only [Act.put, List.setIfInBounds_toArray, List.set_cons_zero, List.set_cons_succ]
            refine wpAnyH_take (i := 4) (oi := { dst := some 35, op := Op.binOp BinOp.eql 3 (Operand.tmp 34) (Operand.const (Value.int IntKind.i64 0)) 3, type := 4, pos := "mate.go:18", after := #[{ on := 3, ground := Ground.data }], guard := none }) (v := .bool true) rfl (by kernel_rfl) (by kernel_rfl) (by kernel_rfl) (fun _ _ _ h => h) (Or.inl ⟨by kernel_rfl, fun W hSW => by go_simp⟩) hS ?_
            try simp only [Act.put, List.setIfInBounds_toArray, List.set_cons_zero, List.set_cons_succ]
            refine wpAnyH_take (i := 5) (oi := { dst := some 36, op := Op.move (Operand.tmp 35), type := 4, pos := "mate.go:18", after := #[{ on := 4, ground := Ground.data }], guard := none }) (v := .bool true) rfl (by kernel_rfl) (by kernel_rfl) (by kernel_rfl) (fun _ _ _ h => h) (Or.inl ⟨by kernel_rfl, fun W hSW => by kernel_rfl⟩) hS ?_
            try simp only [Act.put, List.setIfInBounds_toArray, List.set_cons_zero, List.set_cons_succ]
            refine wpAnyH_take (i := 6) (oi := { dst := some 37, op := Op.move (Operand.tmp 2), type := 3, pos := "mate.go:18", after := #[{ on := 5, ground := Ground.guard }], guard := some (5, true) }) (v := .int .i64 (C2 : Int)) rfl (by kernel_rfl) (by kernel_rfl) (by kernel_rfl) (fun _ _ _ h => h) (Or.inl ⟨by kernel_rfl, fun W hSW => by kernel_rfl⟩) hS ?_
            try simp only [Act.put, List.setIfInBounds_toArray, List.set_cons_zero, List.set_cons_succ]
            refine wpAnyH_take (i := 7) (oi := { dst := some 38, op := Op.move (Operand.tmp 12), type := 3, pos := "mate.go:18", after := #[{ on := 5, ground := Ground.guard }], guard := some (5, true) }) (v := .int .i64 (y : Int)) rfl (by kernel_rfl) (by kernel_rfl) (by kernel_rfl) (fun _ _ _ h => h) (Or.inl ⟨by kernel_rfl, fun W hSW => by kernel_rfl⟩) hS ?_
            try simp only [Act.put, List.setIfInBounds_toArray, List.set_cons_zero, List.set_cons_succ]
            refine wpAnyH_take (i := 8) (oi := { dst := some 39, op := Op.binOp BinOp.shl 3 (Operand.const (Value.int IntKind.i64 1)) (Operand.tmp 38) 3, type := 3, pos := "mate.go:18", after := #[{ on := 7, ground := Ground.data }, { on := 5, ground := Ground.guard }], guard := some (5, true) }) (v := .int .i64 (N2 : Int)) rfl (by kernel_rfl) (by kernel_rfl) (by kernel_rfl) (fun _ _ _ h => h) (Or.inl ⟨by kernel_rfl, fun W hSW => by go_simp⟩) hS ?_
            try simp only [Act.put, List.setIfInBounds_toArray, List.set_cons_zero, List.set_cons_succ]
            refine wpAnyH_take (i := 9) (oi := { dst := some 40, op := Op.binOp BinOp.and 3 (Operand.tmp 37) (Operand.tmp 39) 3, type := 3, pos := "mate.go:18", after := #[{ on := 6, ground := Ground.data }, { on := 8, ground := Ground.data }, { on := 5, ground := Ground.guard }], guard := some (5, true) }) (v := .int .i64 (V2 : Int)) rfl (by kernel_rfl) (by kernel_rfl) (by kernel_rfl) (fun _ _ _ h => h) (Or.inl ⟨by kernel_rfl, fun W hSW => by go_simp⟩) hS ?_
            try simp only [Act.put, List.setIfInBounds_toArray, List.set_cons_zero, List.set_cons_succ]
            refine wpAnyH_take (i := 10) (oi := { dst := some 41, op := Op.binOp BinOp.eql 3 (Operand.tmp 40) (Operand.const (Value.int IntKind.i64 0)) 3, type := 4, pos := "mate.go:18", after := #[{ on := 9, ground := Ground.data }, { on := 5, ground := Ground.guard }], guard := some (5, true) }) (v := .bool true) rfl (by kernel_rfl) (by kernel_rfl) (by kernel_rfl) (fun _ _ _ h => h) (Or.inl ⟨by kernel_rfl, fun W hSW => by go_simp⟩) hS ?_
            try simp only [Act.put, List.setIfInBounds_toArray, List.set_cons_zero, List.set_cons_succ]
            refine wpAnyH_take (i := 11) (oi := { dst := some 42, op := Op.pick (Operand.tmp 36) (Operand.tmp 41) (Operand.const (Value.bool false)), type := 4, pos := "mate.go:18", after := #[{ on := 5, ground := Ground.data }, { on := 10, ground := Ground.data }], guard := none }) (v := .bool true) rfl (by kernel_rfl) (by kernel_rfl) (by kernel_rfl) (fun _ _ _ h => h) (Or.inl ⟨by kernel_rfl, fun W hSW => by go_simp⟩) hS ?_
            try simp only [Act.put, List.setIfInBounds_toArray, List.set_cons_zero, List.set_cons_succ]
            refine wpAnyH_take (i := 12) (oi := { dst := some 43, op := Op.move (Operand.tmp 42), type := 4, pos := "mate.go:18", after := #[{ on := 11, ground := Ground.data }, { on := 5, ground := Ground.chain }], guard := none }) (v := .bool true) rfl (by kernel_rfl) (by kernel_rfl) (by kernel_rfl) (fun _ _ _ h => h) (Or.inl ⟨by kernel_rfl, fun W hSW => by kernel_rfl⟩) hS ?_
            try simp only [Act.put, List.setIfInBounds_toArray, List.set_cons_zero, List.set_cons_succ]
            refine wpAnyH_take (i := 13) (oi := { dst := some 44, op := Op.load 91 (Operand.tmp 6), type := 91, pos := "mate.go:18", after := #[{ on := 12, ground := Ground.guard }], guard := some (12, true) }) (v := .func (.func 94) #[] #[.pointer (some ⟨pn, 0, none⟩), .pointer (some ⟨pv, 0, none⟩), .pointer (some ⟨pb, 0, none⟩), .pointer (some ⟨po, 0, none⟩)]) rfl (by kernel_rfl) (by kernel_rfl) (by kernel_rfl) (fun _ _ _ h => h) (Or.inl ⟨by kernel_rfl, fun W hSW => by go_simp⟩) hS ?_
            try simp only [Act.put, List.setIfInBounds_toArray, List.set_cons_zero, List.set_cons_succ]
            refine wpAnyH_take (i := 14) (oi := { dst := some 45, op := Op.move (Operand.tmp 0), type := 29, pos := "mate.go:18", after := #[{ on := 12, ground := Ground.guard }], guard := some (12, true) }) (v := .slice A m c) rfl (by kernel_rfl) (by kernel_rfl) (by kernel_rfl) (fun _ _ _ h => h) (Or.inl ⟨by kernel_rfl, fun W hSW => by kernel_rfl⟩) hS ?_
            try simp only [Act.put, List.setIfInBounds_toArray, List.set_cons_zero, List.set_cons_succ]
            refine wpAnyH_take (i := 15) (oi := { dst := some 46, op := Op.move (Operand.tmp 0), type := 29, pos := "mate.go:18", after := #[{ on := 12, ground := Ground.guard }], guard := some (12, true) }) (v := .slice A m c) rfl (by kernel_rfl) (by kernel_rfl) (by kernel_rfl) (fun _ _ _ h => h) (Or.inl ⟨by kernel_rfl, fun W hSW => by kernel_rfl⟩) hS ?_
            try simp only [Act.put, List.setIfInBounds_toArray, List.set_cons_zero, List.set_cons_succ]
            refine wpAnyH_take (i := 16) (oi := { dst := some 47, op := Op.call { callee := Callee.builtin Builtin.len, args := #[Operand.tmp 46], argTypes := #[29] }, type := 3, pos := "mate.go:18", after := #[{ on := 15, ground := Ground.data }, { on := 12, ground := Ground.guard }], guard := some (12, true) }) (v := .int .i64 (m : Int)) rfl (by kernel_rfl) (by kernel_rfl) (by kernel_rfl) (fun _ _ _ h => h) (Or.inl ⟨by kernel_rfl, fun W hSW => by go_simp⟩) hS ?_
            try simp only [Act.put, List.setIfInBounds_toArray, List.set_cons_zero, List.set_cons_succ]
            refine wpAnyH_take (i := 17) (oi := { dst := some 48, op := Op.move (Operand.tmp 0), type := 29, pos := "mate.go:18", after := #[{ on := 12, ground := Ground.guard }], guard := some (12, true) }) (v := .slice A m c) rfl (by kernel_rfl) (by kernel_rfl) (by kernel_rfl) (fun _ _ _ h => h) (Or.inl ⟨by kernel_rfl, fun W hSW => by kernel_rfl⟩) hS ?_
            try simp only [Act.put, List.setIfInBounds_toArray, List.set_cons_zero, List.set_cons_succ]
            refine wpAnyH_take (i := 18) (oi := { dst := some 49, op := Op.call { callee := Callee.builtin Builtin.len, args := #[Operand.tmp 48], argTypes := #[29] }, type := 3, pos := "mate.go:18", after := #[{ on := 17, ground := Ground.data }, { on := 12, ground := Ground.guard }], guard := some (12, true) }) (v := .int .i64 (m : Int)) rfl (by kernel_rfl) (by kernel_rfl) (by kernel_rfl) (fun _ _ _ h => h) (Or.inl ⟨by kernel_rfl, fun W hSW => by go_simp⟩) hS ?_
            try simp only [Act.put, List.setIfInBounds_toArray, List.set_cons_zero, List.set_cons_succ]
            refine wpAnyH_take (i := 19) (oi := { dst := some 50, op := Op.slice 29 (Operand.tmp 45) none (some (Operand.tmp 47)) (some (Operand.tmp 49)), type := 29, pos := "mate.go:18", after := #[{ on := 14, ground := Ground.data }, { on := 16, ground := Ground.data }, { on := 18, ground := Ground.data }, { on := 12, ground := Ground.guard }], guard := some (12, true) }) (v := .slice A m m) rfl (by kernel_rfl) (by kernel_rfl) (by kernel_rfl) (fun _ _ _ h => h) (Or.inl ⟨by kernel_rfl, fun W hSW => by go_simp⟩) hS ?_
            try simp only [Act.put, List.setIfInBounds_toArray, List.set_cons_zero, List.set_cons_succ]
            refine wpAnyH_take (i := 20) (oi := { dst := some 51, op := Op.move (Operand.tmp 11), type := 3, pos := "mate.go:18", after := #[{ on := 12, ground := Ground.guard }], guard := some (12, true) }) (v := .int .i64 (x : Int)) rfl (by kernel_rfl) (by kernel_rfl) (by kernel_rfl) (fun _ _ _ h => h) (Or.inl ⟨by kernel_rfl, fun W hSW => by kernel_rfl⟩) hS ?_
            try simp only [Act.put, List.setIfInBounds_toArray, List.set_cons_zero, List.set_cons_succ]
            refine wpAnyH_take (i := 23) (oi := { dst := some 54, op := Op.move (Operand.tmp 1), type := 3, pos := "mate.go:18", after := #[{ on := 12, ground := Ground.guard }], guard := some (12, true) }) (v := .int .i64 (C1 : Int)) rfl (by kernel_rfl) (by kernel_rfl) (by kernel_rfl) (fun _ _ _ h => h) (Or.inl ⟨by kernel_rfl, fun W hSW => by kernel_rfl⟩) hS ?_
            try simp only [Act.put, List.setIfInBounds_toArray, List.set_cons_zero, List.set_cons_succ]
            refine wpAnyH_take (i := 24) (oi := { dst := some 55, op := Op.move (Operand.tmp 11), type := 3, pos := "mate.go:18", after := #[{ on := 12, ground := Ground.guard }], guard := some (12, true) }) (v := .int .i64 (x : Int)) rfl (by kernel_rfl) (by kernel_rfl) (by kernel_rfl) (fun _ _ _ h => h) (Or.inl ⟨by kernel_rfl, fun W hSW => by kernel_rfl⟩) hS ?_
            try simp only [Act.put, List.setIfInBounds_toArray, List.set_cons_zero, List.set_cons_succ]
            refine wpAnyH_take (i := 25) (oi := { dst := some 56, op := Op.binOp BinOp.shl 3 (Operand.const (Value.int IntKind.i64 1)) (Operand.tmp 55) 3, type := 3, pos := "mate.go:18", after := #[{ on := 24, ground := Ground.data }, { on := 12, ground := Ground.guard }], guard := some (12, true) }) (v := .int .i64 (N : Int)) rfl (by kernel_rfl) (by kernel_rfl) (by kernel_rfl) (fun _ _ _ h => h) (Or.inl ⟨by kernel_rfl, fun W hSW => by go_simp⟩) hS ?_
            try simp only [Act.put, List.setIfInBounds_toArray, List.set_cons_zero, List.set_cons_succ]
            refine wpAnyH_take (i := 26) (oi := { dst := some 57, op := Op.binOp BinOp.or 3 (Operand.tmp 54) (Operand.tmp 56) 3, type := 3, pos := "mate.go:18", after := #[{ on := 23, ground := Ground.data }, { on := 25, ground := Ground.data }, { on := 12, ground := Ground.guard }], guard := some (12, true) }) (v := .int .i64 (V3 : Int)) rfl (by kernel_rfl) (by kernel_rfl) (by kernel_rfl) (fun _ _ _ h => h) (Or.inl ⟨by kernel_rfl, fun W hSW => by go_simp⟩) hS ?_
            try simp only [Act.put, List.setIfInBounds_toArray, List.set_cons_zero, List.set_cons_succ]
            refine wpAnyH_take (i := 27) (oi := { dst := some 58, op := Op.move (Operand.tmp 2), type := 3, pos := "mate.go:18", after := #[{ on := 12, ground := Ground.guard }], guard := some (12, true) }) (v := .int .i64 (C2 : Int)) rfl (by kernel_rfl) (by kernel_rfl) (by kernel_rfl) (fun _ _ _ h => h) (Or.inl ⟨by kernel_rfl, fun W hSW => by kernel_rfl⟩) hS ?_
            try simp only [Act.put, List.setIfInBounds_toArray, List.set_cons_zero, List.set_cons_succ]
            refine wpAnyH_take (i := 28) (oi := { dst := some 59, op := Op.move (Operand.tmp 12), type := 3, pos := "mate.go:18", after := #[{ on := 12, ground := Ground.guard }], guard := some (12, true) }) (v := .int .i64 (y : Int)) rfl (by kernel_rfl) (by kernel_rfl) (by kernel_rfl) (fun _ _ _ h => h) (Or.inl ⟨by kernel_rfl, fun W hSW => by kernel_rfl⟩) hS ?_
            try simp only [Act.put, List.setIfInBounds_toArray, List.set_cons_zero, List.set_cons_succ]
            refine wpAnyH_take (i := 29) (oi := { dst := some 60, op := Op.binOp BinOp.shl 3 (Operand.const (Value.int IntKind.i64 1)) (Operand.tmp 59) 3, type := 3, pos := "mate.go:18", after := #[{ on := 28, ground := Ground.data }, { on := 12, ground := Ground.guard }], guard := some (12, true) }) (v := .int .i64 (N2 : Int)) rfl (by kernel_rfl) (by kernel_rfl) (by kernel_rfl) (fun _ _ _ h => h) (Or.inl ⟨by kernel_rfl, fun W hSW => by go_simp⟩) hS ?_
            try simp only [Act.put, List.setIfInBounds_toArray, List.set_cons_zero, List.set_cons_succ]
            refine wpAnyH_take (i := 30) (oi := { dst := some 61, op := Op.binOp BinOp.or 3 (Operand.tmp 58) (Operand.tmp 60) 3, type := 3, pos := "mate.go:18", after := #[{ on := 27, ground := Ground.data }, { on := 29, ground := Ground.data }, { on := 12, ground := Ground.guard }], guard := some (12, true) }) (v := .int .i64 (V4 : Int)) rfl (by kernel_rfl) (by kernel_rfl) (by kernel_rfl) (fun _ _ _ h => h) (Or.inl ⟨by kernel_rfl, fun W hSW => by go_simp⟩) hS ?_
            try simp only [Act.put, List.setIfInBounds_toArray, List.set_cons_zero, List.set_cons_succ]
            refine wpAnyH_ready (rs := [21]) (by kernel_rfl) (by simp) ?_
            refine AllReadyH.cons (o := { dst := some 52, op := Op.buildSlice 29 1 #[(0, Operand.tmp 51)], type := 29, pos := "mate.go:18", after := #[{ on := 20, ground := Ground.data }, { on := 12, ground := Ground.guard }], guard := some (12, true) }) rfl (fun K hK => ?_) AllReadyH.nil
            go_simp
            refine hK.out _ _ (S1.out _ (by first | exact (below_alloc wr _).drew | exact below_alloc wr _)) (fun hS => ?_)
            clear hK K
            try simp only [Act.put, List.setIfInBounds_toArray, List.set_cons_zero, List.set_cons_succ]
            refine wpAnyH_ready (rs := [22]) (by kernel_rfl) (by simp) ?_
            refine AllReadyH.cons (o := { dst := some 53, op := Op.call { callee := Callee.builtin Builtin.append, args := #[Operand.tmp 50, Operand.tmp 52], argTypes := #[29, 29] }, type := 29, pos := "mate.go:18", after := #[{ on := 19, ground := Ground.data }, { on := 21, ground := Ground.data }, { on := 12, ground := Ground.chain }, { on := 12, ground := Ground.guard }], guard := some (12, true) }) rfl (fun K hK => ?_) AllReadyH.nil
            refine step_growI (by kernel_rfl) _ _ (by rfl) A m l (by rfl) HM.out.symm RN.out (R1.out _ (by rfl)) wr.heap.size 1 x (by rfl) (R2.out _ (by rfl)) hm6 ?_
            intro A2 c2 w2 hin2 hne2 hc2 hb2
            have hbA : Below wr.heap.size wr (wr.alloc (.cells #[.int .i64 (x : Int)] 3)).drew := (below_alloc wr _).drew
            have hq1 : Below wr.heap.size wr w2 := below_step hbA hb2
            refine hK.out _ _ (S1.out _ hq1) (fun hS => ?_)
            clear hK K
            try simp only [Act.put, List.setIfInBounds_toArray, List.set_cons_zero, List.set_cons_succ]
            refine wpAnyH_ready (rs := [31]) (by kernel_rfl) (by simp) ?_
            refine AllReadyH.cons (o := { dst := some 62, op := Op.call { callee := Callee.value (Operand.tmp 44), args := #[Operand.tmp 53, Operand.tmp 57, Operand.tmp 61], argTypes := #[29, 3, 3] }, type := 4, pos := "mate.go:18", after := #[{ on := 13, ground := Ground.data }, { on := 22, ground := Ground.data }, { on := 26, ground := Ground.data }, { on := 30, ground := Ground.data }, { on := 22, ground := Ground.chain }, { on := 12, ground := Ground.guard }], guard := some (12, true) }) rfl (fun K hK => ?_) AllReadyH.nil
            go_simp
            refine (R3.out _ w2 A2 c2 hbA hin2 hne2 hc2 hb2).mono ?_
            rintro e w3 ⟨rfl, p1, p2⟩
            have P1 := Lib.hid p1
            have P2 := Lib.hid p2
            have hS3 := S3.out _ p2
            clear p1 p2 hin2 hne2 hc2 hb2 hbA
            refine hK.out _ _ (hS3) (fun hS => ?_)
            clear hK K
            try simp only [Act.put, List.setIfInBounds_toArray, List.set_cons_zero, List.set_cons_succ]
            refine wpAnyH_take (i := 32) (oi := { dst := some 63, op := Op.pick (Operand.tmp 43) (Operand.tmp 62) (Operand.const (Value.bool false)), type := 4, pos := "mate.go:18", after := #[{ on := 12, ground := Ground.data }, { on := 31, ground := Ground.data }], guard := none }) (v := .bool false) rfl (by kernel_rfl) (by kernel_rfl) (by kernel_rfl) (fun _ _ _ h => h) (Or.inl ⟨by kernel_rfl, fun W hSW => by go_simp⟩) hS ?_
            try simp only [Act.put, List.setIfInBounds_toArray, List.set_cons_zero, List.set_cons_succ]
            refine wpAnyH_done (by kernel_rfl) ?_ _
            go_wp2
            go_roundw
            case rel => exact ⟨x + 1, by omega, by go_num, HGO.out _ (by trivial) P1.out P2.out⟩
            case measure => simp [intOf]; omega
          · skip
            rw [hhit] at R3 HGO HEND
            clear t1 t2 HNX hst hhit
            go_wp2_with fail
            refine wp_region_held_drew (S := fun W => W.cell? ⟨po, 0, none⟩ = some (.func (.func 94) #[] #[.pointer (some ⟨pn, 0, none⟩), .pointer (some ⟨pv, 0, none⟩), .pointer (some ⟨pb, 0, none⟩), .pointer (some ⟨po, 0, none⟩)])) (by kernel_rfl) (cpo) (fun hS => ?_)
            refine wpAnyH_take (i := 0) (oi := { dst := some 31, op := Op.move (Operand.tmp 1), type := 3, pos := "mate.go:18", after := #[], guard := none }) (v := .int .i64 (C1 : Int)) rfl (by kernel_rfl) (by kernel_rfl) (by kernel_rfl) (fun _ _ _ h => h) (Or.inl ⟨by kernel_rfl, fun W hSW => by kernel_rfl⟩) hS ?_
            try simp only [Act.put, List.setIfInBounds_toArray, List.set_cons_zero, List.set_cons_succ]
            refine wpAnyH_take (i := 1) (oi := { dst := some 32, op := Op.move (Operand.tmp 11), type := 3, pos := "mate.go:18", after := #[], guard := none }) (v := .int .i64 (x : Int)) rfl (by kernel_rfl) (by kernel_rfl) (by kernel_rfl) (fun _ _ _ h => h) (Or.inl ⟨by kernel_rfl, fun W hSW => by kernel_rfl⟩) hS ?_
            try simp only [Act.put, List.setIfInBounds_toArray, List.set_cons_zero, List.set_cons_succ]
            refine wpAnyH_take (i := 2) (oi := { dst := some 33, op := Op.binOp BinOp.shl 3 (Operand.const (Value.int IntKind.i64 1)) (Operand.tmp 32) 3, type := 3, pos := "mate.go:18", after := #[{ on := 1, ground := Ground.data }], guard := none }) (v := .int .i64 (N : Int)) rfl (by kernel_rfl) (by kernel_rfl) (by kernel_rfl) (fun _ _ _ h => h) (Or.inl ⟨by kernel_rfl, fun W hSW => by go_simp⟩) hS ?_
            try simp only [Act.put, List.setIfInBounds_toArray, List.set_cons_zero, List.set_cons_succ]
            refine wpAnyH_take (i := 3) (oi := { dst := some 34, op := Op.binOp BinOp.and 3 (Operand.tmp 31) (Operand.tmp 33) 3, type := 3, pos := "mate.go:18", after := #[{ on := 0, ground := Ground.data }, { on := 2, ground := Ground.data }], guard := none }) (v := .int .i64 (V1 : Int)) rfl (by kernel_rfl) (by kernel_rfl) (by kernel_rfl) (fun _ _ _ h => h) (Or.inl ⟨by kernel_rfl, fun W hSW => by go_simp⟩) hS ?_
            try simp only [Act.put, List.setIfInBounds_toArray, List.set_cons_zero, List.set_cons_succ]
            refine wpAnyH_take (i := 4) (oi := { dst := some 35, op := Op.binOp BinOp.eql 3 (Operand.tmp 34) (Operand.const (Value.int IntKind.i64 0)) 3, type := 4, pos := "mate.go:18", after := #[{ on := 3, ground := Ground.data }], guard := none }) (v := .bool true) rfl (by kernel_rfl) (by kernel_rfl) (by kernel_rfl) (fun _ _ _ h => h) (Or.inl ⟨by kernel_rfl, fun W hSW => by go_simp⟩) hS ?_
            try simp only [Act.put, List.setIfInBounds_toArray, List.set_cons_zero, List.set_cons_succ]
            refine wpAnyH_take (i := 5) (oi := { dst := some 36, op := Op.move (Operand.tmp 35), type := 4, pos := "mate.go:18", after := #[{ on := 4, ground := Ground.data }], guard := none }) (v := .bool true) rfl (by kernel_rfl) (by kernel_rfl) (by kernel_rfl) (fun _ _ _ h => h) (Or.inl ⟨by kernel_rfl, fun W hSW => by kernel_rfl⟩) hS ?_
            try simp only [Act.put, List.setIfInBounds_toArray, List.set_cons_zero, List.set_cons_succ]
            refine wpAnyH_take (i := 6) (oi := { dst := some 37, op := Op.move (Operand.tmp 2), type := 3, pos := "mate.go:18", after := #[{ on := 5, ground := Ground.guard }], guard := some (5, true) }) (v := .int .i64 (C2 : Int)) rfl (by kernel_rfl) (by kernel_rfl) (by kernel_rfl) (fun _ _ _ h => h) (Or.inl ⟨by kernel_rfl, fun W hSW => by kernel_rfl⟩) hS ?_
            try simp only [Act.put, List.setIfInBounds_toArray, List.set_cons_zero, List.set_cons_succ]
            refine wpAnyH_take (i := 7) (oi := { dst := some 38, op := Op.move (Operand.tmp 12), type := 3, pos := "mate.go:18", after := #[{ on := 5, ground := Ground.guard }], guard := some (5, true) }) (v := .int .i64 (y : Int)) rfl (by kernel_rfl) (by kernel_rfl) (by kernel_rfl) (fun _ _ _ h => h) (Or.inl ⟨by kernel_rfl, fun W hSW => by kernel_rfl⟩) hS ?_
            try simp only [Act.put, List.setIfInBounds_toArray, List.set_cons_zero, List.set_cons_succ]
            refine wpAnyH_take (i := 8) (oi := { dst := some 39, op := Op.binOp BinOp.shl 3 (Operand.const (Value.int IntKind.i64 1)) (Operand.tmp 38) 3, type := 3, pos := "mate.go:18", after := #[{ on := 7, ground := Ground.data }, { on := 5, ground := Ground.guard }], guard := some (5, true) }) (v := .int .i64 (N2 : Int)) rfl (by kernel_rfl) (by kernel_rfl) (by kernel_rfl) (fun _ _ _ h => h) (Or.inl ⟨by kernel_rfl, fun W hSW => by go_simp⟩) hS ?_
            try simp only [Act.put, List.setIfInBounds_toArray, List.set_cons_zero, List.set_cons_succ]
            refine wpAnyH_take (i := 9) (oi := { dst := some 40, op := Op.binOp BinOp.and 3 (Operand.tmp 37) (Operand.tmp 39) 3, type := 3, pos := "mate.go:18", after := #[{ on := 6, ground := Ground.data }, { on := 8, ground := Ground.data }, { on := 5, ground := Ground.guard }], guard := some (5, true) }) (v := .int .i64 (V2 : Int)) rfl (by kernel_rfl) (by kernel_rfl) (by kernel_rfl) (fun _ _ _ h => h) (Or.inl ⟨by kernel_rfl, fun W hSW => by go_simp⟩) hS ?_
            try simp only [Act.put, List.setIfInBounds_toArray, List.set_cons_zero, List.set_cons_succ]
            refine wpAnyH_take (i := 10) (oi := { dst := some 41, op := Op.binOp BinOp.eql 3 (Operand.tmp 40) (Operand.const (Value.int IntKind.i64 0)) 3, type := 4, pos := "mate.go:18", after := #[{ on := 9, ground := Ground.data }, { on := 5, ground := Ground.guard }], guard := some (5, true) }) (v := .bool true) rfl (by kernel_rfl) (by kernel_rfl) (by kernel_rfl) (fun _ _ _ h => h) (Or.inl ⟨by kernel_rfl, fun W hSW => by go_simp⟩) hS ?_
            try simp only [Act.put, List.setIfInBounds_toArray, List.set_cons_zero, List.set_cons_succ]
            refine wpAnyH_take (i := 11) (oi := { dst := some 42, op := Op.pick (Operand.tmp 36) (Operand.tmp 41) (Operand.const (Value.bool false)), type := 4, pos := "mate.go:18", after := #[{ on := 5, ground := Ground.data }, { on := 10, ground := Ground.data }], guard := none }) (v := .bool true) rfl (by kernel_rfl) (by kernel_rfl) (by kernel_rfl) (fun _ _ _ h => h) (Or.inl ⟨by kernel_rfl, fun W hSW => by go_simp⟩) hS ?_
            try simp only [Act.put, List.setIfInBounds_toArray, List.set_cons_zero, List.set_cons_succ]
            refine wpAnyH_take (i := 12) (oi := { dst := some 43, op := Op.move (Operand.tmp 42), type := 4, pos := "mate.go:18", after := #[{ on := 11, ground := Ground.data }, { on := 5, ground := Ground.chain }], guard := none }) (v := .bool true) rfl (by kernel_rfl) (by kernel_rfl) (by kernel_rfl) (fun _ _ _ h => h) (Or.inl ⟨by kernel_rfl, fun W hSW => by kernel_rfl⟩) hS ?_
            try simp only [Act.put, List.setIfInBounds_toArray, List.set_cons_zero, List.set_cons_succ]
            refine wpAnyH_take (i := 13) (oi := { dst := some 44, op := Op.load 91 (Operand.tmp 6), type := 91, pos := "mate.go:18", after := #[{ on := 12, ground := Ground.guard }], guard := some (12, true) }) (v := .func (.func 94) #[] #[.pointer (some ⟨pn, 0, none⟩), .pointer (some ⟨pv, 0, none⟩), .pointer (some ⟨pb, 0, none⟩), .pointer (some ⟨po, 0, none⟩)]) rfl (by kernel_rfl) (by kernel_rfl) (by kernel_rfl) (fun _ _ _ h => h) (Or.inl ⟨by kernel_rfl, fun W hSW => by go_simp⟩) hS ?_
            try simp only [Act.put, List.setIfInBounds_toArray, List.set_cons_zero, List.set_cons_succ]
            refine wpAnyH_take (i := 14) (oi := { dst := some 45, op := Op.move (Operand.tmp 0), type := 29, pos := "mate.go:18", after := #[{ on := 12, ground := Ground.guard }], guard := some (12, true) }) (v := .slice A m c) rfl (by kernel_rfl) (by kernel_rfl) (by kernel_rfl) (fun _ _ _ h => h) (Or.inl ⟨by kernel_rfl, fun W hSW => by kernel_rfl⟩) hS ?_
            try simp only [Act.put, List.setIfInBounds_toArray, List.set_cons_zero, List.set_cons_succ]
            refine wpAnyH_take (i := 15) (oi := { dst := some 46, op := Op.move (Operand.tmp 0), type := 29, pos := "mate.go:18", after := #[{ on := 12, ground := Ground.guard }], guard := some (12, true) }) (v := .slice A m c) rfl (by kernel_rfl) (by kernel_rfl) (by kernel_rfl) (fun _ _ _ h => h) (Or.inl ⟨by kernel_rfl, fun W hSW => by kernel_rfl⟩) hS ?_
            try simp only [Act.put, List.setIfInBounds_toArray, List.set_cons_zero, List.set_cons_succ]
            refine wpAnyH_take (i := 16) (oi := { dst := some 47, op := Op.call { callee := Callee.builtin Builtin.len, args := #[Operand.tmp 46], argTypes := #[29] }, type := 3, pos := "mate.go:18", after := #[{ on := 15, ground := Ground.data }, { on := 12, ground := Ground.guard }], guard := some (12, true) }) (v := .int .i64 (m : Int)) rfl (by kernel_rfl) (by kernel_rfl) (by kernel_rfl) (fun _ _ _ h => h) (Or.inl ⟨by kernel_rfl, fun W hSW => by go_simp⟩) hS ?_
            try simp only [Act.put, List.setIfInBounds_toArray, List.set_cons_zero, List.set_cons_succ]
            refine wpAnyH_take (i := 17) (oi := { dst := some 48, op := Op.move (Operand.tmp 0), type := 29, pos := "mate.go:18", after := #[{ on := 12, ground := Ground.guard }], guard := some (12, true) }) (v := .slice A m c) rfl (by kernel_rfl) (by kernel_rfl) (by kernel_rfl) (fun _ _ _ h => h) (Or.inl ⟨by kernel_rfl, fun W hSW => by kernel_rfl⟩) hS ?_
            try simp only [Act.put, List.setIfInBounds_toArray, List.set_cons_zero, List.set_cons_succ]
            refine wpAnyH_take (i := 18) (oi := { dst := some 49, op := Op.call { callee := Callee.builtin Builtin.len, args := #[Operand.tmp 48], argTypes := #[29] }, type := 3, pos := "mate.go:18", after := #[{ on := 17, ground := Ground.data }, { on := 12, ground := Ground.guard }], guard := some (12, true) }) (v := .int .i64 (m : Int)) rfl (by kernel_rfl) (by kernel_rfl) (by kernel_rfl) (fun _ _ _ h => h) (Or.inl ⟨by kernel_rfl, fun W hSW => by go_simp⟩) hS ?_
            try simp only [Act.put, List.setIfInBounds_toArray, List.set_cons_zero, List.set_cons_succ]
            refine wpAnyH_take (i := 19) (oi := { dst := some 50, op := Op.slice 29 (Operand.tmp 45) none (some (Operand.tmp 47)) (some (Operand.tmp 49)), type := 29, pos := "mate.go:18", after := #[{ on := 14, ground := Ground.data }, { on := 16, ground := Ground.data }, { on := 18, ground := Ground.data }, { on := 12, ground := Ground.guard }], guard := some (12, true) }) (v := .slice A m m) rfl (by kernel_rfl) (by kernel_rfl) (by kernel_rfl) (fun _ _ _ h => h) (Or.inl ⟨by kernel_rfl, fun W hSW => by go_simp⟩) hS ?_
            try simp only [Act.put, List.setIfInBounds_toArray, List.set_cons_zero, List.set_cons_succ]
            refine wpAnyH_take (i := 20) (oi := { dst := some 51, op := Op.move (Operand.tmp 11), type := 3, pos := "mate.go:18", after := #[{ on := 12, ground := Ground.guard }], guard := some (12, true) }) (v := .int .i64 (x : Int)) rfl (by kernel_rfl) (by kernel_rfl) (by kernel_rfl) (fun _ _ _ h => h) (Or.inl ⟨by kernel_rfl, fun W hSW => by kernel_rfl⟩) hS ?_
            try simp only [Act.put, List.setIfInBounds_toArray, List.set_cons_zero, List.set_cons_succ]
            refine wpAnyH_take (i := 23) (oi := { dst := some 54, op := Op.move (Operand.tmp 1), type := 3, pos := "mate.go:18", after := #[{ on := 12, ground := Ground.guard }], guard := some (12, true) }) (v := .int .i64 (C1 : Int)) rfl (by kernel_rfl) (by kernel_rfl) (by kernel_rfl) (fun _ _ _ h => h) (Or.inl ⟨by kernel_rfl, fun W hSW => by kernel_rfl⟩) hS ?_
            try simp only [Act.put, List.setIfInBounds_toArray, List.set_cons_zero, List.set_cons_succ]
            refine wpAnyH_take (i := 24) (oi := { dst := some 55, op := Op.move (Operand.tmp 11), type := 3, pos := "mate.go:18", after := #[{ on := 12, ground := Ground.guard }], guard := some (12, true) }) (v := .int .i64 (x : Int)) rfl (by kernel_rfl) (by kernel_rfl) (by kernel_rfl) (fun _ _ _ h => h) (Or.inl ⟨by kernel_rfl, fun W hSW => by kernel_rfl⟩) hS ?_
            try simp only [Act.put, List.setIfInBounds_toArray, List.set_cons_zero, List.set_cons_succ]
            refine wpAnyH_take (i := 25) (oi := { dst := some 56, op := Op.binOp BinOp.shl 3 (Operand.const (Value.int IntKind.i64 1)) (Operand.tmp 55) 3, type := 3, pos := "mate.go:18", after := #[{ on := 24, ground := Ground.data }, { on := 12, ground := Ground.guard }], guard := some (12, true) }) (v := .int .i64 (N : Int)) rfl (by kernel_rfl) (by kernel_rfl) (by kernel_rfl) (fun _ _ _ h => h) (Or.inl ⟨by kernel_rfl, fun W hSW => by go_simp⟩) hS ?_
            try simp only [Act.put, List.setIfInBounds_toArray, List.set_cons_zero, List.set_cons_succ]
            refine wpAnyH_take (i := 26) (oi := { dst := some 57, op := Op.binOp BinOp.or 3 (Operand.tmp 54) (Operand.tmp 56) 3, type := 3, pos := "mate.go:18", after := #[{ on := 23, ground := Ground.data }, { on := 25, ground := Ground.data }, { on := 12, ground := Ground.guard }], guard := some (12, true) }) (v := .int .i64 (V3 : Int)) rfl (by kernel_rfl) (by kernel_rfl) (by kernel_rfl) (fun _ _ _ h => h) (Or.inl ⟨by kernel_rfl, fun W hSW => by go_simp⟩) hS ?_
            try simp only [Act.put, List.setIfInBounds_toArray, List.set_cons_zero, List.set_cons_succ]
            refine wpAnyH_take (i := 27) (oi := { dst := some 58, op := Op.move (Operand.tmp 2), type := 3, pos := "mate.go:18", after := #[{ on := 12, ground := Ground.guard }], guard := some (12, true) }) (v := .int .i64 (C2 : Int)) rfl (by kernel_rfl) (by kernel_rfl) (by kernel_rfl) (fun _ _ _ h => h) (Or.inl ⟨by kernel_rfl, fun W hSW => by kernel_rfl⟩) hS ?_
            try simp only [Act.put, List.setIfInBounds_toArray, List.set_cons_zero, List.set_cons_succ]
            refine wpAnyH_take (i := 28) (oi := { dst := some 59, op := Op.move (Operand.tmp 12), type := 3, pos := "mate.go:18", after := #[{ on := 12, ground := Ground.guard }], guard := some (12, true) }) (v := .int .i64 (y : Int)) rfl (by kernel_rfl) (by kernel_rfl) (by kernel_rfl) (fun _ _ _ h => h) (Or.inl ⟨by kernel_rfl, fun W hSW => by kernel_rfl⟩) hS ?_
            try simp only [Act.put, List.setIfInBounds_toArray, List.set_cons_zero, List.set_cons_succ]
            refine wpAnyH_take (i := 29) (oi := { dst := some 60, op := Op.binOp BinOp.shl 3 (Operand.const (Value.int IntKind.i64 1)) (Operand.tmp 59) 3, type := 3, pos := "mate.go:18", after := #[{ on := 28, ground := Ground.data }, { on := 12, ground := Ground.guard }], guard := some (12, true) }) (v := .int .i64 (N2 : Int)) rfl (by kernel_rfl) (by kernel_rfl) (by kernel_rfl) (fun _ _ _ h => h) (Or.inl ⟨by kernel_rfl, fun W hSW => by go_simp⟩) hS ?_
            try simp only [Act.put, List.setIfInBounds_toArray, List.set_cons_zero, List.set_cons_succ]
            refine wpAnyH_take (i := 30) (oi := { dst := some 61, op := Op.binOp BinOp.or 3 (Operand.tmp 58) (Operand.tmp 60) 3, type := 3, pos := "mate.go:18", after := #[{ on := 27, ground := Ground.data }, { on := 29, ground := Ground.data }, { on := 12, ground := Ground.guard }], guard := some (12, true) }) (v := .int .i64 (V4 : Int)) rfl (by kernel_rfl) (by kernel_rfl) (by kernel_rfl) (fun _ _ _ h => h) (Or.inl ⟨by kernel_rfl, fun W hSW => by go_simp⟩) hS ?_
            try simp only [Act.put, List.setIfInBounds_toArray, List.set_cons_zero, List.set_cons_succ]
            refine wpAnyH_ready (rs := [21]) (by kernel_rfl) (by simp) ?_
            refine AllReadyH.cons (o := { dst := some 52, op := Op.buildSlice 29 1 #[(0, Operand.tmp 51)], type := 29, pos := "mate.go:18", after := #[{ on := 20, ground := Ground.data }, { on := 12, ground := Ground.guard }], guard := some (12, true) }) rfl (fun K hK => ?_) AllReadyH.nil
            go_simp
            refine hK.out _ _ (S1.out _ (by first | exact (below_alloc wr _).drew | exact below_alloc wr _)) (fun hS => ?_)
            clear hK K
            try simp only [Act.put, List.setIfInBounds_toArray, List.set_cons_zero, List.set_cons_succ]
            refine wpAnyH_ready (rs := [22]) (by kernel_rfl) (by simp) ?_
            refine AllReadyH.cons (o := { dst := some 53, op := Op.call { callee := Callee.builtin Builtin.append, args := #[Operand.tmp 50, Operand.tmp 52], argTypes := #[29, 29] }, type := 29, pos := "mate.go:18", after := #[{ on := 19, ground := Ground.data }, { on := 21, ground := Ground.data }, { on := 12, ground := Ground.chain }, { on := 12, ground := Ground.guard }], guard := some (12, true) }) rfl (fun K hK => ?_) AllReadyH.nil
            refine step_growI (by kernel_rfl) _ _ (by rfl) A m l (by rfl) HM.out.symm RN.out (R1.out _ (by rfl)) wr.heap.size 1 x (by rfl) (R2.out _ (by rfl)) hm6 ?_
            intro A2 c2 w2 hin2 hne2 hc2 hb2
            have hbA : Below wr.heap.size wr (wr.alloc (.cells #[.int .i64 (x : Int)] 3)).drew := (below_alloc wr _).drew
            have hq1 : Below wr.heap.size wr w2 := below_step hbA hb2
            refine hK.out _ _ (S1.out _ hq1) (fun hS => ?_)
            clear hK K
            try simp only [Act.put, List.setIfInBounds_toArray, List.set_cons_zero, List.set_cons_succ]
            refine wpAnyH_ready (rs := [31]) (by kernel_rfl) (by simp) ?_
            refine AllReadyH.cons (o := { dst := some 62, op := Op.call { callee := Callee.value (Operand.tmp 44), args := #[Operand.tmp 53, Operand.tmp 57, Operand.tmp 61], argTypes := #[29, 3, 3] }, type := 4, pos := "mate.go:18", after := #[{ on := 13, ground := Ground.data }, { on := 22, ground := Ground.data }, { on := 26, ground := Ground.data }, { on := 30, ground := Ground.data }, { on := 22, ground := Ground.chain }, { on := 12, ground := Ground.guard }], guard := some (12, true) }) rfl (fun K hK => ?_) AllReadyH.nil
            go_simp
            refine (R3.out _ w2 A2 c2 hbA hin2 hne2 hc2 hb2).mono ?_
            rintro e w3 ⟨rfl, p1, p2⟩
            have P1 := Lib.hid p1
            have P2 := Lib.hid p2
            have hS3 := S3.out _ p2
            clear p1 p2 hin2 hne2 hc2 hb2 hbA
            refine hK.out _ _ (hS3) (fun hS => ?_)
            clear hK K
            try simp only [Act.put, List.setIfInBounds_toArray, List.set_cons_zero, List.set_cons_succ]
            refine wpAnyH_take (i := 32) (oi := { dst := some 63, op := Op.pick (Operand.tmp 43) (Operand.tmp 62) (Operand.const (Value.bool false)), type := 4, pos := "mate.go:18", after := #[{ on := 12, ground := Ground.data }, { on := 31, ground := Ground.data }], guard := none }) (v := .bool true) rfl (by kernel_rfl) (by kernel_rfl) (by kernel_rfl) (fun _ _ _ h => h) (Or.inl ⟨by kernel_rfl, fun W hSW => by go_simp⟩) hS ?_
            try simp only [Act.put, List.setIfInBounds_toArray, List.set_cons_zero, List.set_cons_succ]
            refine wpAnyH_done (by kernel_rfl) ?_ _
            obtain ⟨q1, q2, q3⟩ := HEND.out _ (by trivial) P1.out P2.out
            have Q1 := Lib.hid q1
            have Q2 := Lib.hid q2
            have Q3 := Lib.hid q3
            clear q1 q2 q3
            go_wp2
            go_ret
            exact ⟨ret_bool Q1.out.symm, Q2.out, Q3.out⟩
        · rw [t2, Bool.not_true] at z2
          have HOKF : Hid (okT b l x = false) := by rw [HOK.out, t2, Bool.not_true, Bool.and_false]; rfl
          have HQ : Hid (∀ q, I (done ++ trTo b n k l (x + 1)) (wr.drewN q) ∧ Kept Own w (wr.drewN q) ∧ (stop = true → trTo b n k l (x + 1) = [])) := fun q => by
            have hb := below_drewN (Below.refl wr.heap.size wr) q
            exact HNX.out _ HOKF.out (HV.out.keep _ _ _ hst.out.1 hb).1 (hst.out.2.1.trans (HV.out.grow hst.out.1 hb)) hst.out.2.2
          generalize C1 &&& N = V1 at *
          generalize C2 &&& N2 = V2 at *
          clear t1 t2 hst HNX
          go_wp2
          go_quiet (fail)
          go_wp2
          go_roundw
          case rel => exact ⟨x + 1, by omega, by go_num, HQ.out _⟩
          case measure => simp [intOf]; omega
      · rw [t1, Bool.not_true] at z1
        have HOKF : Hid (okT b l x = false) := by rw [HOK.out, t1]; rfl
        have HQ : Hid (∀ q, I (done ++ trTo b n k l (x + 1)) (wr.drewN q) ∧ Kept Own w (wr.drewN q) ∧ (stop = true → trTo b n k l (x + 1) = [])) := fun q => by
          have hb := below_drewN (Below.refl wr.heap.size wr) q
          exact HNX.out _ HOKF.out (HV.out.keep _ _ _ hst.out.1 hb).1 (hst.out.2.1.trans (HV.out.grow hst.out.1 hb)) hst.out.2.2
        generalize C1 &&& N = V1 at *
        generalize C2 &&& N2 = V2 at *
        clear t1 hst HNX
        go_wp2
        go_quiet (fail)
        go_wp2
        go_roundw
        case rel => exact ⟨x + 1, by omega, by go_num, HQ.out _⟩
        case measure => simp [intOf]; omega
    · obtain rfl : x = n := by omega
      have HF : Hid (vis stop (trTo b x k l x) = trTo b x k l x ∧ hit stop (trTo b x k l x) = false) := vis_none hst.out.2.2
      go_wp2
      go_ret
      exact ⟨ret_bool (by rw [HTS.out, HF.out.2]), by rw [HTS.out, HF.out.1]; exact hst.out.1, hst.out.2.1⟩
/-- on, from some columns on. -/
theorem f94_any (hb : IsFull n b) (hs : Beds w0 B n cb b) (hbase : base = w0.heap.size) (hn7 : n ≤ 7) : ∀ (k : Nat) (l : List Nat), l.length + k = n → (∀ i, i < l.length → l.getD i 0 < n) → OnC n base fv caps stop Own I b w0 B cb pn pv pb po k l
  | 0, l, hl, hln => f94_end n base fv caps stop Own I V b w0 B cb pn pv pb po l (by omega) (fun i hi => hln i (by omega))
  | k + 1, l, hl, hln => f94_step n base fv caps stop Own I V b w0 B cb pn pv pb po hb hs hbase hn7 k l hl hln fun c hc => f94_any hb hs hbase hn7 k (l ++ [c]) (by rw [List.length_append, List.length_singleton]; omega) fun i hi => by
      rw [List.length_append, List.length_singleton] at hi
      rcases Nat.lt_or_ge i l.length with h | h
      · rw [getD_app1 h]; exact hln i h
      · obtain rfl : i = l.length := by omega
        rw [getD_app2]; exact hc
end
end Go.Proofs.YtiodednhadnekaaDoor
