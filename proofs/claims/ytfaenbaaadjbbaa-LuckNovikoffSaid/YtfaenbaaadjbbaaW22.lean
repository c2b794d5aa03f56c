/- Walks: heard, whoever listens. -/
import Derived.Test.YtfaenbaaadjbbaaW21
import Derived.StillTailTactics
namespace Go.Proofs.Ytfaenbaaadjbbaa
open Go.RowKit

def toldL (told : Nat → Int) (i : Nat) : List Int := (List.range i).map told
theorem toldL_len (told : Nat → Int) (i : Nat) : (toldL told i).length = i := by simp [toldL]
theorem toldL_succ (told : Nat → Int) (i : Nat) : toldL told i ++ [told i] = toldL told (i + 1) := by simp [toldL, List.range_succ]
theorem toldL_get {told : Nat → Int} {i j : Nat} (h : j < i) : (toldL told i).getD j 0 = told j := by simp [toldL, List.getD_eq_getElem?_getD, h]

theorem Row.kept {w w' : World} {base : Nat} {v : Value} {xs : List Int} {g : Nat} (h : Row w base v xs) (hg : w.grownBy w' (some g)) (hb : g < base) : Row w' base v xs :=
  World.ownsRow.kept h hg (by
    cases hv : v.ownBlock with
    | none => exact .inl rfl
    | some b =>
      refine .inr ?_
      intro e
      have := World.ownsRow.lt h b hv
      injection e with e
      omega)
theorem Row.below {w w' : World} {base : Nat} {v : Value} {xs : List Int} (h : Row w base v xs) (hb : Below w.heap.size w w') : Row w' base v xs :=
  World.ownsRow.kept h (grown_below hb none) (by cases hv : v.ownBlock <;> simp)
set_option maxRecDepth 100000 in
set_option maxHeartbeats 4000000 in
/-- luck.heard -/
theorem f61_any (ty : TypeId) (ff fl : FuncId) (p g k c d : Nat) (A B : Option Addr) (said : List (List Int)) (came : List Int) (told : Nat → Int) (St : Nat → World → Prop) (w00 w : World)
    (hmf : ∀ w : World, (method 249 ty (.pointer (some ⟨p, 0, none⟩)) "dibber/luck.foretell").run Try.prog w = .ok (ff, .pointer (some ⟨p, 0, none⟩)) w)
    (hml : ∀ w : World, (method 249 ty (.pointer (some ⟨p, 0, none⟩)) "dibber/luck.learn").run Try.prog w = .ok (fl, .pointer (some ⟨p, 0, none⟩)) w)
    (hnl : ∀ w : World, (nilAhead 249 ty (.pointer (some ⟨p, 0, none⟩)) "dibber/luck.learn").run Try.prog w = .ok (some false) w)
    (hef : ∀ (args : Array Value) (w : World), (callFunc ff args).run Try.prog w = .ok (.enter ff args) w)
    (hel : ∀ (args : Array Value) (w : World), (callFunc fl args).run Try.prog w = .ok (.enter fl args) w)
    (hs : IntsS w00 A k said) (hc : Ints w00 B k came) (hk : k ≤ 200) (hb : Below w00.heap.size w00 w) (hp : w00.heap.size ≤ p) (hg : w00.heap.size ≤ g) (hpl : p < w.heap.size) (hgl : g < w.heap.size) (hst : St 0 w)
    (hkeep : ∀ (i : Nat) (w w' : World), St i w → w'.heap[p]? = w.heap[p]? → w'.heap[g]? = w.heap[g]? → St i w')
    (hfor : ∀ i, i < k → ∀ (W : World) (D : Option Addr) (e : Nat), Ints W D (said.getD i []).length (said.getD i []) → St i W → Calls Try.prog ff #[.pointer (some ⟨p, 0, none⟩), .slice D (said.getD i []).length e] W fun e w' => e = .returned (.int .i64 (told i)) ∧ Below W.heap.size W w')
    (hlearn : ∀ i, i < k → ∀ (W : World) (D : Option Addr) (e : Nat), Ints W D (said.getD i []).length (said.getD i []) → (0 < (said.getD i []).length → ∀ b off, D = some ⟨b, off, none⟩ → b ≠ g) → St i W →
      Calls Try.prog fl #[.pointer (some ⟨p, 0, none⟩), .slice D (said.getD i []).length e, .int .i64 (came.getD i 0)] W fun e w' => e = .returned (.tuple #[]) ∧ St (i + 1) w' ∧ W.grownBy w' (some g)) :
    Calls Try.prog 61 #[.iface ty (.pointer (some ⟨p, 0, none⟩)), .slice A k c, .slice B k d] w fun e w' => ∃ v, e = .returned v ∧ Row w' w.heap.size v (toldL told k) ∧ Below w00.heap.size w00 w' ∧ St k w' := by
  have HS := Lib.hid hs
  have HC := Lib.hid hc
  have HST := Lib.hid hst
  have HK := Lib.hid hkeep
  have HF := Lib.hid hfor
  have HL := Lib.hid hlearn
  have HB0 := Lib.hid hb
  have hks := hs.small
  clear hs hc hst hkeep hfor hlearn hb
  go_enter Try.func61, Try.ntmps61
  go_wp2
  go_loopw [7, 8, 9, 12] (fun v _ _ i wr => ∃ q : Nat, q ≤ k ∧ i = .int .i64 (q : Int) ∧ Row wr w.heap.size v (toldL told q) ∧ Below w00.heap.size w00 wr ∧ w.heap.size ≤ wr.heap.size ∧ Hid (St q wr)) (fun _ _ _ i _ => k - (intOf i).toNat)
  case atStart => exact ⟨0, by omega, rfl, Row.nil _ _, HB0.out, Nat.le_refl _, HST⟩
  case round => as_aux_lemma =>
    obtain ⟨q, hq, rfl, hrow, hbel, hsz, hSt⟩ := hrel
    have HR := Lib.hid hrow
    have HB := Lib.hid hbel
    by_cases hlt : q < k
    · obtain ⟨b, off, rfl, D, e, hcr, hi⟩ := HS.out.at_ hlt
      obtain ⟨b2, off2, rfl, hcc⟩ := HC.out.at_ hlt
      have hc1 := (hbel.cell (lt_of_cell hcr)).trans hcr
      have HI := Lib.hid hi
      have hblk : Hid (0 < (said.getD q []).length → ∀ b off, D = some ⟨b, off, none⟩ → b ≠ g) := fun hn b off hD => by
        obtain ⟨b', off', e', hx⟩ := hi.ad hn
        rw [hD] at e'
        injection e' with e'
        injection e' with e1 e2
        have hlt := lt_of_cell (hx 0 hn)
        simp only at hlt
        omega
      have K1 := Lib.hid (HF.out q hlt wr D e (hi.below hbel) hSt.out)
      have hcc0 := Lib.hid hcc
      have hb2 : b2 < w00.heap.size := lt_of_cell hcc
      have hst := Lib.hid (toldL_succ told q)
      have HL1 := Lib.hid (HL.out q hlt)
      have his := hi.small
      have hl1 : (toldL told q).length ≤ 1000000 := by rw [toldL_len]; omega
      generalize told q = t at *
      generalize said.getD q [] = row at *
      generalize came.getD q 0 = cq at *
      have HLL := Lib.hid hl1
      clear hi hcr hcc hrow hbel hl1
      go_wp2_with fail
      refine K1.out.mono ?_
      rintro e1 w1 ⟨rfl, hb1⟩
      have B1 := Lib.hid hb1
      have hsz1 := hb1.size
      have R1 := Lib.hid (HR.out.below hb1)
      clear hb1
      go_wp2_with (at_builtin; refine wpList_push rfl (.tmp 17) (.tmp 21) rfl w.heap.size _ (toldL told q) rfl (R1.out.alloc _) w1.heap.size 1 t rfl ?hc ?hl ?hb ?hr)
      case hc => exact cell_new w1 _ 3 0
      case hl => exact HLL.out
      case hb => simp; omega
      case hr =>
        intro v2 w2 hr hg2
        rw [hst.out] at hr
        have B2 : Hid (Below w00.heap.size w00 w2) := below_grown ((HB.out.trans (B1.out.mono HB.out.size)).alloc (Nat.le_trans HB.out.size hsz1) _) hg2 (by have := HB.out.size; simp; omega) (R1.out.alloc _) HB0.out.size
        have hrow' : ∀ b, v2.ownBlock = some b → b < w2.heap.size := fun b hv => (World.ownsRow.lt hr b hv).2
        have hsz2 := hg2.size
        simp at hsz2
        have hsame : ∀ b, b < w.heap.size → w2.heap[b]? = wr.heap[b]? := fun b hb => by
          have e1 := hg2.block b (by simp; omega) (fun e => by
            have := World.ownsRow.lt (R1.out.alloc (.cells #[.int .i64 t] 3)) b e.symm
            omega)
          rw [e1, Below.heap_alloc w1 _ b (by omega)]
          exact B1.out.block b (by omega)
        have S2 : Hid (St q w2) := HK.out q wr w2 hSt.out (hsame p hpl) (hsame g hgl)
        have HR2 := Lib.hid hr
        have hc2 := (B2.out.cell (lt_of_cell hcc0.out)).trans hcc0.out
        have K2 : Hid (∀ W : World, W.heap = w2.heap → Calls Try.prog fl #[.pointer (some ⟨p, 0, none⟩), .slice D row.length e, .int .i64 cq] W fun e w' => e = .returned (.tuple #[]) ∧ St (q + 1) w' ∧ W.grownBy w' (some g)) := fun W hW =>
          HL1.out W D e (by
            have := HI.out.below B2.out
            refine ⟨this.1, this.2.1, fun hn => ?_⟩
            obtain ⟨b, off, e1, e2⟩ := this.2.2 hn
            exact ⟨b, off, e1, fun j hj => by
              have := e2 j hj
              unfold World.cell? at this ⊢
              rw [hW]; exact this⟩) hblk.out (HK.out q w2 W S2.out (by rw [hW]) (by rw [hW]))
        clear hr hg2 hrow' hsame
        go_wp2_with fail
        go_still_tail 9, (by kernel_rfl)
        change wpList _ _ _ _ _ w2.drew
        go_wp2_with fail
        refine (K2.out w2.drew rfl).mono ?_
        rintro e3 w3 ⟨rfl, hs3, hg3⟩
        have S3 := Lib.hid hs3
        have B3 : Hid (Below w00.heap.size w00 w3) := (below_drewN B2.out 1).grown hg3 B2.out.size (fun j hj => by injection hj with hj; omega)
        have R3 : Hid (Row w3 w.heap.size v2 (toldL told (q + 1))) := Row.kept (w := w2.drew) HR2.out hg3 hgl
        have hsz3 : w2.heap.size ≤ w3.heap.size := hg3.size
        have hsz4 : w.heap.size ≤ w3.heap.size := by omega
        clear hs3 hg3
        go_wp2_with fail
        go_roundw
        case rel => exact ⟨q + 1, by omega, by go_num, R3.out, B3.out, hsz4, S3⟩
        case measure => simp [intOf]; omega
    · obtain rfl : q = k := by omega
      clear hrow hbel
      go_wp2
      go_ret
      exact ⟨_, rfl, HR.out, HB.out, hSt.out⟩
end Go.Proofs.Ytfaenbaaadjbbaa
