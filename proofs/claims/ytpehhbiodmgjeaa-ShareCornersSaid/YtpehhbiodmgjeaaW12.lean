/- Walks: share.Proof. -/
import Derived.Test.YtpehhbiodmgjeaaW11
import Derived.Test.YtpehhbiodmgjeaaBase3
import Derived.Deep.DeepCutAuto
import Derived.BigRegion
namespace Go.Proofs.Ytpehhbiodmgjeaa
open Go.RowKit

/-- What share.Proof keeps in memory: the cost, and two costs of its own. -/
structure PR (w0 w : World) (p pw po gW gO n L c : Nat) (A : Option Addr) (xs W O : List Int) : Prop where
  cp : Costs w p n A L c
  cw : Costs w pw n (some ⟨gW, 0, none⟩) L L
  co : Costs w po n (some ⟨gO, 0, none⟩) L L
  ow : Own w gW W
  oo : Own w gO O
  is : Ints w A L xs
  bel : Below w0.heap.size w0 w
  ia : Ints w0 A L xs
  bW : w0.heap.size ≤ gW
  bO : w0.heap.size ≤ gO
  n1 : gW ≠ gO
  n2 : p ≠ gW
  n3 : p ≠ gO
  n4 : pw ≠ gW
  n5 : pw ≠ gO
  n6 : po ≠ gW
  n7 : po ≠ gO

theorem Costs.far {w : World} {p : Nat} {n : Int} {A : Option Addr} {len c : Nat} (h : Costs w p n A len c) {g : Nat} (hg : p ≠ g) (j : Nat) (u : Value) : Costs (w.setCell ⟨g, j, none⟩ u) p n A len c :=
  ⟨(World.cell?_of_block (Below.heap_setCell w ⟨g, j, none⟩ u p hg)).trans h.1, (World.cell?_of_block (Below.heap_setCell w ⟨g, j, none⟩ u p hg)).trans h.2⟩
section
variable {w0 w : World} {p pw po gW gO n L c : Nat} {A : Option Addr} {xs W O : List Int}
theorem PR.drew (h : PR w0 w p pw po gW gO n L c A xs W O) : PR w0 w.drew p pw po gW gO n L c A xs W O :=
  ⟨h.cp, h.cw, h.co, h.ow, h.oo, h.is, h.bel.drew, h.ia, h.bW, h.bO, h.n1, h.n2, h.n3, h.n4, h.n5, h.n6, h.n7⟩
theorem PR.drewN (h : PR w0 w p pw po gW gO n L c A xs W O) (m : Nat) : PR w0 (w.drewN m) p pw po gW gO n L c A xs W O :=
  ⟨h.cp, h.cw, h.co, h.ow, h.oo, h.is, below_drewN h.bel m, h.ia, h.bW, h.bO, h.n1, h.n2, h.n3, h.n4, h.n5, h.n6, h.n7⟩
theorem PR.setW (h : PR w0 w p pw po gW gO n L c A xs W O) (j : Nat) (v : Int) : PR w0 (w.setCell ⟨gW, j, none⟩ (.int .i64 v)) p pw po gW gO n L c A xs (W.set j v) O :=
  ⟨h.cp.far h.n2 _ _, h.cw.far h.n4 _ _, h.co.far h.n6 _ _, h.ow.set_ j v, h.oo.far (fun e => h.n1 e.symm) _, h.ia.below (h.bel.setCell h.bW _), h.bel.setCell h.bW _, h.ia, h.bW, h.bO, h.n1, h.n2, h.n3, h.n4, h.n5, h.n6, h.n7⟩
theorem PR.setO (h : PR w0 w p pw po gW gO n L c A xs W O) (j : Nat) (v : Int) : PR w0 (w.setCell ⟨gO, j, none⟩ (.int .i64 v)) p pw po gW gO n L c A xs W (O.set j v) :=
  ⟨h.cp.far h.n3 _ _, h.cw.far h.n5 _ _, h.co.far h.n7 _ _, h.ow.far h.n1 _, h.oo.set_ j v, h.ia.below (h.bel.setCell h.bO _), h.bel.setCell h.bO _, h.ia, h.bW, h.bO, h.n1, h.n2, h.n3, h.n4, h.n5, h.n6, h.n7⟩
end

section
variable {w0 w : World} {p pw po gW gO n L c : Nat} {A : Option Addr} {xs W O : List Int}
/-- The cells that a round reads, at one world. -/
theorem PR.c1 (h : PR w0 w p pw po gW gO n L c A xs W O) : w.cell? ⟨p, 1, none⟩ = some (.slice A L c) := h.cp.2
theorem PR.c2 (h : PR w0 w p pw po gW gO n L c A xs W O) : w.cell? ⟨pw, 1, none⟩ = some (.slice (some ⟨gW, 0, none⟩) L L) := h.cw.2
theorem PR.c3 (h : PR w0 w p pw po gW gO n L c A xs W O) : w.cell? ⟨po, 1, none⟩ = some (.slice (some ⟨gO, 0, none⟩) L L) := h.co.2
end
theorem PR.later {w0 w w' : World} {p pw po gW gO n L c : Nat} {A : Option Addr} {xs W O : List Int} (h : PR w0 w p pw po gW gO n L c A xs W O) (hb : Below w.heap.size w w') : PR w0 w' p pw po gW gO n L c A xs W O :=
  ⟨h.cp.below hb, h.cw.below hb, h.co.below hb, h.ow.below' hb, h.oo.below' hb, h.is.below hb, below_step h.bel hb, h.ia, h.bW, h.bO, h.n1, h.n2, h.n3, h.n4, h.n5, h.n6, h.n7⟩
/-- The order in which the last one comes first, as numbers. -/
def revI (n k : Nat) : List Int := (List.range k).map fun (t : Nat) => (n : Int) - 1 - (t : Int)
theorem revI_len (n k : Nat) : (revI n k).length = k := by simp [revI]
theorem revI_succ (n k : Nat) : revI n k ++ [(n : Int) - 1 - (k : Int)] = revI n (k + 1) := by simp [revI, List.range_succ]
theorem revI_nat : ∀ n, n ≤ 6 → (revI n n).map Int.toNat = revOrd n := by decide
theorem revI_in (n : Nat) : ∀ j, j < n → 0 ≤ (revI n n).getD j 0 ∧ (revI n n).getD j 0 < n := fun j hj => by
  simp [revI, List.getD_eq_getElem?_getD, hj]; omega
theorem setD (W : List Int) (k : Nat) (v : Int) (h : k < W.length) : (W.set k v).getD k 0 = v := by
  simp [List.getD_eq_getElem?_getD, h]
theorem nat_pred (s : Nat) (h : 0 < s) : ((s : Int) - 1) = ((s - 1 : Nat) : Int) := by omega

theorem heap4 (w : World) (o0 o1 o2 o3 : Obj) :
    ((((w.alloc o0).alloc o1).alloc o2).alloc o3).heap[w.heap.size]? = some o0 ∧ ((((w.alloc o0).alloc o1).alloc o2).alloc o3).heap[w.heap.size + 1]? = some o1 ∧
    ((((w.alloc o0).alloc o1).alloc o2).alloc o3).heap[w.heap.size + 1 + 1]? = some o2 ∧ ((((w.alloc o0).alloc o1).alloc o2).alloc o3).heap[w.heap.size + 1 + 1 + 1]? = some o3 := by
  have s1 : (w.alloc o0).heap.size = w.heap.size + 1 := by simp
  have s2 : ((w.alloc o0).alloc o1).heap.size = w.heap.size + 1 + 1 := by simp
  have s3 : (((w.alloc o0).alloc o1).alloc o2).heap.size = w.heap.size + 1 + 1 + 1 := by simp
  refine ⟨?_, ?_, ?_, ?_⟩
  · rw [heap_alloc_old _ _ (by omega), heap_alloc_old _ _ (by omega), heap_alloc_old _ _ (by omega)]
    exact heap_alloc_new _ _
  · rw [heap_alloc_old _ _ (by omega), heap_alloc_old _ _ (by omega), ← s1]
    exact heap_alloc_new _ _
  · rw [heap_alloc_old _ _ (by omega), ← s2]
    exact heap_alloc_new _ _
  · rw [← s3]
    exact heap_alloc_new _ _
theorem below4 (w : World) (o0 o1 o2 o3 : Obj) : Below w.heap.size w ((((w.alloc o0).alloc o1).alloc o2).alloc o3) :=
  ((((Below.refl _ _).alloc (Nat.le_refl _) _).alloc (by simp) _).alloc (by simp; omega) _).alloc (by simp; omega) _
theorem PR.build {w0 w1 wx : World} {p pw po gW gO n L c : Nat} {A : Option Addr} {xs : List Int} {Z : Array Value} (hZ : Z = ((List.replicate L (0 : Int)).map (Value.int .i64)).toArray)
    (h0 : Ints w0 A L xs) (hcp : Costs w1 p n A L c) (hs : Ints w1 A L xs) (hb : Below w0.heap.size w0 w1) (hp : p < w1.heap.size) (hbx : Below w1.heap.size w1 wx)
    (hW : wx.heap[gW]? = some (.cells Z 3 (0, 0))) (hO : wx.heap[gO]? = some (.cells Z 3 (0, 0)))
    (hpw : wx.heap[pw]? = some (.cells #[.int .i64 (n : Int), .slice (some ⟨gW, 0, none⟩) L L] 60 (0, 0))) (hpo : wx.heap[po]? = some (.cells #[.int .i64 (n : Int), .slice (some ⟨gO, 0, none⟩) L L] 60 (0, 0)))
    (h1 : w1.heap.size ≤ gW) (h2 : w1.heap.size ≤ gO) (h3 : gW ≠ gO) : PR w0 wx p pw po gW gO n L c A xs (List.replicate L 0) (List.replicate L 0) := by
  have ty : ∀ {a b : Nat} {cs : Array Value}, wx.heap[a]? = some (.cells cs 60 (0, 0)) → wx.heap[b]? = some (.cells Z 3 (0, 0)) → a ≠ b := by
    rintro a b cs ha hb rfl
    rw [ha] at hb
    injection hb with hb
    injection hb with _ ht
    cases ht
  refine ⟨hcp.below hbx, ⟨cell_of_row _ _ 0 _ _ _ hpw, cell_of_row _ _ 1 _ _ _ hpw⟩, ⟨cell_of_row _ _ 0 _ _ _ hpo, cell_of_row _ _ 1 _ _ _ hpo⟩, ?_, ?_, hs.below hbx, below_step hb hbx, h0,
    Nat.le_trans hb.size h1, Nat.le_trans hb.size h2, h3, by omega, by omega, ty hpw hW, ty hpw hO, ty hpo hW, ty hpo hO⟩
  · unfold Own; rw [← hZ]; exact hW
  · unfold Own; rw [← hZ]; exact hO

set_option maxRecDepth 100000 in
set_option maxHeartbeats 8000000 in
/-- share.Proof, taken -/
theorem f18_yes (A : Option Addr) (n : Nat) (len c : Nat) (xs : List Int) (w : World) (hs : Ints w A len xs) (h : asked n xs = 0) :
    Calls Try.prog 18 #[.int .i64 (n : Int), .slice A len c] w fun e w' =>
      ∃ A' k c', e = .returned (.tuple #[.slice A' k c', .int .i64 0]) ∧ Ints w' A' k (proofL n xs) ∧ Below w.heap.size w w' := by
  have k44 := Lib.hid (f44_yes A n len c xs w hs h)
  obtain ⟨hok, hT⟩ := asked_zero h
  obtain ⟨n', hn', h1, h6, hln, hbd, h0⟩ := costOk_facts hok
  obtain rfl : n = n' := by omega
  have HL : Hid (len = 2 ^ n) := by rw [← hs.len]; exact hln
  have hl64 : len ≤ 64 := by rw [HL.out]; exact pow6 n h6
  have hpos : 0 < len := by rw [HL.out]; exact Nat.pow_pos (by omega)
  have HXL := Lib.hid hs.len
  have HBN := Lib.hid hbd
  have HS := Lib.hid hs
  have H0 := Lib.hid h0
  clear h hok hT hn' hln hbd hs h0
  obtain ⟨Z, hZ⟩ : ∃ Z, Z = ((List.replicate len (0 : Int)).map (Value.int .i64)).toArray := ⟨_, rfl⟩
  have hmk := make_ints len (by omega)
  rw [← hZ] at hmk
  have HZ := Lib.hid hZ
  clear hZ
  go_enter Try.func18, Try.ntmps18
  go_wp2_with fail
  refine k44.out.mono ?_
  rintro e w1 ⟨p, rfl, hcp, hs1, hb1, hpB⟩
  have k45 := Lib.hid (f45_any p A n len c xs w1 hcp hs1 h6 HL.out)
  have hS : small xs < len := by rw [← HXL.out]; exact small_lt xs (by rw [HXL.out]; exact hpos)
  obtain ⟨S, hSe⟩ : ∃ S, S = small xs := ⟨_, rfl⟩
  rw [← hSe] at hS k45
  have HSE := Lib.hid hSe
  clear hSe
  have HS1 := Lib.hid hs1
  have HB1 := Lib.hid hb1
  have HC1 := Lib.hid hcp
  obtain ⟨hp0, hp1⟩ := hcp
  have hplt := lt_of_cell hp1
  simp only at hplt
  have hb1s := hb1.size
  clear hs1 hb1
  go_wp2_with fail
  refine k45.out.mono ?_
  rintro e w' ⟨rfl, rfl⟩
  go_upto_region 5 with fail
  go_cut [11, 12] (fun s11 s12 wx => ∃ pw po gW gO : Nat, s11 = .pointer (some ⟨pw, 0, none⟩) ∧ s12 = .pointer (some ⟨po, 0, none⟩) ∧ PR w wx p pw po gW gO n len c A xs (List.replicate len 0) (List.replicate len 0))
  case first =>
    go_region
    all_goals (go_wp2_with fail; go_meet)
    all_goals first
      | exact ⟨w1.heap.size + 1, w1.heap.size + 1 + 1 + 1, w1.heap.size, w1.heap.size + 1 + 1, rfl, rfl, (PR.build HZ.out HS.out HC1.out HS1.out HB1.out hplt (below4 _ _ _ _ _) (heap4 _ _ _ _ _).1 (heap4 _ _ _ _ _).2.2.1 (heap4 _ _ _ _ _).2.1 (heap4 _ _ _ _ _).2.2.2 (by omega) (by omega) (by omega)).drew⟩
      | exact ⟨w1.heap.size + 1 + 1, w1.heap.size + 1 + 1 + 1, w1.heap.size, w1.heap.size + 1, rfl, rfl, (PR.build HZ.out HS.out HC1.out HS1.out HB1.out hplt (below4 _ _ _ _ _) (heap4 _ _ _ _ _).1 (heap4 _ _ _ _ _).2.1 (heap4 _ _ _ _ _).2.2.1 (heap4 _ _ _ _ _).2.2.2 (by omega) (by omega) (by omega)).drew⟩
      | exact ⟨w1.heap.size + 1 + 1 + 1, w1.heap.size + 1 + 1, w1.heap.size, w1.heap.size + 1, rfl, rfl, (PR.build HZ.out HS.out HC1.out HS1.out HB1.out hplt (below4 _ _ _ _ _) (heap4 _ _ _ _ _).1 (heap4 _ _ _ _ _).2.1 (heap4 _ _ _ _ _).2.2.2 (heap4 _ _ _ _ _).2.2.1 (by omega) (by omega) (by omega)).drew⟩
      | exact ⟨w1.heap.size + 1 + 1, w1.heap.size + 1 + 1 + 1, w1.heap.size + 1, w1.heap.size, rfl, rfl, (PR.build HZ.out HS.out HC1.out HS1.out HB1.out hplt (below4 _ _ _ _ _) (heap4 _ _ _ _ _).2.1 (heap4 _ _ _ _ _).1 (heap4 _ _ _ _ _).2.2.1 (heap4 _ _ _ _ _).2.2.2 (by omega) (by omega) (by omega)).drew⟩
      | exact ⟨w1.heap.size + 1 + 1 + 1, w1.heap.size + 1 + 1, w1.heap.size + 1, w1.heap.size, rfl, rfl, (PR.build HZ.out HS.out HC1.out HS1.out HB1.out hplt (below4 _ _ _ _ _) (heap4 _ _ _ _ _).2.1 (heap4 _ _ _ _ _).1 (heap4 _ _ _ _ _).2.2.2 (heap4 _ _ _ _ _).2.2.1 (by omega) (by omega) (by omega)).drew⟩
      | exact ⟨w1.heap.size + 1 + 1 + 1, w1.heap.size + 1, w1.heap.size + 1 + 1, w1.heap.size, rfl, rfl, (PR.build HZ.out HS.out HC1.out HS1.out HB1.out hplt (below4 _ _ _ _ _) (heap4 _ _ _ _ _).2.2.1 (heap4 _ _ _ _ _).1 (heap4 _ _ _ _ _).2.2.2 (heap4 _ _ _ _ _).2.1 (by omega) (by omega) (by omega)).drew⟩
  case rest =>
    obtain ⟨pw, po, gW, gO, rfl, rfl, hpr⟩ := hcut
    obtain ⟨cp0, cp1⟩ := hpr.cp
    have HPR := Lib.hid hpr
    clear hpr
    go_wp2_with fail
    go_loopw [13, 14, 15, 16, 17, 18, 62] (fun _ _ _ _ _ _ i wr => ∃ k : Nat, k ≤ len ∧ i = .int .i64 k ∧ PR w wr p pw po gW gO n len c A xs (preTo (wi xs S) len k) (preTo (wo xs S) len k)) (fun _ _ _ _ _ _ i _ => len - (intOf i).toNat)
    case atStart => exact ⟨0, by omega, rfl, by rw [preTo_zero, preTo_zero]; exact HPR.out⟩
    case round => as_aux_lemma =>
      obtain ⟨k, hk, rfl, hpr⟩ := hrel
      by_cases hlt : k < len
      · have e1 := bits_and_nat k S (by omega) (by omega)
        have e2 := bits_andNot_nat k S (by omega) (by omega)
        have haN : k &&& S < len := Nat.lt_of_le_of_lt Nat.and_le_left hlt
        have hwi : Hid (∀ v, v = inner xs (k &&& S) → (preTo (wi xs S) len k).set k v = preTo (wi xs S) len (k + 1)) := fun v hv => by rw [hv]; exact preTo_succ (wi xs S) len k
        have hwo : Hid (∀ v, v = outer xs (S ||| k) - xs.getD S 0 → (preTo (wo xs S) len k).set k v = preTo (wo xs S) len (k + 1)) := fun v hv => by rw [hv]; exact preTo_succ (wo xs S) len k
        have hWl : (preTo (wi xs S) len k).length = len := preTo_len _ _ _
        have hOl : (preTo (wo xs S) len k).length = len := preTo_len _ _ _
        generalize preTo (wi xs S) len k = W at *
        generalize preTo (wo xs S) len k = O at *
        have HWl := Lib.hid hWl
        have HOl := Lib.hid hOl
        have hor := or_nd S (by omega) k (by omega)
        have HOR := Lib.hid hor
        clear hWl hOl hor
        have hnd : nd k S < 64 := nd_le k S 6 (by omega)
        have HND : Hid (nd (nd (2 ^ n - 1) S) (nd k S) = nd (2 ^ n - 1) (S ||| k)) := nd_nd n h6 S (by rw [← HL.out]; exact hS) k (by rw [← HL.out]; exact hlt)
        generalize nd k S = b at *
        obtain ⟨bA, off, hA⟩ : ∃ bA off, A = some ⟨bA, off, none⟩ := by obtain ⟨b, off, e, _⟩ := hpr.is.ad hpos; exact ⟨b, off, e⟩
        subst hA
        have hcx : Hid (∀ wz, Ints wz (some ⟨bA, off, none⟩) len xs → ∀ j, j < len → wz.cell? ⟨bA, off + j, none⟩ = some (.int .i64 (xs.getD j 0))) := fun wz hz j hj => by
          obtain ⟨b2, off2, e, hc⟩ := hz.ad hpos
          cases e
          exact hc j hj
        have HAE : Hid (k &&& S = k &&& S) := rfl
        generalize hae : k &&& S = a at *
        have d1 := hpr.c1
        have d2 := hpr.c2
        have d5 := hcx.out wr hpr.is a haN
        have d6 := hpr.ow.cell k (by rw [HWl.out]; exact hlt)
        have d7 := hpr.ow.frozen k
        have HIA : Hid (InAcc xs a a (xs.getD a 0)) := InAcc.start xs a (by rw [HXL.out]; exact haN)
        have HSA : Hid (a &&& a = a) := Nat.and_self a
        generalize xs.getD a 0 = va at *
        have HPR1 := Lib.hid hpr
        clear hpr hae HAE
        go_wp2_with fail
        go_region
        go_wp2_with fail
        have HPR2 := Lib.hid (HPR1.out.setW k va).drew
        clear d1 d2 d5 d6 d7 e1 e2
        go_loopw [16] (fun sl wz => ∃ (s : Nat) (v : Int), s < 64 ∧ sl = .int .i64 s ∧ (s &&& a) = s ∧ InAcc xs a s v ∧ PR w wz p pw po gW gO n len c (some ⟨bA, off, none⟩) xs (W.set k v) O) (fun sl _ => (intOf sl).toNat)
        case atStart => exact ⟨a, va, by omega, rfl, HSA.out, HIA.out, HPR2.out⟩
        case round => as_aux_lemma =>
          obtain ⟨s, v, hs64, rfl, hsa, hacc, hpz⟩ := hrel
          have HPZ := Lib.hid hpz
          have HAC := Lib.hid hacc
          have HSS := Lib.hid hsa
          have d1 := hpz.c1
          have d2 := hpz.c2
          have d6 := hpz.ow.cell k (by rw [List.length_set, HWl.out]; exact hlt)
          rw [setD W k v (by rw [HWl.out]; exact hlt)] at d6
          have d7 := hpz.ow.frozen k
          by_cases hs0 : 0 < s
          · have hsl : s < len := Nat.lt_of_le_of_lt (by rw [← hsa]; exact Nat.and_le_right) haN
            have d5 := hcx.out _ hpz.is s hsl
            have e3 := bits_and_nat (s - 1) a (by omega) (by omega)
            rw [← nat_pred s hs0] at e3
            have hst : Hid (InAcc xs a ((s - 1) &&& a) (mn v (xs.getD s 0))) := hacc.step (by rw [HXL.out]; exact hl64) (by rw [HXL.out]; exact hsl) (by omega) hsa
            have hsn : Hid (((s - 1) &&& a) &&& a = (s - 1) &&& a) := sub_and a (by omega) s hs64
            have hlt2 : (s - 1) &&& a < s := Nat.lt_of_le_of_lt Nat.and_le_left (by omega)
            generalize (s - 1) &&& a = s2 at *
            generalize xs.getD s 0 = ys at *
            clear hpz hacc hsa
            go_wp2_with fail
            go_region
            go_wp2_with fail
            go_roundw
            case rel => exact ⟨s2, mn v ys, by omega, rfl, hsn.out, hst.out, by have h3 := (HPZ.out.setW k (mn v ys)).drew; rw [List.set_set] at h3; exact h3⟩
            case measure => simp [intOf]; omega
          · obtain rfl : s = 0 := by omega
            have hin : Hid ((if (0 : Int) < v then (0 : Int) else v) = inner xs a) := hacc.done H0.out
            clear hpz hacc hsa
            go_wp2_with fail
            go_region
            generalize (if (0 : Int) < v then (0 : Int) else v) = mv at *
            have hp3 := (HPZ.out.setW k mv).drew
            rw [List.set_set, hwi.out mv hin.out] at hp3
            have k48 := Lib.hid (f48_any p n _ len c _ hp3.cp h6)
            have HP3 := Lib.hid hp3
            clear hp3 d1 d2 d6 d7
            go_wp2_with fail
            refine k48.out.mono ?_
            rintro e w' ⟨rfl, rfl⟩
            have hall : Hid (2 ^ n - 1 < 64) := by unfold Hid; have := HL.out; omega
            have e1 := bits_andNot_nat (2 ^ n - 1) S (by have := hall.out; omega) (by omega)
            have hn1 : nd (2 ^ n - 1) S < 64 := nd_le _ _ 6 hall.out
            have e2 := bits_andNot_nat (nd (2 ^ n - 1) S) b (by omega) (by omega)
            rw [HND.out] at e2
            have hT : S ||| k < len := by rw [HL.out]; exact Nat.or_lt_two_pow (by rw [← HL.out]; exact hS) (by rw [← HL.out]; exact hlt)
            have e3 := bits_or_nat S b (by omega) (by omega)
            rw [HOR.out] at e3
            have hr : nd (2 ^ n - 1) (S ||| k) < len := by rw [HL.out]; exact nd_le _ _ n (by have := HL.out; omega)
            have hTr : ∀ s, s < len → (S ||| k) ||| s < len := fun s hs => by rw [HL.out]; exact Nat.or_lt_two_pow (by rw [← HL.out]; exact hT) (by rw [← HL.out]; exact hs)
            have hacc : Hid (OutAcc xs (S ||| k) (nd (2 ^ n - 1) (S ||| k)) (nd (2 ^ n - 1) (S ||| k)) (xs.getD ((S ||| k) ||| nd (2 ^ n - 1) (S ||| k)) 0)) := OutAcc.start xs (S ||| k) _ (by rw [HXL.out]; exact hr)
            have hdone : Hid (∀ v, OutAcc xs (S ||| k) (nd (2 ^ n - 1) (S ||| k)) 0 v → mn v (xs.getD (S ||| k) 0) = outer xs (S ||| k)) :=
              fun v hv => hv.done h6 (by rw [HXL.out]; exact HL.out) (by rw [← HL.out]; exact hT)
            generalize S ||| k = T at *
            generalize nd (2 ^ n - 1) T = r at *
            generalize nd (2 ^ n - 1) S = r1 at *
            have hTR := hTr r hr
            have e4 := bits_or_nat T r (by omega) (by omega)
            have HTr := Lib.hid hTr
            clear hTr
            generalize hq : T ||| r = q at *
            have HQ := Lib.hid hq
            clear hq
            have d1 := HP3.out.c1
            have d3 := HP3.out.c3
            have d5 := hcx.out _ HP3.out.is q hTR
            have d8 := hcx.out _ HP3.out.is S hS
            have d6 := HP3.out.oo.cell k (by rw [HOl.out]; exact hlt)
            have d7 := HP3.out.oo.frozen k
            have b1 := HBN.out q
            have b2 := HBN.out S
            generalize xs.getD q 0 = vq at *
            generalize hvS : xs.getD S 0 = vS at *
            have HVS := Lib.hid hvS
            clear hvS
            have e3H := Lib.hid e3
            have b1' : -1000000 ≤ vq ∧ vq ≤ 1000000 := b1
            generalize 2 ^ n - 1 = M at *
            go_wp2_with fail
            go_region
            go_wp2_with fail
            have HP4 := Lib.hid (HP3.out.setO k (vq - vS)).drew
            clear d1 d3 d5 d6 d7 d8 b1 e1 e2 e3 e4 hTR
            go_loopw [18] (fun sl wz => ∃ (s : Nat) (v : Int), s < len ∧ sl = .int .i64 s ∧ (s &&& r) = s ∧ OutAcc xs T r s v ∧ (-1000000 ≤ v ∧ v ≤ 1000000) ∧ PR w wz p pw po gW gO n len c (some ⟨bA, off, none⟩) xs (preTo (wi xs S) len (k + 1)) (O.set k (v - vS))) (fun sl _ => (intOf sl).toNat)
            case atStart => exact ⟨r, vq, hr, rfl, Nat.and_self r, hacc.out, b1', HP4.out⟩
            case round => as_aux_lemma =>
              obtain ⟨s, v, hs, rfl, hsr, hac, hv, hpz⟩ := hrel
              have HPZ := Lib.hid hpz
              have hTs := HTr.out s hs
              have e4 := bits_or_nat T s (by omega) (by omega)
              have d1 := hpz.c1
              have d3 := hpz.c3
              have d5 := hcx.out _ hpz.is (T ||| s) hTs
              have d8 := hcx.out _ hpz.is S hS
              rw [HVS.out] at d8
              have d6 := hpz.oo.cell k (by rw [List.length_set, HOl.out]; exact hlt)
              rw [setD O k (v - vS) (by rw [HOl.out]; exact hlt)] at d6
              have d7 := hpz.oo.frozen k
              have b1 := HBN.out (T ||| s)
              have e3 := e3H.out
              by_cases hs0 : s = 0
              · subst hs0
                have hfin : Hid (mn v (xs.getD T 0) = outer xs T) := hdone.out v hac
                rw [Nat.or_zero] at d5 b1 hTs
                have e4z : bits .or .i64 (T : Int) 0 = (T : Int) := by rw [Nat.or_zero] at e4; exact e4
                clear e4
                generalize xs.getD T 0 = vT at *
                clear hpz hac hsr
                go_wp2_with fail
                go_region
                generalize hmv : (if vT < v then vT - vS else v - vS) = mv at *
                have hmv2 : Hid (mv = outer xs T - vS) := by
                  rw [← hfin.out, ← hmv]
                  unfold Hid mn
                  by_cases hh : vT < v
                  · rw [if_pos hh, if_pos hh]
                  · rw [if_neg hh, if_neg hh]
                clear hmv
                have hp5 := (HPZ.out.setO k mv).drew
                rw [List.set_set, hwo.out mv hmv2.out] at hp5
                have HP5 := Lib.hid hp5
                clear hp5
                go_wp2_with fail
                go_roundw
                case rel => exact ⟨k + 1, by omega, by go_num, HP5.out⟩
                case measure => simp [intOf]; omega
              · have e5 := bits_and_nat (s - 1) r (by omega) (by omega)
                rw [← nat_pred s (by omega)] at e5
                have hst : Hid (OutAcc xs T r ((s - 1) &&& r) (mn v (xs.getD (T ||| s) 0))) := hac.step (by rw [HXL.out]; exact hl64) (by rw [HXL.out]; exact hr) (by rw [HXL.out]; exact hs) hsr
                have hsn : Hid (((s - 1) &&& r) &&& r = (s - 1) &&& r) := sub_and r (by omega) s (by omega)
                have hlt2 : (s - 1) &&& r < s := Nat.lt_of_le_of_lt Nat.and_le_left (by omega)
                generalize (s - 1) &&& r = s2 at *
                generalize T ||| s = q2 at *
                generalize xs.getD q2 0 = vq2 at *
                have hsq : ((s : Int) == 0) = false := by simp; omega
                clear hpz hac hsr
                go_wp2_with fail
                go_region
                generalize hmv : (if vq2 < v then vq2 - vS else v - vS) = mv at *
                have hmv2 : Hid (mv = mn v vq2 - vS) := by
                  rw [← hmv]
                  unfold Hid mn
                  by_cases hh : vq2 < v
                  · rw [if_pos hh, if_pos hh]
                  · rw [if_neg hh, if_neg hh]
                have hmb : Hid (-1000000 ≤ mn v vq2 ∧ mn v vq2 ≤ 1000000) := by unfold Hid mn; split <;> omega
                clear hmv
                have hp5 := (HPZ.out.setO k mv).drew
                rw [List.set_set] at hp5
                have HP5 := Lib.hid hp5
                clear hp5
                go_wp2_with fail
                go_roundw
                case rel => exact ⟨s2, mn v vq2, by omega, rfl, hsn.out, hst.out, hmb.out, by rw [← hmv2.out]; exact HP5.out⟩
                case measure => simp [intOf]; omega
      · obtain rfl : k = len := by omega
        have HPR1 := Lib.hid hpr
        have hsz0 := hpr.bel.size
        clear hpr
        go_wp2_with fail
        obtain ⟨wq, rfl⟩ : ∃ wq : World, wq = wr := ⟨_, rfl⟩
        go_loopw [19, 20] (fun sl i wz => ∃ j : Nat, j ≤ n ∧ i = .int .i64 ((n : Int) - 1 - (j : Int)) ∧ Row wz wq.heap.size sl (revI n j) ∧ Below wq.heap.size wq wz) (fun _ i _ => (intOf i + 1).toNat)
        case atStart => exact ⟨0, by omega, by simp, Row.nil _ _, Below.refl _ _⟩
        case round => as_aux_lemma =>
          obtain ⟨j, hj, rfl, hrow, hbel⟩ := hrel
          have HRW := Lib.hid hrow
          have HBE := Lib.hid hbel
          have hsz := hbel.size
          clear hrow hbel
          by_cases hlt : j < n
          · have hgo : decide (0 ≤ (n : Int) - 1 - (j : Int)) = true := by simp; omega
            go_wp2_with (at_builtin; refine wpList_push rfl (.tmp 204) (.tmp 206) rfl wq.heap.size _ (revI n j) rfl (HRW.out.alloc _) wr.heap.size 1 ((n : Int) - 1 - (j : Int)) rfl ?hc ?hl ?hb ?hr)
            case hc => exact cell_new wr _ 3 0
            case hl => rw [revI_len]; omega
            case hb => simp; omega
            case hr =>
              intro v' w' hr' hg'
              rw [revI_succ] at hr'
              have HR2 := Lib.hid hr'
              have HB2 : Hid (Below wq.heap.size wq w') := below_grown (HBE.out.alloc hsz _) hg' (by simp; omega) (HRW.out.alloc _) (Nat.le_refl _)
              clear hr' hg'
              go_wp2_with fail
              go_roundw
              case rel => exact ⟨j + 1, by omega, by go_num, HR2.out, HB2.out⟩
              case measure => simp [intOf]; omega
          · obtain rfl : j = n := by omega
            have hgo : decide (0 ≤ (j : Int) - 1 - (j : Int)) = false := by simp; omega
            obtain ⟨Ao, co, rfl, hio⟩ := HRW.out.form
            have hio := hio 6 (by rw [revI_len]; exact h6) (by omega)
            rw [revI_len] at hio
            rw [revI_len]
            have hpr2 := HPR1.out.later HBE.out
            have hpi := preTo_in (wi xs S) k k (-1000000000) 1000000000 (by omega) (fun i hi => by have := inner_in xs HBN.out (i &&& S) (by rw [HXL.out]; exact hpos); unfold wi; omega)
            have k49 := Lib.hid (f49_any pw _ Ao j k k j co _ _ wr hpr2.cw (hpr2.ow.ints' (preTo_len _ _ _) (by omega)) hio h6 HL.out hpi (revI_in j))
            rw [revI_nat j h6] at k49
            go_wp2_with fail
            refine k49.out.mono ?_
            rintro e w2 ⟨rfl, hown1, hbel1⟩
            have hpr3 := hpr2.later hbel1
            have hpo := preTo_in (wo xs S) k k (-1000000000) 1000000000 (by omega) (fun i hi => by
              have h1 := outer_in xs HBN.out j (S ||| i) h6 (by rw [HXL.out]; exact HL.out) (by exact Nat.or_lt_two_pow (by rw [← HL.out]; exact hS) (by rw [← HL.out]; exact hi))
              have h2 := HBN.out S
              unfold wo; omega)
            have k49b := Lib.hid (f49_any po _ Ao j k k j co _ _ w2 hpr3.co (hpr3.oo.ints' (preTo_len _ _ _) (by omega)) (hio.below hbel1) h6 HL.out hpo (revI_in j))
            rw [revI_nat j h6] at k49b
            go_wp2_with fail
            refine k49b.out.mono ?_
            rintro e w3 ⟨rfl, hown2, hbel2⟩
            have hown1b := hown1.below' hbel2
            have hbel3 : Below w.heap.size w w3 := (hpr3.later hbel2).bel
            have hmx := mixTo_zero j h6 xs S
            have hlk := HL.out
            rw [← hlk] at hmx
            rw [hmx] at hown1b
            have hgo2 := fun t ht hb => greedyO_at j h6 xs S t ht hb
            rw [← hlk] at hgo2
            have HGO := Lib.hid hgo2
            have hG2l : (greedyL j (preTo (wo xs S) k k) (revOrd j)).length = j := greedyL_len _ _ _
            generalize greedyL j (preTo (wo xs S) k k) (revOrd j) = G2 at *
            have hg12 : wr.heap.size < w2.heap.size := hown1.lt
            have HO1 := Lib.hid hown1b
            have HO2 := Lib.hid hown2
            have HB3 := Lib.hid hbel3
            have HGL := Lib.hid hG2l
            clear hmx hlk hgo2 hown1 hown1b hown2 hbel3 hbel1 hbel2 hpi hpo hpr2 hpr3 hio k45 k49 k49b hG2l
            go_wp2_with fail
            obtain ⟨wp, rfl⟩ : ∃ wp : World, wp = wr := ⟨_, rfl⟩
            generalize wp.heap.size = g1 at *
            generalize w2.heap.size = g2 at *
            go_loopw [22, 23, 215] (fun _ _ i wz => ∃ t : Nat, t ≤ j ∧ i = .int .i64 t ∧ Own wz g1 (mixTo j xs S t) ∧ Own wz g2 G2 ∧ Below w.heap.size w wz ∧ w.heap.size ≤ g1) (fun _ _ i _ => j - (intOf i).toNat)
            case atStart => exact ⟨0, by omega, rfl, HO1.out, HO2.out, HB3.out, by omega⟩
            case round => as_aux_lemma =>
              obtain ⟨t, ht, rfl, hq1, hq2, hqb, hg1⟩ := hrel
              have HQ1 := Lib.hid hq1
              have HQ2 := Lib.hid hq2
              have HQB := Lib.hid hqb
              by_cases hlt : t < j
              · have d1 := hq2.cell t (by rw [HGL.out]; exact hlt)
                have d2 := hq1.cell t (by rw [mixTo_len]; exact hlt)
                have d3 := hq1.frozen t
                have hkeep : Hid (S.testBit t = true → mixTo j xs S (t + 1) = mixTo j xs S t) := mixTo_keep j xs S t hlt
                have hset : Hid (S.testBit t = false → (mixTo j xs S t).set t (G2.getD t 0) = mixTo j xs S (t + 1)) := fun hb => by rw [HGO.out t hlt hb]; exact mixTo_set j xs S t
                obtain ⟨N, hN, hshl⟩ := shl_one t (by omega)
                have hN2 : N ≤ 64 := by rw [hN]; exact pow6 t (by omega)
                have e1 := bits_and_nat S N (by omega) (by omega)
                have hbt := bit_and S (by omega) t (by omega)
                rw [← hN] at hbt
                generalize G2.getD t 0 = x at *
                clear hN hq1 hq2 hqb
                cases hb : S.testBit t
                · have hz : S &&& N = 0 := by rw [hb] at hbt; simpa using hbt
                  rw [hz] at e1
                  have hset2 := Lib.hid (hset.out hb)
                  clear hbt hb hz hkeep hset
                  go_wp2_with fail
                  go_roundw
                  case rel => exact ⟨t + 1, by omega, by go_num, by rw [← hset2.out]; exact HQ1.out.set_ t x, HQ2.out.far (by simp; omega) _, HQB.out.setCell hg1 _, hg1⟩
                  case measure => simp [intOf]; omega
                · have hz : S &&& N ≠ 0 := by rw [hb] at hbt; simpa using hbt
                  have hq : (((S &&& N : Nat) : Int) == 0) = false := by simpa using hz
                  have hkeep2 := Lib.hid (hkeep.out hb)
                  clear hbt hb hz hkeep hset
                  generalize S &&& N = a at *
                  go_wp2_with fail
                  go_roundw
                  case rel => exact ⟨t + 1, by omega, by go_num, by rw [hkeep2.out]; exact HQ1.out, HQ2.out, HQB.out, hg1⟩
                  case measure => simp [intOf]; omega
              · obtain rfl : t = j := by omega
                have hfin : Hid (mixTo t xs S t = proofL t xs) := by rw [HSE.out]; exact mixTo_all t xs
                go_wp2_with fail
                go_ret2
                exact ⟨_, _, _, rfl, by rw [← hfin.out]; exact HQ1.out.ints' (mixTo_len _ _ _ _) (by omega), HQB.out⟩

set_option maxRecDepth 100000 in
/-- share.Proof -/
theorem f18_any (A : Option Addr) (n : Int) (len c : Nat) (xs : List Int) (w : World) (hs : Ints w A len xs) :
    Calls Try.prog 18 #[.int .i64 n, .slice A len c] w fun e w' =>
      ∃ A' k c', e = .returned (.tuple #[.slice A' k c', .int .i64 (proofErr n xs)]) ∧ Ints w' A' k (proofR n xs) ∧ Below w.heap.size w w' := by
  by_cases h : asked n xs = 0
  · obtain ⟨hok, hT⟩ := asked_zero h
    obtain ⟨n', rfl, _⟩ := costOk_facts hok
    refine (f18_yes A n' len c xs w hs h).mono ?_
    rintro e w' ⟨A', k, c', rfl, hi, hb⟩
    have e1 : proofErr n' xs = 0 := h
    have e2 : proofR n' xs = proofL n' xs := by unfold proofR; rw [if_pos h, Int.toNat_natCast]
    exact ⟨A', k, c', by rw [e1], by rw [e2]; exact hi, hb⟩
  · have k44 := Lib.hid (f44_no A n len c xs w hs h)
    have e1 : Hid (proofErr n xs = asked n xs) := rfl
    have e2 : Hid (proofR n xs = []) := by unfold proofR; rw [if_neg h]; rfl
    have hq : (asked n xs != 0) = true := by simpa using h
    clear h
    go_enter Try.func18, Try.ntmps18
    go_wp2_with fail
    refine k44.out.mono ?_
    rintro e w1 ⟨rfl, hb⟩
    have HB := Lib.hid hb
    clear hb
    go_wp2
    go_ret2
    exact ⟨none, 0, 0, by rw [e1.out]; rfl, by rw [e2.out]; exact Ints.nil _ _, HB.out⟩
end Go.Proofs.Ytpehhbiodmgjeaa
