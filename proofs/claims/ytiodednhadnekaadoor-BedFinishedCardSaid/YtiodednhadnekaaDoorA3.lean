/- Walks: Copied. Walks: BedChecks. Walks: Transversal. Walks: the specification's transversals. Walks: BedTransversals. Copied, as rows of its own; beds in memory that may be written. Walks: the specification's free and can. Walks: the specification's Fill. Walks: BedFills. Walks: Count. Walks: Count; the specification's count. Walks: the specification's count. Walks: BedCounts. -/
import Derived.Test.YtiodednhadnekaaDoorA2
import Derived.RowKit3
namespace Go.Proofs.YtiodednhadnekaaDoor
open Go.RowKit Go.Deep
attribute [local go_sem ↓] Go.wp_at_zero Go.wp_at_succ

theorem take_next {α : Type} {b : List α} {r : Nat} (d : α) (h : r < b.length) : b.take (r + 1) = b.take r ++ [b.getD r d] := by
  rw [List.take_succ_eq_append_getElem h]
  simp [List.getD_eq_getElem?_getD, h]
set_option maxRecDepth 100000 in
set_option maxHeartbeats 8000000 in
/-- dibberref01.Copied -/
theorem f24_any (A : Option Addr) (n c : Nat) (b : List (List Int)) (w : World) (hs : Beds w A n c b) (hrow : ∀ j, (b.getD j []).length ≤ 1000) (hn : n ≤ 1000) :
    Calls Tryd.prog 24 #[.slice A n c] w fun e w' => ∃ A' c', e = .returned (.slice A' n c') ∧ BedsN w' w.heap.size A' n c' b ∧ Below w.heap.size w w' := by
  have HS := Lib.hid hs
  have hbl := hs.len
  have HR := Lib.hid hrow
  clear hs hrow
  go_enter Tryd.func24, Tryd.ntmps24
  go_wp2
  go_loopw [4, 3] (fun i u wr => ∃ (r : Nat) (v : Value), r ≤ n ∧ i = .int .i64 (r : Int) ∧ v = u ∧ BRow wr w.heap.size v (b.take r) ∧ Below w.heap.size w wr) (fun i _ _ => n - (intOf i).toNat)
  case atStart => exact ⟨0, _, by omega, rfl, rfl, BRow.nil _ _, Below.refl _ _⟩
  case round => as_aux_lemma =>
    obtain ⟨r, v, hr, rfl, rfl, hbr, hbel⟩ := hrel
    by_cases hlt : r < n
    · obtain ⟨vs, hv1, hv2, hv3⟩ := hbr
      obtain ⟨g, o, rfl, B, d, hc, hld, hBn, hi⟩ := (HS.out.below hbel).at_ hlt
      have HN : Hid (b.take (r + 1) = b.take r ++ [b.getD r []]) := take_next [] (by omega)
      have hrl := HR.out r
      have HSZ : Hid (w.heap.size ≤ wr.heap.size) := hbel.size
      have HBL := Lib.hid hbel
      have hvl : Hid (vs.length ≤ 1000000) := by
        show vs.length ≤ 1000000
        rw [hv2, List.length_take]; omega
      have HV := Lib.hid hv1
      have HP := Lib.hid (fun (w1 w' : World) (u v' : Value) (hb : Below wr.heap.size wr w1) (hu : Row w1 w.heap.size u (b.getD r [])) (hg : w1.grownBy w' v.ownBlock) (hr : RowV w' w.heap.size v' (vs ++ [u])) => BRow.push hv1 hv2 hv3 hb hu hg hr)
      obtain ⟨L, hL⟩ : ∃ z, z = b.getD r [] := ⟨_, rfl⟩
      rw [← hL] at HN hrl HP hc hld hBn hi
      have r0 : (0 : Int) ≤ (r : Int) := by omega
      have rn : (r : Int) < (n : Int) := by omega
      clear hv1 hv2 hv3 hbel hL
      go_wp2_with (at_builtin; refine wpList_pushAll rfl (.tmp 13) (.tmp 17) rfl w.heap.size (.slice none 0 0) [] rfl (Row.nil _ _) B L.length d L rfl ?hn ?hi ?hl ?hb ?hr)
      case hn => exact hBn
      case hi => exact hi
      case hl => simp; omega
      case hb => exact HSZ.out
      case hr =>
        intro v1 w1 hr1 hg1
        have hb1 : Below wr.heap.size wr w1 := below_of_none hg1
        obtain ⟨A1, c1, rfl, _⟩ := hr1.form3 (by omega)
        have HR1 := Lib.hid hr1
        have HB1 := Lib.hid hb1
        have HBA := Lib.hid (hb1.alloc hb1.size (.cells #[.slice A1 L.length c1] 29))
        have hcn := cell_new w1 #[.slice A1 L.length c1] 29 0
        clear hr1 hg1 hb1
        go_wp2_with (at_builtin; refine wpList_pushV rfl (.tmp 12) (.tmp 19) rfl w.heap.size v vs rfl (HV.out.below HBA.out) w1.heap.size 1 A1 L.length c1 rfl hcn hvl.out ?hb ?hr)
        case hb => exact Nat.le_trans HSZ.out HBA.out.size
        case hr =>
          intro v2 w2 hr2 hg2 _
          have HB2 := Lib.hid (HP.out _ _ _ _ HBA.out (HR1.out.below (below_alloc w1 _)) hg2 hr2)
          have HBL2 := Lib.hid (below_grownV (HBL.out.trans (HBA.out.mono HSZ.out)) hg2 (Nat.le_trans HSZ.out HBA.out.size) (HV.out.below HBA.out) (Nat.le_refl _))
          clear hr2 hg2 hcn
          go_wp2
          go_roundw
          case rel => exact ⟨r + 1, _, by omega, by go_num, rfl, by rw [HN.out]; exact HB2.out, HBL2.out⟩
          case measure => simp [intOf]; omega
    · obtain rfl : r = n := by omega
      rw [List.take_of_length_le (by omega)] at hbr
      obtain ⟨A2, c2, hv2, hN⟩ := hbr.bedsN (by omega) (fun j => by have := HR.out j; omega)
      rw [hbl] at hv2 hN
      subst hv2
      have HN := Lib.hid hN
      have HB := Lib.hid hbel
      clear hN hbr hbel
      go_wp2
      go_ret
      exact ⟨_, _, rfl, HN.out, HB.out⟩
end Go.Proofs.YtiodednhadnekaaDoor

namespace Go.Proofs.YtiodednhadnekaaDoor
open Go.RowKit Go.Deep
attribute [local go_sem ↓] Go.wp_at_zero Go.wp_at_succ

theorem few_false {b : List (List Int)} (h : fewB (b.map List.length) = true) : b.length ≤ 20 ∧ ∀ j, (b.getD j []).length ≤ 20 := ⟨by have := (fewB_facts h).1; simpa using this, few_rows h⟩
set_option maxRecDepth 100000 in
set_option maxHeartbeats 8000000 in
/-- dibberlaw01.BedChecks -/
theorem f5_any (A : Option Addr) (n c : Nat) (b : List (List Int)) (w : World) (hs : CameB w A n c b) (ht : Tab w) :
    Calls Tryd.prog 5 #[.slice A n c] w fun e w' => e = .returned (.bool true) ∧ Below w.heap.size w w' := by
  have K16 := Lib.hid (f16_any A c n (b.map List.length) w hs.1)
  have HT := Lib.hid ht
  cases hf : fewB (b.map List.length)
  · rw [hf] at K16
    have K17 := Lib.hid (f17_any w ht)
    clear hs hf ht
    go_enter Tryd.func5, Tryd.ntmps5
    go_wp2_with fail
    refine K16.out.mono ?_
    rintro e w1 ⟨rfl, rfl⟩
    go_wp2_with fail
    refine K17.out.mono ?_
    rintro e w2 ⟨rfl, hb⟩
    have HB := Lib.hid hb
    clear hb
    go_wp2
    go_ret
    exact ⟨rfl, HB.out⟩
  · rw [hf] at K16
    have hB := hs.beds hf
    obtain ⟨hl20, hr20⟩ := few_false hf
    have hbl := hB.len
    have HB := Lib.hid hB
    have K24 := Lib.hid (f24_any A n c b w hB (fun j => by have := hr20 j; omega) (by omega))
    clear hs hf ht hB hr20
    go_enter Tryd.func5, Tryd.ntmps5
    go_wp2_with fail
    refine K16.out.mono ?_
    rintro e w1 ⟨rfl, rfl⟩
    go_wp2_with fail
    refine K24.out.mono ?_
    rintro e w2 ⟨A2, c2, rfl, hN, hb2⟩
    have O2 := Lib.hid hN.beds
    have B2 := Lib.hid hb2
    clear hN hb2 K24 K16
    go_wp2_with fail
    refine (f25_any A2 n c2 b w2 O2.out).mono ?_
    rintro e w3 ⟨rfl, hb3⟩
    have O3 := Lib.hid (O2.out.below hb3)
    have B3 := Lib.hid (below_step B2.out hb3)
    clear hb3 O2 B2
    go_wp2_with fail
    refine (f26_any A n c b w3 (HB.out.below B3.out)).mono ?_
    rintro e w4 ⟨rfl, rfl⟩
    have K20 := f20_any A2 A n c2 n c b b w3 O3.out (HB.out.below B3.out)
    have K17 : ∀ k, Calls Tryd.prog 17 #[] (w3.drewN k) fun e w' => e = .returned (.bool true) ∧ Below w3.heap.size w3 w' := fun k => (f17_any (w3.drewN k) ((HT.out.below B3.out).drewN k)).mono fun e w' ⟨h1, h2⟩ => ⟨h1, (below_drewN (Below.refl w3.heap.size w3) k).trans h2⟩
    rw [show decide (b = b) = true from decide_eq_true rfl] at K20
    have K20 := Lib.hid K20
    have K17 := Lib.hid K17
    generalize chR b = x1
    generalize chC b = x2
    generalize chE b = x3
    have h1 : (x1 == x1) = true := by simp
    have h2 : (x2 == x2) = true := by simp
    have h3 : (x3 == x3) = true := by simp
    clear HB
    go_wp2_with fail
    refine K20.out.mono ?_
    rintro e w5 ⟨rfl, k, rfl⟩
    go_wp2_with fail
    refine (K17.out k).mono ?_
    rintro e w6 ⟨rfl, hb6⟩
    have B6 := Lib.hid (below_step B3.out hb6)
    clear hb6
    go_wp2
    go_ret
    exact ⟨rfl, B6.out⟩
end Go.Proofs.YtiodednhadnekaaDoor

namespace Go.Proofs.YtiodednhadnekaaDoor
open Go.RowKit Go.Deep
attribute [local go_sem ↓] Go.wp_at_zero Go.wp_at_succ

/-- The transversal that was seen last. -/
def TvI (n p : Nat) (done : List (List Nat)) (w : World) : Prop :=
  (done = [] ∧ w.heap[p]? = some (.cells #[.slice none 0 0] 29 (0, 0))) ∨ ∃ pre l A c, done = pre ++ [l] ∧ l.length = n ∧ w.heap[p]? = some (.cells #[.slice A n c] 29 (0, 0)) ∧ IntsN (fun _ i => i = p) w A l
theorem TvI.var {n p : Nat} {done : List (List Nat)} {w : World} (h : TvI n p done w) : ∃ v, w.heap[p]? = some (.cells #[v] 29 (0, 0)) := by
  rcases h with ⟨_, h⟩ | ⟨_, _, _, _, _, _, h, _⟩
  · exact ⟨_, h⟩
  · exact ⟨_, h⟩
theorem TvI.lt {n p : Nat} {done : List (List Nat)} {w : World} (h : TvI n p done w) : p < w.heap.size := by
  obtain ⟨v, h⟩ := h.var
  rcases Nat.lt_or_ge p w.heap.size with hlt | hge
  · exact hlt
  · rw [Array.getElem?_eq_none hge] at h; cases h
theorem enter74 (args : Array Value) (w : World) : (callFunc 74 args).run Tryd.prog w = .ok (.enter 74 args) w := by simp [go_sem]
/-- bed.Transversal$1 -/
theorem f74_any (n p : Nat) (done : List (List Nat)) (A : Option Addr) (ca : Nat) (l : List Nat) (w : World) (hn : 0 < n) (hI : TvI n p done w) (hl : l.length = n) (hli : IntsN (fun _ i => i = p) w A l) :
    Calls Tryd.prog 74 #[.slice A n ca, .pointer (some ⟨p, 0, none⟩)] w fun e w' => e = .returned (.bool true) ∧ TvI n p (done ++ [l]) w' ∧ Kept (fun _ i => i = p) w w' := by
  obtain ⟨v, hv⟩ := hI.var
  have hc : w.cell? ⟨p, 0, none⟩ = some v := by rw [cell_of_row w p 0 _ 29 (0, 0) hv]; rfl
  have hf : w.frozen? ⟨p, 0, none⟩ = false := by simp [World.frozen?, hv]
  have HK : Hid (Kept (fun _ i => i = p) w (w.setCell ⟨p, 0, none⟩ (.slice A n ca))) := kept_setCell _ _ _ _
  have HT : Hid (TvI n p (done ++ [l]) (w.setCell ⟨p, 0, none⟩ (.slice A n ca))) := .inr ⟨done, l, A, ca, rfl, hl, by simp [World.setCell, Array.getElem?_modify, hv], hli.kept HK.out (by omega)⟩
  clear hI hli hv
  go_enter Tryd.func74, Tryd.ntmps74
  go_wp2
  go_ret
  exact ⟨rfl, HT.out, HK.out⟩
theorem visit74 (n base p : Nat) (hn : 0 < n) (hp : base ≤ p) : Visit n base 74 #[.pointer (some ⟨p, 0, none⟩)] true (fun _ i => i = p) (TvI n p) where
  enter := enter74
  keep := fun done w w' h hb => by
    refine ⟨?_, fun i h => h⟩
    rcases h with ⟨h1, h2⟩ | ⟨pre, l, A, c, h1, h2, h3, h4⟩
    · exact .inl ⟨h1, (hb.block p (TvI.lt (.inl ⟨h1, h2⟩ : TvI n p done w))).trans h2⟩
    · exact .inr ⟨pre, l, A, c, h1, h2, (hb.block p (TvI.lt (.inr ⟨pre, l, A, c, h1, h2, h3, h4⟩ : TvI n p done w))).trans h3, h4.kept ⟨hb.os, hb.tape, hb.output, hb.size, fun i hi _ => hb.block i hi, fun i _ h => h⟩ (by omega)⟩
  lt := fun done w i h hi => by subst hi; exact ⟨hp, h.lt⟩
  call := fun done l A c w h hd hl _ hi hno => f74_any n p done A c l w hn h hl ⟨by rw [hl]; exact hi, hno⟩
/-- The first transversal. -/
def tvL (b : List (List Int)) : List Int := if fullB b = true then zs ((trans b b.length).headD []) else []
def tvE (b : List (List Int)) : Int := if fullB b = true then (if trans b b.length = [] then 10 else 0) else 2
set_option maxRecDepth 100000 in
set_option maxHeartbeats 4000000 in
/-- bed.Transversal -/
theorem f27_any (A : Option Addr) (n c : Nat) (b : List (List Int)) (w : World) (hs : Beds w A n c b) :
    Calls Tryd.prog 27 #[.slice A n c] w fun e w' => ∃ A' c', e = .returned (.tuple #[.slice A' (tvL b).length c', .int .i64 (tvE b)]) ∧ Ints w' A' (tvL b).length (tvL b) ∧ Below w.heap.size w w' := by
  have K60 := Lib.hid (f60_any A n c b w hs)
  cases hf : fullB b
  · rw [hf] at K60
    have HE : Hid (tvL b = [] ∧ tvE b = 2) := by unfold tvL tvE; rw [hf]; exact ⟨rfl, rfl⟩
    clear hs hf
    go_enter Tryd.func27, Tryd.ntmps27
    go_wp2_with fail
    refine K60.out.mono ?_
    rintro e w1 ⟨rfl, hb⟩
    have HB := Lib.hid hb
    clear hb
    go_wp2
    go_ret2
    exact ⟨none, 0, by rw [HE.out.1, HE.out.2]; rfl, by rw [HE.out.1]; exact Ints.nil _ _, HB.out⟩
  · rw [hf] at K60
    obtain ⟨hn1, hn7, hfull⟩ := fullB_iff.1 hf
    have hbl := hs.len
    rw [hbl] at hn1 hn7 hfull
    have HE : Hid (tvL b = zs ((trans b n).headD []) ∧ tvE b = if trans b n = [] then 10 else 0) := by unfold tvL tvE; rw [hf, hbl]; exact ⟨rfl, rfl⟩
    have HF := Lib.hid hfull
    have HS := Lib.hid hs
    have hen := enter74
    have hmf : ∀ (fn : Fn) (first cap : Array Value) (w : World), (Instr.makeFunc fn first cap).run Tryd.prog w = .ok (.func fn first cap) w := fun _ _ _ _ => rfl
    clear hf hs hfull
    go_enter Tryd.func27, Tryd.ntmps27
    go_wp2_with fail
    refine K60.out.mono ?_
    rintro e w1 ⟨rfl, hb⟩
    have hz : w.heap.size ≤ w1.heap.size := hb.size
    have B2 : Hid (Below w.heap.size w (w1.alloc (.cells #[.slice none 0 0] 29))) := hb.alloc hz _
    have I2 : Hid (TvI n w1.heap.size [] (w1.alloc (.cells #[.slice none 0 0] 29))) := .inl ⟨rfl, heap_alloc_new w1 _⟩
    have K61 := Lib.hid (f61_any n w.heap.size 74 #[.pointer (some ⟨w1.heap.size, 0, none⟩)] true (fun _ i => i = w1.heap.size) (TvI n w1.heap.size) (visit74 n w.heap.size w1.heap.size hn1 hz) b w A c (w1.alloc (.cells #[.slice none 0 0] 29)) HF.out HS.out rfl B2.out hn7 I2.out)
    have hsz : w.heap.size ≤ (w1.alloc (.cells #[.slice none 0 0] 29)).heap.size := B2.out.size
    have HMEM : Hid (∀ l ∈ trans b n, l.length = n) := fun l hl => (trans_mem l hl).1
    generalize trans b n = T at *
    cases T with
    | nil =>
      have HH : Hid (hit true [] = false ∧ vis true [] = []) := ⟨rfl, rfl⟩
      rw [HH.out.1, HH.out.2] at K61
      have HE2 : Hid (tvL b = [] ∧ tvE b = 10) := ⟨HE.out.1, HE.out.2⟩
      clear hb K60 HE
      go_wp2_with fail
      refine K61.out.mono ?_
      rintro e w3 ⟨rfl, h1, h2⟩
      have B3 : Hid (Below w.heap.size w w3) := h2.below B2.out hsz (fun i hi => by subst hi; exact hz)
      clear h1 h2 K61
      go_wp2
      go_ret2
      exact ⟨none, 0, by rw [HE2.out.1, HE2.out.2]; rfl, by rw [HE2.out.1]; exact Ints.nil _ _, B3.out⟩
    | cons t T =>
      have HH : Hid (hit true (t :: T) = true ∧ vis true (t :: T) = [t]) := ⟨rfl, rfl⟩
      rw [HH.out.1, HH.out.2] at K61
      have HE2 : Hid (tvL b = zs t ∧ tvE b = 0) := ⟨HE.out.1, HE.out.2⟩
      have htl : t.length = n := HMEM.out t (List.mem_cons_self ..)
      have hzl : (zs t).length = n := by rw [zs_len]; exact htl
      clear hb K60 HE
      go_wp2_with fail
      refine K61.out.mono ?_
      rintro e w3 ⟨rfl, h1, h2⟩
      have B3 : Hid (Below w.heap.size w w3) := h2.below B2.out hsz (fun i hi => by subst hi; exact hz)
      rcases h1 with ⟨h1, _⟩ | ⟨pre, l, A3, c3, h3, h4, h5, h6⟩
      · cases h1
      obtain rfl : l = t := by
        have h7 : ([t] : List (List Nat)) = pre ++ [l] := h3
        match pre, h7 with
        | [], h7 => simpa using h7.symm
        | _ :: pre, h7 => simp at h7
      have hc3 : w3.cell? ⟨w1.heap.size, 0, none⟩ = some (.slice A3 n c3) := by rw [cell_of_row w3 w1.heap.size 0 _ 29 (0, 0) h5]; rfl
      have hI6 := h6.1
      rw [htl] at hI6
      obtain ⟨b6, o6, e6, _⟩ := hI6.at_ hn1
      subst e6
      have K68 := Lib.hid (f68_any (some ⟨b6, o6, none⟩) n c3 (zs l) w3 hI6 (fun h => by cases h) (by omega))
      clear h2 h3 h4 h5 h6 hI6 K61
      go_wp2_with fail
      refine K68.out.mono ?_
      rintro e w4 ⟨v4, rfl, hr4, hb4⟩
      obtain ⟨A4, c4, rfl, hi4, _⟩ := hr4.form3 (by omega)
      have HI4 := Lib.hid hi4
      have B4 := Lib.hid (B3.out.trans (hb4.mono B3.out.size))
      clear hr4 hb4 hi4
      go_wp2
      go_ret2
      exact ⟨A4, c4, by rw [HE2.out.1, HE2.out.2, hzl]; rfl, by rw [HE2.out.1]; exact HI4.out, B4.out⟩
end Go.Proofs.YtiodednhadnekaaDoor

namespace Go.Proofs.YtiodednhadnekaaDoor
open Go.RowKit Go.Deep
attribute [local go_sem ↓] Go.wp_at_zero Go.wp_at_succ

def rokT (b : List (List Int)) (l : List Nat) (c : Nat) (R : Nat) : Bool := (List.range R).all fun i => decide (l.getD i 0 ≠ c) && decide (gAt b i (l.getD i 0) ≠ gAt b l.length c)
theorem rokT_succ (b : List (List Int)) (l : List Nat) (c R : Nat) : rokT b l c (R + 1) = (rokT b l c R && (decide (l.getD R 0 ≠ c) && decide (gAt b R (l.getD R 0) ≠ gAt b l.length c))) := by
  unfold rokT
  rw [List.range_succ, List.all_append]
  simp
theorem rokT_ok {b : List (List Int)} {n c : Nat} {l : List Nat} (hb : IsFull n b) (hl : l.length < n) (hc : c < n) (hln : ∀ i, i < l.length → l.getD i 0 < n) : rokT b l c l.length = okT b l c := by
  have h1 : (colsM l).testBit c = true ↔ ∃ i, i < l.length ∧ l.getD i 0 = c := by
    unfold colsM
    rw [bit_orN]
    simp only [Nat.testBit_two_pow, decide_eq_true_eq]
  have h2 : (cropsM b l).testBit (gAt b l.length c).toNat = true ↔ ∃ i, i < l.length ∧ gAt b i (l.getD i 0) = gAt b l.length c := by
    unfold cropsM
    rw [bit_orN]
    simp only [Nat.testBit_two_pow, decide_eq_true_eq]
    constructor
    · rintro ⟨i, hi, e⟩
      have a1 := (hb.lo i (l.getD i 0) (by omega) (hln i hi)).1
      have a2 := (hb.lo l.length c hl hc).1
      exact ⟨i, hi, by omega⟩
    · rintro ⟨i, hi, e⟩
      exact ⟨i, hi, by rw [e]⟩
  have h3 : rokT b l c l.length = true ↔ okT b l c = true := by
    unfold rokT okT
    rw [List.all_eq_true, Bool.and_eq_true, Bool.not_eq_true', Bool.not_eq_true', ← Bool.not_eq_true, ← Bool.not_eq_true, h1, h2]
    constructor
    · intro h
      refine ⟨fun ⟨i, hi, e⟩ => ?_, fun ⟨i, hi, e⟩ => ?_⟩
      · have h6 := h i (List.mem_range.2 hi)
        rw [Bool.and_eq_true, decide_eq_true_eq] at h6
        exact h6.1 e
      · have h6 := h i (List.mem_range.2 hi)
        rw [Bool.and_eq_true, decide_eq_true_eq, decide_eq_true_eq] at h6
        exact h6.2 e
    · rintro ⟨h4, h5⟩ i hi
      have hi := List.mem_range.1 hi
      simp only [Bool.and_eq_true, decide_eq_true_eq]
      exact ⟨fun e => h4 ⟨i, hi, e⟩, fun e => h5 ⟨i, hi, e⟩⟩
  cases h : rokT b l c l.length <;> cases h' : okT b l c <;> simp_all
/-- The first of what is found, as a list of rows. -/
def firstL (L : List (List Int)) (T : List (List Nat)) : List (List Int) := if L = [] then (T.take 1).map zs else L
theorem firstL_nil (L : List (List Int)) : firstL L [] = L := by unfold firstL; split <;> simp_all
theorem firstL_app (L : List (List Int)) (T U : List (List Nat)) : firstL L (T ++ U) = firstL (firstL L T) U := by
  unfold firstL
  by_cases h : L = []
  · rw [if_pos h, if_pos h]
    cases T with
    | nil => simp
    | cons t T => simp
  · rw [if_neg h, if_neg h, if_neg h]
section
variable (n : Nat) (b : List (List Int)) (w0 : World) (B : Option Addr) (cb : Nat)
def TrC (k : Nat) (l : List Nat) : Prop := ∀ (L : List (List Int)) (A F : Option Addr) (c m d : Nat) (w : World), Below w0.heap.size w0 w → Ints w A l.length (zs l) → (A = none → l.length = 0 ∧ c = 0) → Beds w F m d L →
  Calls Tryd.prog 75 #[.slice B n cb, .slice A l.length c, .slice F m d] w fun e w' => ∃ F' m' d', e = .returned (.tuple #[.int .i64 ((trF b n k l).length : Int), .slice F' m' d']) ∧ Beds w' F' m' d' (firstL L (trF b n k l)) ∧ Below w.heap.size w w'
set_option maxRecDepth 100000 in
set_option maxHeartbeats 4000000 in
theorem f75_end (hn7 : n ≤ 7) (l : List Nat) (hl : l.length = n) : TrC n b w0 B cb 0 l := by
  intro L A F c m d w hbel hi hnil hF
  have hml := hF.len
  have hmsm := hF.small
  have HF := Lib.hid hF
  have HI := Lib.hid hi
  have hT : trF b n 0 l = [l] := rfl
  rw [hT]
  rw [hl] at hi hnil ⊢
  have hq : ((n : Int) == (n : Int)) = true := by simp
  have h1 : (([l] : List (List Nat)).length : Int) = 1 := rfl
  rw [h1]
  by_cases hL : L = []
  · have hm0 : m = 0 := by rw [← hml, hL]; rfl
    have HL : Hid (firstL L [l] = [zs l]) := by unfold firstL; rw [if_pos hL]; rfl
    have hzl : (zs l).length = n := by rw [zs_len]; exact hl
    subst hm0
    clear hF hT hbel
    go_enter Tryd.func75, Tryd.ntmps75
    go_wp2_with (at_builtin; refine wpList_pushAll rfl (.tmp 26) (.tmp 27) rfl w.heap.size (.slice none 0 0) [] rfl (Row.nil _ _) A n c (zs l) rfl ?hn ?hi ?hl ?hb ?hr)
    case hn => exact hnil
    case hi => exact hi
    case hl => simp; omega
    case hb => exact Nat.le_refl _
    case hr =>
      intro v1 w1 hr1 hg1
      have hb1 : Below w.heap.size w w1 := below_of_none hg1
      obtain ⟨A1, c1, rfl, hi1, hc1⟩ := hr1.form3 (by omega)
      rw [hzl] at hi1 hc1
      have HN1 : Hid (A1 = none → (zs l).length = 0 ∧ c1 = 0) := by
        intro e
        rcases hr1.2 with ⟨e2, hn2⟩ | ⟨g, cap, cur, e2, _⟩
        · injection e2 with _ _ e3; exact ⟨hn2, e3⟩
        · rw [e] at e2; cases e2
      have HB5 : Hid (Beds (w1.alloc (.cells #[.slice A1 n c1] 29)) (some ⟨w1.heap.size, 0, none⟩) 1 1 [zs l]) := by
        refine ⟨rfl, by omega, by omega, fun h => (by cases h), fun _ => ⟨_, 0, rfl, fun j hj => ?_⟩⟩
        obtain rfl : j = 0 := by omega
        refine ⟨A1, c1, ?_, ?_, ?_, ?_⟩
        · have := cell_new w1 #[.slice A1 n c1] 29 0
          rw [Nat.add_zero, this]
          show some (Value.slice A1 n c1) = some (.slice A1 (zs l).length c1)
          rw [hzl]
        · show (zs l).length ≤ c1; rw [hzl]; exact hc1
        · exact HN1.out
        · show Ints _ A1 (zs l).length (zs l)
          rw [hzl]; exact hi1.below (below_alloc w1 _)
      have HB1 := Lib.hid (hb1.alloc hb1.size (.cells #[.slice A1 n c1] 29))
      clear hr1 hg1 hb1 hi1
      rw [hzl]
      go_wp2
      go_ret2
      exact ⟨_, _, _, rfl, by rw [HL.out]; exact HB5.out, HB1.out⟩
  · have hm0 : m ≠ 0 := by
      intro e
      rw [e] at hml
      exact hL (List.eq_nil_of_length_eq_zero hml)
    have HL : Hid (firstL L [l] = L) := by unfold firstL; rw [if_neg hL]; rfl
    have hq2 : ((m : Int) == 0) = false := by simp; omega
    clear hF hT hbel hi
    go_enter Tryd.func75, Tryd.ntmps75
    go_wp2
    go_ret2
    exact ⟨F, m, d, rfl, by rw [HL.out]; exact HF.out, Below.refl _ _⟩
set_option maxRecDepth 100000 in
set_option maxHeartbeats 8000000 in
theorem f75_step (hb : IsFull n b) (hs : Beds w0 B n cb b) (hn7 : n ≤ 7) (k : Nat) (l : List Nat) (hl : l.length + (k + 1) = n) (hln : ∀ i, i < l.length → l.getD i 0 < n)
    (ih : ∀ c, c < n → TrC n b w0 B cb k (l ++ [c])) : TrC n b w0 B cb (k + 1) l := by
  intro L A F c m d w hbel hi hnil hF
  have HS := Lib.hid (hs.below hbel)
  have HBW := Lib.hid hbel
  have HI := Lib.hid hi
  have HFF := Lib.hid hF
  have HIH := Lib.hid ih
  have HLN := Lib.hid hln
  have HNIL := Lib.hid hnil
  have HROW : Hid (∀ i, i < n → (b.getD i []).length = n) := hb.shape.2
  have HLO : Hid (∀ i j, i < n → j < n → 0 ≤ gAt b i j ∧ gAt b i j < n) := fun i j h1 h2 => hb.lo i j h1 h2
  have HOK : Hid (∀ x, x < n → rokT b l x l.length = okT b l x) := fun x hx => rokT_ok hb (by omega) hx hln
  have HSUC : Hid (trF b n (k + 1) l = trTo b n k l n) := rfl
  have HTC : Hid (∀ x, trTo b n k l (x + 1) = trTo b n k l x ++ trC b n k l x) := trTo_succ b n k l
  have HTD : Hid (∀ x, trC b n k l x = if okT b l x = true then trF b n k (l ++ [x]) else []) := fun x => rfl
  have HMANY : Hid (∀ x, x ≤ n → (trTo b n k l x).length ≤ 1000000) := fun x hx => by
    obtain ⟨t, ht⟩ := trTo_pre (b := b) (n := n) (k := k) (l := l) hx
    have h1 := trF_len b n (k + 1) l
    have h2 : n ^ (k + 1) ≤ 7 ^ 7 := Nat.le_trans (Nat.pow_le_pow_left hn7 _) (Nat.pow_le_pow_right (by decide) (by omega))
    have h3 : 7 ^ 7 = 823543 := by decide
    rw [HSUC.out, ht, List.length_append] at h1
    omega
  have HROK : Hid (∀ x R, rokT b l x (R + 1) = (rokT b l x R && (decide (l.getD R 0 ≠ x) && decide (gAt b R (l.getD R 0) ≠ gAt b l.length x)))) := fun x R => rokT_succ b l x R
  have HR0 : Hid (∀ x, rokT b l x 0 = true) := fun x => rfl
  have HZL : Hid ((zs l).length = l.length) := zs_len l
  obtain ⟨r, hr⟩ : ∃ z, z = l.length := ⟨_, rfl⟩
  have HR := Lib.hid hr
  rw [← hr] at hl hi hnil HI HROK HOK HZL HNIL ⊢
  have hrn : r < n := by omega
  have hq : ((r : Int) == (n : Int)) = false := by simp; omega
  have r0 : (0 : Int) ≤ (r : Int) := by omega
  have rn : (r : Int) < (n : Int) := by omega
  clear hb hs hbel hi hnil hF hln ih hr
  go_enter Tryd.func75, Tryd.ntmps75
  go_wp2
  go_loopw [11, 10, 2] (fun ci mi fi wr => ∃ (x M : Nat) (F' : Option Addr) (m' d' : Nat), x ≤ n ∧ ci = .int .i64 (x : Int) ∧ M = (trTo b n k l x).length ∧ mi = .int .i64 (M : Int) ∧ fi = .slice F' m' d' ∧ Beds wr F' m' d' (firstL L (trTo b n k l x)) ∧ Below w.heap.size w wr) (fun ci _ _ _ => n - (intOf ci).toNat)
  case atStart => exact ⟨0, 0, F, m, d, by omega, rfl, rfl, rfl, rfl, by rw [trTo_zero, firstL_nil]; exact HFF.out, Below.refl _ _⟩
  case round => as_aux_lemma =>
    obtain ⟨x, M, F', m', d', hx, rfl, hM, rfl, rfl, hF, hbel⟩ := hrel
    have HF := Lib.hid hF
    have HB := Lib.hid hbel
    have HM := Lib.hid hM
    by_cases hxn : x < n
    · have x0 : (0 : Int) ≤ (x : Int) := by omega
      have xn : (x : Int) < (n : Int) := by omega
      clear hF hbel hM
      go_wp2
      go_loopw [13, 12] (fun ii oi wi => ∃ i : Nat, i ≤ r ∧ ii = .int .i64 (i : Int) ∧ oi = .bool (rokT b l x i) ∧ ∃ q, wi = wr.drewN q) (fun ii _ _ => r - (intOf ii).toNat)
      case atStart => exact ⟨0, by omega, rfl, by rw [HR0.out], 0, rfl⟩
      case round => as_aux_lemma =>
        obtain ⟨i, hir, rfl, rfl, q, rfl⟩ := hrel
        by_cases hi : i < r
        · have HN := Lib.hid (HROK.out x i)
          have hxi := HLN.out i (by have := HR.out; omega)
          obtain ⟨a1, o1, rfl, hc1⟩ := (HI.out.below HB.out).at_ hi
          rw [zs_get] at hc1
          obtain ⟨g2, o2, eB, B2, d2, hc2, _, _, hi2⟩ := (HS.out.below HB.out).at_ (show i < n by omega)
          obtain ⟨g3, o3, eB3, B3, d3, hc3, _, _, hi3⟩ := (HS.out.below HB.out).at_ hrn
          rw [eB] at eB3
          injection eB3 with eB3
          injection eB3 with e1 e2
          subst e1 e2
          rw [HROW.out i (by omega)] at hc2 hi2
          rw [HROW.out r hrn] at hc3 hi3
          obtain ⟨g4, o4, rfl, hc4⟩ := hi2.at_ hxi
          obtain ⟨g5, o5, rfl, hc5⟩ := hi3.at_ hxn
          have hg4 : (b.getD i []).getD (l.getD i 0) 0 = gAt b i (l.getD i 0) := rfl
          have hg5 : (b.getD r []).getD x 0 = gAt b r x := rfl
          rw [hg4] at hc4
          rw [hg5] at hc5
          subst eB
          generalize gAt b i (l.getD i 0) = u at *
          generalize gAt b r x = v at *
          generalize l.getD i 0 = y at *
          have i0 : (0 : Int) ≤ (i : Int) := by omega
          have ir : (i : Int) < (r : Int) := by omega
          have inn : (i : Int) < (n : Int) := by omega
          have y0 : (0 : Int) ≤ (y : Int) := by omega
          have yn : (y : Int) < (n : Int) := by omega
          clear hi2 hi3
          cases hf : rokT b l x i
          · rw [hf, Bool.false_and] at HN
            have HN' := Lib.hid HN.out
            clear hf HN
            go_wp2
            go_quiet (fail)
            go_wp2
            go_roundw
            case rel => exact ⟨i + 1, by omega, by go_num, by rw [HN'.out], by first | exact ⟨_, rfl⟩ | exact ⟨_, World.drewN_drewN _ _ _⟩⟩
            case measure => simp [intOf]; omega
          · rw [hf, Bool.true_and] at HN
            clear hf
            by_cases h1 : y = x
            · have hq1 : ((y : Int) != (x : Int)) = false := by simp; omega
              have HN' : Hid (rokT b l x (i + 1) = false) := Lib.hid (by rw [HN.out, decide_eq_false (by simpa using h1), Bool.false_and])
              clear HN h1
              go_wp2
              go_quiet (fail)
              go_wp2
              go_roundw
              case rel => exact ⟨i + 1, by omega, by go_num, by rw [HN'.out], by first | exact ⟨_, rfl⟩ | exact ⟨_, World.drewN_drewN _ _ _⟩⟩
              case measure => simp [intOf]; omega
            · have hq1 : ((y : Int) != (x : Int)) = true := by simp; omega
              have HN' : Hid (rokT b l x (i + 1) = (u != v)) := Lib.hid (by
                rw [HN.out, decide_eq_true (by simpa using h1), Bool.true_and]
                by_cases h2 : u = v
                · simp [h2]
                · simp [h2])
              clear HN h1
              go_wp2
              go_quiet (fail)
              go_wp2
              go_roundw
              case rel => exact ⟨i + 1, by omega, by go_num, by rw [HN'.out], by first | exact ⟨_, rfl⟩ | exact ⟨_, World.drewN_drewN _ _ _⟩⟩
              case measure => simp [intOf]; omega
        · obtain rfl : i = r := by omega
          have HOKx := HOK.out x hxn
          cases hok : okT b l x
          · rw [hok] at HOKx
            rw [HOKx]
            have HE : Hid (trTo b n k l (x + 1) = trTo b n k l x) := Lib.hid (by rw [HTC.out, HTD.out, hok]; simp)
            clear hok
            go_wp2
            go_roundw
            case rel => exact ⟨x + 1, M, F', m', d', by omega, by go_num, by rw [HE.out]; exact HM.out, rfl, rfl, by rw [HE.out]; exact HF.out.drewN q, below_drewN HB.out q⟩
            case measure => simp [intOf]; omega
          · rw [hok] at HOKx
            rw [HOKx]
            obtain ⟨N, hN⟩ : ∃ z, z = (trF b n k (l ++ [x])).length := ⟨_, rfl⟩
            have HE : Hid (trTo b n k l (x + 1) = trTo b n k l x ++ trF b n k (l ++ [x])) := Lib.hid (by rw [HTC.out, HTD.out, hok]; rfl)
            have hMN : M + N ≤ 1000000 := by
              have h1 := HMANY.out (x + 1) (by omega)
              rw [HE.out, List.length_append, ← HM.out, ← hN] at h1
              exact h1
            obtain ⟨wq, hwq⟩ : ∃ z, z = wr.drewN q := ⟨_, rfl⟩
            have HFq : Hid (Beds wq F' m' d' (firstL L (trTo b n k l x))) := Lib.hid (by rw [hwq]; exact HF.out.drewN q)
            have HBq : Hid (Below w.heap.size w wq) := Lib.hid (by rw [hwq]; exact below_drewN HB.out q)
            have HIq := Lib.hid (HI.out.below HBq.out)
            have IH := Lib.hid (HIH.out x hxn)
            rw [← hwq]
            clear hok hwq
            go_wp2_with (at_builtin; refine wpList_pushAll rfl (.tmp 72) (.tmp 73) rfl wq.heap.size (.slice none 0 0) [] rfl (Row.nil _ _) A i c (zs l) rfl ?hn ?hi ?hl ?hb ?hr)
            case hn => exact HNIL.out
            case hi => exact HIq.out
            case hl => simp; omega
            case hb => exact Nat.le_refl _
            case hr =>
              intro v1 w1 hr1 hg1
              have hb1 : Below wq.heap.size wq w1 := below_of_none hg1
              have HR1 : Hid (Row w1 wq.heap.size v1 (zs l)) := hr1
              have HB1 := Lib.hid hb1
              have HNEW : Hid (Own (w1.alloc (.cells #[.int .i64 (x : Int)] 3)) w1.heap.size [(x : Int)]) := heap_alloc_new w1 _
              clear hr1 hg1 hb1
              go_wp2_with (at_builtin; refine wpList_pushAll rfl (.tmp 77) (.tmp 79) rfl wq.heap.size v1 (zs l) rfl (HR1.out.alloc _) (some ⟨w1.heap.size, 0, none⟩) 1 1 [(x : Int)] rfl ?hn ?hi ?hl ?hb ?hr)
              case hn => exact fun h => by cases h
              case hi => exact HNEW.out.ints' rfl (by omega)
              case hl => rw [HZL.out]; omega
              case hb => exact (HB1.out.alloc HB1.out.size _).size
              case hr =>
                intro v2 w2 hr2 hg2
                have hb2 : Below wq.heap.size wq w2 := below_grown (HB1.out.alloc HB1.out.size _) hg2 (HB1.out.alloc HB1.out.size _).size (HR1.out.alloc _) (Nat.le_refl _)
                have ez : zs l ++ [(x : Int)] = zs (l ++ [x]) := (zs_app l [x]).symm
                rw [ez] at hr2
                have el : (l ++ [x]).length = i + 1 := by rw [List.length_append, HR.out]; rfl
                have ezl : (zs (l ++ [x])).length = i + 1 := by rw [zs_len]; exact el
                obtain ⟨A2, c2, rfl, hi2, hc2⟩ := hr2.form3 (by omega)
                rw [ezl] at hi2 hc2
                have hA2 : A2 = none → (i + 1 : Nat) = 0 ∧ c2 = 0 := fun e => by
                  obtain ⟨_, _, e3, _⟩ := hi2.at_ (show 0 < i + 1 by omega)
                  rw [e] at e3; cases e3
                have K75 := IH.out (firstL L (trTo b n k l x)) A2 F' c2 m' d' w2 ((HBW.out.trans (HBq.out.mono HBW.out.size)).trans (hb2.mono (by have := HBW.out.size; have := HBq.out.size; omega))) (by rw [el]; exact hi2) (by rw [el]; exact hA2) (HFq.out.below hb2)
                rw [el, ← firstL_app, ← HE.out, ← hN] at K75
                have K75 := Lib.hid K75
                have HB2 := Lib.hid hb2
                have HM2 : Hid (M + N = (trTo b n k l (x + 1)).length) := Lib.hid (by rw [HE.out, List.length_append, ← HM.out, ← hN])
                rw [ezl]
                clear hr2 hg2 hi2 hb2 ez hN
                go_wp2_with fail
                refine K75.out.mono ?_
                rintro e w3 ⟨F3, m3, d3, rfl, h1, h2⟩
                have HF3 := Lib.hid h1
                have HB3 : Hid (Below w.heap.size w w3) := Lib.hid ((HBq.out.trans (HB2.out.mono HBq.out.size)).trans (h2.mono (by have := HBq.out.size; have := HB2.out.size; omega)))
                clear h1 h2
                go_wp2
                go_roundw
                case rel => exact ⟨x + 1, M + N, F3, m3, d3, by omega, by go_num, HM2.out, by go_num, rfl, HF3.out, HB3.out⟩
                case measure => simp [intOf]; omega
    · obtain rfl : x = n := by omega
      have HT : Hid (trF b x (k + 1) l = trTo b x k l x) := HSUC.out
      clear hF hbel hM
      go_wp2
      go_ret2
      exact ⟨F', m', d', by rw [HT.out, ← HM.out]; rfl, by rw [HT.out]; exact HF.out, HB.out⟩
/-- dibberref01.transversals -/
theorem f75_any (hb : IsFull n b) (hs : Beds w0 B n cb b) (hn7 : n ≤ 7) : ∀ (k : Nat) (l : List Nat), l.length + k = n → (∀ i, i < l.length → l.getD i 0 < n) → TrC n b w0 B cb k l
  | 0, l, h, _ => f75_end n b w0 B cb hn7 l (by omega)
  | k + 1, l, h, hl => f75_step n b w0 B cb hb hs hn7 k l h hl fun c hc => f75_any hb hs hn7 k (l ++ [c]) (by simp; omega) (fun i hi => by
      rw [List.length_append, List.length_singleton] at hi
      rcases Nat.lt_or_ge i l.length with h3 | h3
      · rw [getD_app1 h3]; exact hl i h3
      · obtain rfl : i = l.length := by omega
        rw [getD_app2]; exact hc)
end
end Go.Proofs.YtiodednhadnekaaDoor

namespace Go.Proofs.YtiodednhadnekaaDoor
open Go.RowKit Go.Deep
attribute [local go_sem ↓] Go.wp_at_zero Go.wp_at_succ

theorem firstL_tv (T : List (List Nat)) : firstL [] T = (T.take 1).map zs := rfl
set_option maxHeartbeats 4000000 in
/-- dibberref01.Transversal -/
theorem f28_any (A : Option Addr) (n c : Nat) (b : List (List Int)) (w : World) (hs : Beds w A n c b) :
    Calls Tryd.prog 28 #[.slice A n c] w fun e w' => ∃ A' c', e = .returned (.tuple #[.slice A' (tvL b).length c', .int .i64 (tvE b)]) ∧ Ints w' A' (tvL b).length (tvL b) ∧ Below w.heap.size w w' := by
  have K21 := Lib.hid (f21_any A n c b w hs)
  cases hf : fullB b
  · rw [hf] at K21
    have HE : Hid (tvL b = [] ∧ tvE b = 2) := by unfold tvL tvE; rw [hf]; exact ⟨rfl, rfl⟩
    clear hs hf
    go_enter Tryd.func28, Tryd.ntmps28
    go_wp2_with fail
    refine K21.out.mono ?_
    rintro e w1 ⟨rfl, rfl⟩
    go_wp2
    go_ret2
    exact ⟨none, 0, by rw [HE.out.1, HE.out.2]; rfl, by rw [HE.out.1]; exact Ints.nil _ _, Below.refl _ _⟩
  · rw [hf] at K21
    obtain ⟨hn1, hn7, hfull⟩ := fullB_iff.1 hf
    have hbl := hs.len
    rw [hbl] at hn1 hn7 hfull
    have HE : Hid (tvL b = zs ((trans b n).headD []) ∧ tvE b = if trans b n = [] then 10 else 0) := by unfold tvL tvE; rw [hf, hbl]; exact ⟨rfl, rfl⟩
    have K75 := f75_any n b w A c hfull hs hn7 n [] (by simp) (fun i hi => by simp at hi) [] none none 0 0 0 w (Below.refl _ _) (Ints.nil _ _) (fun _ => ⟨rfl, rfl⟩) (Beds.nil w)
    have hT : trF b n n [] = trans b n := rfl
    rw [hT, firstL_tv] at K75
    have HMEM : Hid (∀ l ∈ trans b n, l.length = n) := fun l hl => (trans_mem l hl).1
    generalize trans b n = T at *
    generalize (T.length : Int) = many at K75
    have K75 := Lib.hid K75
    cases T with
    | nil =>
      have HE2 : Hid (tvL b = [] ∧ tvE b = 10) := ⟨HE.out.1, HE.out.2⟩
      clear hs hf hfull HE hT
      go_enter Tryd.func28, Tryd.ntmps28
      go_wp2_with fail
      refine K21.out.mono ?_
      rintro e w1 ⟨rfl, rfl⟩
      go_wp2_with fail
      refine K75.out.mono ?_
      rintro e w2 ⟨F, m, d, rfl, hF, hb⟩
      have hm : m = 0 := hF.1.symm
      subst hm
      have HB := Lib.hid hb
      clear hF hb
      go_wp2
      go_ret2
      exact ⟨none, 0, by rw [HE2.out.1, HE2.out.2]; rfl, by rw [HE2.out.1]; exact Ints.nil _ _, HB.out⟩
    | cons t T =>
      have HE2 : Hid (tvL b = zs t ∧ tvE b = 0) := ⟨HE.out.1, HE.out.2⟩
      have htl : t.length = n := HMEM.out t (List.mem_cons_self ..)
      have hzl : (zs t).length = n := by rw [zs_len]; exact htl
      clear hs hf hfull HE hT
      go_enter Tryd.func28, Tryd.ntmps28
      go_wp2_with fail
      refine K21.out.mono ?_
      rintro e w1 ⟨rfl, rfl⟩
      go_wp2_with fail
      refine K75.out.mono ?_
      rintro e w2 ⟨F, m, d, rfl, hF, hb⟩
      have hF : Beds w2 F m d [zs t] := hF
      have hm : m = 1 := hF.1.symm
      subst hm
      obtain ⟨g, o, rfl, B2, d2, hc2, _, _, hi2⟩ := hF.at_ (show 0 < 1 by omega)
      have e2 : ([zs t] : List (List Int)).getD 0 [] = zs t := rfl
      rw [e2] at hc2 hi2
      rw [Nat.add_zero] at hc2
      have HB := Lib.hid hb
      have HI := Lib.hid hi2
      clear hF hb hi2
      go_wp2
      go_ret2
      exact ⟨B2, d2, by rw [HE2.out.1, HE2.out.2, hzl]; rfl, by rw [HE2.out.1]; exact HI.out, HB.out⟩
set_option maxHeartbeats 4000000 in
/-- dibberref01.Transversals -/
theorem f31_any (A : Option Addr) (n c : Nat) (b : List (List Int)) (w : World) (hs : Beds w A n c b) :
    Calls Tryd.prog 31 #[.slice A n c] w fun e w' => e = .returned (.tuple #[.int .i64 (trN b), .int .i64 (trE b)]) ∧ Below w.heap.size w w' := by
  have K21 := Lib.hid (f21_any A n c b w hs)
  cases hf : fullB b
  · rw [hf] at K21
    have HE : Hid (trN b = 0 ∧ trE b = 2) := by unfold trN trE; rw [hf]; exact ⟨rfl, rfl⟩
    clear hs hf
    go_enter Tryd.func31, Tryd.ntmps31
    go_wp2_with fail
    refine K21.out.mono ?_
    rintro e w1 ⟨rfl, rfl⟩
    go_wp2
    go_ret2
    exact ⟨by rw [HE.out.1, HE.out.2]; rfl, Below.refl _ _⟩
  · rw [hf] at K21
    obtain ⟨hn1, hn7, hfull⟩ := fullB_iff.1 hf
    have hbl := hs.len
    rw [hbl] at hn1 hn7 hfull
    have HE : Hid (trN b = ((trans b n).length : Int) ∧ trE b = 0) := by unfold trN trE; rw [hf, hbl]; exact ⟨rfl, rfl⟩
    have K75 := f75_any n b w A c hfull hs hn7 n [] (by simp) (fun i hi => by simp at hi) [] none none 0 0 0 w (Below.refl _ _) (Ints.nil _ _) (fun _ => ⟨rfl, rfl⟩) (Beds.nil w)
    have hT : trF b n n [] = trans b n := rfl
    rw [hT] at K75
    generalize trans b n = T at *
    generalize (T.length : Int) = many at *
    have K75 := Lib.hid K75
    clear hs hf hfull hT
    go_enter Tryd.func31, Tryd.ntmps31
    go_wp2_with fail
    refine K21.out.mono ?_
    rintro e w1 ⟨rfl, rfl⟩
    go_wp2_with fail
    refine K75.out.mono ?_
    rintro e w2 ⟨F, m, d, rfl, hF, hb⟩
    have HB := Lib.hid hb
    clear hF hb
    go_wp2
    go_ret2
    exact ⟨by rw [HE.out.1, HE.out.2]; rfl, HB.out⟩
set_option maxRecDepth 100000 in
set_option maxHeartbeats 8000000 in
/-- dibberlaw01.BedTransversals -/
theorem f6_any (A : Option Addr) (n c : Nat) (b : List (List Int)) (w : World) (hs : CameB w A n c b) (ht : Tab w) :
    Calls Tryd.prog 6 #[.slice A n c] w fun e w' => e = .returned (.bool true) ∧ Below w.heap.size w w' := by
  have K16 := Lib.hid (f16_any A c n (b.map List.length) w hs.1)
  have HT := Lib.hid ht
  cases hf : fewB (b.map List.length)
  · rw [hf] at K16
    have K17 := Lib.hid (f17_any w ht)
    clear hs hf ht
    go_enter Tryd.func6, Tryd.ntmps6
    go_wp2_with fail
    refine K16.out.mono ?_
    rintro e w1 ⟨rfl, rfl⟩
    go_wp2_with fail
    refine K17.out.mono ?_
    rintro e w2 ⟨rfl, hb⟩
    have HB := Lib.hid hb
    clear hb
    go_wp2
    go_ret
    exact ⟨rfl, HB.out⟩
  · rw [hf] at K16
    have hB := hs.beds hf
    have HB := Lib.hid hB
    have K27 := Lib.hid (f27_any A n c b w hB)
    have h3 : (tvE b == tvE b) = true := by simp
    have h3n : (tvE b != tvE b) = false := by simp
    have h4 : (trN b == trN b) = true := by simp
    have h5 : (trE b == trE b) = true := by simp
    clear hs hf ht hB
    go_enter Tryd.func6, Tryd.ntmps6
    go_wp2_with fail
    refine K16.out.mono ?_
    rintro e w1 ⟨rfl, rfl⟩
    go_wp2_with fail
    refine K27.out.mono ?_
    rintro e w2 ⟨A2, c2, rfl, hi2, hb2⟩
    have O2 := Lib.hid hi2
    have B2 := Lib.hid hb2
    clear hi2 hb2 K27 K16
    go_wp2_with fail
    refine (f28_any A n c b w2 (HB.out.below B2.out)).mono ?_
    rintro e w3 ⟨A3, c3, rfl, hi3, hb3⟩
    have K29 := f29_any A2 A3 (tvL b).length c2 (tvL b).length c3 (tvL b) (tvL b) w3 (O2.out.below hb3) hi3
    rw [show decide (tvL b = tvL b) = true from decide_eq_true rfl] at K29
    have K29 := Lib.hid K29
    have B3 := Lib.hid (below_step B2.out hb3)
    clear hi3 hb3 O2 B2
    generalize (tvL b).length = len at *
    generalize tvE b = x3 at *
    go_wp2_with fail
    refine K29.out.mono ?_
    rintro e w4 ⟨rfl, k, rfl⟩
    obtain ⟨w5, hw5⟩ : ∃ z, z = w3.drewN k := ⟨_, rfl⟩
    rw [← hw5]
    have B5 : Hid (Below w.heap.size w w5) := Lib.hid (by rw [hw5]; exact below_drewN B3.out k)
    clear hw5 B3 K29
    go_wp2_with fail
    refine (f30_any A n c b w5 (HB.out.below B5.out)).mono ?_
    rintro e w6 ⟨rfl, hb6⟩
    have B6 := Lib.hid (below_step B5.out hb6)
    clear hb6 B5
    go_wp2_with fail
    refine (f31_any A n c b w6 (HB.out.below B6.out)).mono ?_
    rintro e w7 ⟨rfl, hb7⟩
    have B7 := Lib.hid (below_step B6.out hb7)
    clear hb7 B6
    generalize trN b = x4 at *
    generalize trE b = x5 at *
    clear HB
    go_wp2_with fail
    refine (f17_any w7 (HT.out.below B7.out)).mono ?_
    rintro e w8 ⟨rfl, hb8⟩
    have B8 := Lib.hid (below_step B7.out hb8)
    clear hb8
    go_wp2
    go_ret
    exact ⟨rfl, B8.out⟩
end Go.Proofs.YtiodednhadnekaaDoor

namespace Go.Proofs.YtiodednhadnekaaDoor
open Go.RowKit Go.Deep
attribute [local go_sem ↓] Go.wp_at_zero Go.wp_at_succ

/-- Rows of rows, all of it above base, no two rows in one block. -/
def BRowA (w : World) (base : Nat) (v : Value) (L : List (List Int)) : Prop := ∃ vs, RowV w base v vs ∧ vs.length = L.length ∧ (∀ (j : Nat) (u : Value), vs[j]? = some u → Row w base u (L.getD j [])) ∧ ∀ (i j : Nat) (u v : Value), i ≠ j → vs[i]? = some u → vs[j]? = some v → Apart u v
theorem BRowA.nil (w : World) (base : Nat) : BRowA w base (.slice none 0 0) [] := ⟨[], RowV.nil w base, rfl, fun j u h => by simp at h, fun i j u v _ h => by simp at h⟩
theorem BRowA.push {w w' : World} {base : Nat} {v : Value} {L : List (List Int)} {vs : List Value} {w1 : World} {u v' : Value} {l : List Int} (h1 : RowV w base v vs) (h2 : vs.length = L.length) (h3 : ∀ (j : Nat) (u : Value), vs[j]? = some u → Row w base u (L.getD j [])) (h4 : ∀ (i j : Nat) (u v : Value), i ≠ j → vs[i]? = some u → vs[j]? = some v → Apart u v) (hb : Below w.heap.size w w1) (hu : Row w1 w.heap.size u l) (hbase : base ≤ w.heap.size) (hg : w1.grownBy w' v.ownBlock) (hr : RowV w' base v' (vs ++ [u])) : BRowA w' base v' (L ++ [l]) := by
  refine ⟨vs ++ [u], hr, by simp [h2], fun j x hx => ?_, fun i j x y hij hx hy => ?_⟩
  · rcases Nat.lt_or_ge j vs.length with hj | hj
    · rw [List.getElem?_append_left hj] at hx
      have e : (L ++ [l]).getD j [] = L.getD j [] := by rw [List.getD_eq_getElem?_getD, List.getElem?_append_left (by omega), ← List.getD_eq_getElem?_getD]
      rw [e]
      exact ((h3 j x hx).below hb).otherV (h1.below hb) hg
    · have hj2 : j = vs.length := by
        rcases Nat.lt_or_ge vs.length j with h | h
        · rw [List.getElem?_eq_none (by simp; omega)] at hx; cases hx
        · omega
      subst hj2
      have hx2 : x = u := by simpa using hx.symm
      have e : (L ++ [l]).getD vs.length [] = l := by rw [h2]; simp [List.getD_eq_getElem?_getD]
      rw [e, hx2]
      exact (hu.mono hbase).otherV (h1.below hb) hg
  · have key : ∀ k z, vs[k]? = some z → Apart z u := fun k z hz b hb1 hb2 => by
      have a1 := (World.ownsRow.lt (h3 k z hz) b hb1).2
      have a2 := (World.ownsRow.lt hu b hb2).1
      omega
    have hat : ∀ k z, (vs ++ [u])[k]? = some z → (k < vs.length ∧ vs[k]? = some z) ∨ (k = vs.length ∧ z = u) := fun k z hz => by
      rcases Nat.lt_or_ge k vs.length with hk | hk
      · rw [List.getElem?_append_left hk] at hz; exact .inl ⟨hk, hz⟩
      · have hk2 : k = vs.length := by
          rcases Nat.lt_or_ge vs.length k with h | h
          · rw [List.getElem?_eq_none (by simp; omega)] at hz; cases hz
          · omega
        subst hk2
        exact .inr ⟨rfl, by simpa using hz.symm⟩
    rcases hat i x hx with ⟨hi, hx1⟩ | ⟨hi, e1⟩
    · rcases hat j y hy with ⟨hj, hy1⟩ | ⟨hj, e2⟩
      · exact h4 i j x y hij hx1 hy1
      · rw [e2]; exact key i x hx1
    · rcases hat j y hy with ⟨hj, hy1⟩ | ⟨hj, e2⟩
      · rw [e1]; exact (key j y hy1).symm
      · omega
set_option maxRecDepth 100000 in
set_option maxHeartbeats 8000000 in
/-- dibberref01.Copied: rows of its own -/
theorem f24_own (A : Option Addr) (n c : Nat) (b : List (List Int)) (w : World) (hs : Beds w A n c b) (hrow : ∀ j, (b.getD j []).length ≤ 1000) (hn : n ≤ 1000) :
    Calls Tryd.prog 24 #[.slice A n c] w fun e w' => ∃ v, e = .returned v ∧ BRowA w' w.heap.size v b ∧ Below w.heap.size w w' := by
  have HS := Lib.hid hs
  have hbl := hs.len
  have HR := Lib.hid hrow
  clear hs hrow
  go_enter Tryd.func24, Tryd.ntmps24
  go_wp2
  go_loopw [4, 3] (fun i u wr => ∃ (r : Nat) (v : Value), r ≤ n ∧ i = .int .i64 (r : Int) ∧ v = u ∧ BRowA wr w.heap.size v (b.take r) ∧ Below w.heap.size w wr) (fun i _ _ => n - (intOf i).toNat)
  case atStart => exact ⟨0, _, by omega, rfl, rfl, BRowA.nil _ _, Below.refl _ _⟩
  case round => as_aux_lemma =>
    obtain ⟨r, v, hr, rfl, rfl, hbr, hbel⟩ := hrel
    by_cases hlt : r < n
    · obtain ⟨vs, hv1, hv2, hv3, hv4⟩ := hbr
      obtain ⟨g, o, rfl, B, d, hc, hld, hBn, hi⟩ := (HS.out.below hbel).at_ hlt
      have HN : Hid (b.take (r + 1) = b.take r ++ [b.getD r []]) := take_next [] (by omega)
      have hrl := HR.out r
      have HSZ : Hid (w.heap.size ≤ wr.heap.size) := hbel.size
      have HBL := Lib.hid hbel
      have hvl : Hid (vs.length ≤ 1000000) := by
        show vs.length ≤ 1000000
        rw [hv2, List.length_take]; omega
      have HV := Lib.hid hv1
      have HP := Lib.hid (fun (w1 w' : World) (u v' : Value) (hb : Below wr.heap.size wr w1) (hu : Row w1 wr.heap.size u (b.getD r [])) (hg : w1.grownBy w' v.ownBlock) (hr : RowV w' w.heap.size v' (vs ++ [u])) => BRowA.push hv1 hv2 hv3 hv4 hb hu hbel.size hg hr)
      obtain ⟨L, hL⟩ : ∃ z, z = b.getD r [] := ⟨_, rfl⟩
      rw [← hL] at HN hrl HP hc hld hBn hi
      have r0 : (0 : Int) ≤ (r : Int) := by omega
      have rn : (r : Int) < (n : Int) := by omega
      clear hv1 hv2 hv3 hv4 hbel hL
      go_wp2_with (at_builtin; refine wpList_pushAll rfl (.tmp 13) (.tmp 17) rfl wr.heap.size (.slice none 0 0) [] rfl (Row.nil _ _) B L.length d L rfl ?hn ?hi ?hl ?hb ?hr)
      case hn => exact hBn
      case hi => exact hi
      case hl => simp; omega
      case hb => exact Nat.le_refl _
      case hr =>
        intro v1 w1 hr1 hg1
        have hb1 : Below wr.heap.size wr w1 := below_of_none hg1
        obtain ⟨A1, c1, rfl, _⟩ := hr1.form3 (by omega)
        have HR1 := Lib.hid hr1
        have HB1 := Lib.hid hb1
        have HBA := Lib.hid (hb1.alloc hb1.size (.cells #[.slice A1 L.length c1] 29))
        have hcn := cell_new w1 #[.slice A1 L.length c1] 29 0
        clear hr1 hg1 hb1
        go_wp2_with (at_builtin; refine wpList_pushV rfl (.tmp 12) (.tmp 19) rfl w.heap.size v vs rfl (HV.out.below HBA.out) w1.heap.size 1 A1 L.length c1 rfl hcn hvl.out ?hb ?hr)
        case hb => exact Nat.le_trans HSZ.out HBA.out.size
        case hr =>
          intro v2 w2 hr2 hg2 _
          have HB2 := Lib.hid (HP.out _ _ _ _ HBA.out (HR1.out.below (below_alloc w1 _)) hg2 hr2)
          have HBL2 := Lib.hid (below_grownV (HBL.out.trans (HBA.out.mono HSZ.out)) hg2 (Nat.le_trans HSZ.out HBA.out.size) (HV.out.below HBA.out) (Nat.le_refl _))
          clear hr2 hg2 hcn
          go_wp2
          go_roundw
          case rel => exact ⟨r + 1, _, by omega, by go_num, rfl, by rw [HN.out]; exact HB2.out, HBL2.out⟩
          case measure => simp [intOf]; omega
    · obtain rfl : r = n := by omega
      rw [List.take_of_length_le (by omega)] at hbr
      have HN := Lib.hid hbr
      have HB := Lib.hid hbel
      obtain ⟨vs, hv1, _⟩ := hbr
      obtain ⟨A2, c2, hv2, _⟩ := hv1.form
      generalize vs.length = len at hv2
      subst hv2
      clear hv1 hbel
      go_wp2
      go_ret
      exact ⟨_, rfl, HN.out, HB.out⟩
/-- A bed in memory that may be written. -/
structure GridM (w : World) (gO : Nat) (gr cr : Nat → Nat) (n : Nat) (b : List (List Int)) : Prop where
  hdr : ∀ r, r < n → w.cell? ⟨gO, r, none⟩ = some (.slice (some ⟨gr r, 0, none⟩) n (cr r))
  val : ∀ r c, r < n → c < n → w.cell? ⟨gr r, c, none⟩ = some (.int .i64 (gAt b r c))
  blk : ∀ r, r < n → ∃ cs, w.heap[gr r]? = some (.cells cs 3 (0, 0))
  inj : ∀ r s, r < n → s < n → gr r = gr s → r = s
  cap : ∀ r, r < n → n ≤ cr r
section
variable {w w' : World} {gO n : Nat} {gr cr : Nat → Nat} {b : List (List Int)}
theorem GridM.ne (h : GridM w gO gr cr n b) {r : Nat} (hr : r < n) : gr r ≠ gO := fun e => by
  have h1 := h.val r 0 hr (by omega)
  have h2 := h.hdr 0 (by omega)
  rw [e, h2] at h1
  cases h1
theorem GridM.frozen (h : GridM w gO gr cr n b) {r : Nat} (hr : r < n) (c : Nat) : w.frozen? ⟨gr r, c, none⟩ = false := by
  obtain ⟨cs, e⟩ := h.blk r hr
  simp [World.frozen?, e]
theorem GridM.below (h : GridM w gO gr cr n b) (hb : Below w.heap.size w w') : GridM w' gO gr cr n b :=
  ⟨fun r hr => (hb.cell (lt_of_cell (h.hdr r hr))).trans (h.hdr r hr), fun r c hr hc => (hb.cell (lt_of_cell (h.val r c hr hc))).trans (h.val r c hr hc),
   fun r hr => by
    obtain ⟨cs, e⟩ := h.blk r hr
    exact ⟨cs, (hb.block _ (lt_of_cell (h.val r 0 hr (by omega)))).trans e⟩, h.inj, h.cap⟩
theorem GridM.drewN (h : GridM w gO gr cr n b) (q : Nat) : GridM (w.drewN q) gO gr cr n b := ⟨h.hdr, h.val, h.blk, h.inj, h.cap⟩
/-- A number is put. -/
theorem GridM.set_ (h : GridM w gO gr cr n b) (hs : sqShape n b) {r c : Nat} (hr : r < n) (hc : c < n) (x : Int) : GridM (w.setCell ⟨gr r, c, none⟩ (.int .i64 x)) gO gr cr n (gset b r c x) := by
  refine ⟨fun i hi => (World.cell?_setCell_other w ⟨gr r, c, none⟩ ⟨gO, i, none⟩ _ (fun e => h.ne hr (by injection e))).trans (h.hdr i hi), fun i j hi hj => ?_, fun i hi => ?_, h.inj, h.cap⟩
  · rw [gAt_gset hs hr hc]
    by_cases e : i = r ∧ j = c
    · rw [if_pos e, e.1, e.2]
      exact World.cell?_setCell_same w ⟨gr r, c, none⟩ _ (h.val r c hr hc)
    · rw [if_neg e]
      refine (World.cell?_setCell_other w ⟨gr r, c, none⟩ ⟨gr i, j, none⟩ _ (fun e2 => e ?_)).trans (h.val i j hi hj)
      injection e2 with e3 e4
      exact ⟨(h.inj r i hr hi e3).symm, e4.symm⟩
  · obtain ⟨cs, e⟩ := h.blk i hi
    by_cases e2 : i = r
    · subst e2
      exact ⟨cs.setIfInBounds c (.int .i64 x), by simp [World.setCell, Array.getElem?_modify, e]⟩
    · exact ⟨cs, (Below.heap_setCell w ⟨gr r, c, none⟩ _ (gr i) (fun e3 => e2 (h.inj i r hi hr e3))).trans e⟩
theorem GridM.beds (h : GridM w gO gr cr n b) (hs : sqShape n b) {cO : Nat} (hn : n ≤ 7) (hc : n ≤ cO) : Beds w (some ⟨gO, 0, none⟩) n cO b :=
  ⟨hs.1, by omega, hc, fun e => (by cases e), fun _ => ⟨gO, 0, rfl, fun j hj => ⟨some ⟨gr j, 0, none⟩, cr j, by
    rw [Nat.zero_add, hs.2 j hj]
    exact ⟨h.hdr j hj, h.cap j hj, (fun e => by cases e), ⟨hs.2 j hj, by omega, fun _ => ⟨gr j, 0, rfl, fun c hc => by rw [Nat.zero_add]; exact h.val j c hj hc⟩⟩⟩⟩⟩⟩
/-- The blocks of its rows. -/
def OwnG (n : Nat) (gr : Nat → Nat) (i : Nat) : Prop := ∃ r, r < n ∧ i = gr r
theorem GridM.turned (h : Kept (fun _ i => OwnG n gr i) w w') {r : Nat} (hr : r < n) (c : Nat) (v : Value) : Kept (fun _ i => OwnG n gr i) w (w'.setCell ⟨gr r, c, none⟩ v) :=
  h.trans ⟨rfl, rfl, rfl, by simp [World.setCell], fun i _ hn => Below.heap_setCell w' ⟨gr r, c, none⟩ _ i (fun e => hn ⟨r, hr, e⟩), fun _ _ h => h⟩
end
/-- What was copied may be written. -/
theorem BRowA.grid {w : World} {base n : Nat} {v : Value} {b : List (List Int)} (h : BRowA w base v b) (hs : sqShape n b) (hn : 0 < n) (hn7 : n ≤ 7) : ∃ gO gr cr c, v = .slice (some ⟨gO, 0, none⟩) n c ∧ GridM w gO gr cr n b ∧ n ≤ c ∧ base ≤ gO ∧ ∀ r, r < n → base ≤ gr r := by
  obtain ⟨vs, h1, h2, h3, h4⟩ := h
  have hvl : vs.length = n := h2.trans hs.1
  rcases h1.2 with ⟨_, hn0⟩ | ⟨gO, cap, cur, e, hb, hh, hc, _, _, ht⟩
  · omega
  rw [hvl] at e hc ht
  have hrow : ∀ r, r < n → ∃ g c, vs[r]? = some (.slice (some ⟨g, 0, none⟩) n c) ∧ n ≤ c ∧ base ≤ g ∧ (∃ cs, w.heap[g]? = some (.cells cs 3 (0, 0))) ∧ ∀ j, j < n → w.cell? ⟨g, j, none⟩ = some (.int .i64 (gAt b r j)) := fun r hr => by
    have hv := List.getElem?_eq_getElem (show r < vs.length by omega)
    have hrr := h3 r _ hv
    obtain ⟨A, c, eA, hI, hcc⟩ := hrr.form3 (by rw [hs.2 r hr]; omega)
    rw [hs.2 r hr] at eA hI hcc
    rcases hrr.2 with ⟨_, h0⟩ | ⟨g, cap2, cur2, e2, hb2, hh2, _⟩
    · rw [hs.2 r hr] at h0; omega
    · rw [eA] at e2
      injection e2 with e3 _ e5
      subst e3 e5
      refine ⟨g, c, by rw [hv, eA], hcc, hb2, ⟨cur2, hh2⟩, fun j hj => ?_⟩
      obtain ⟨b2, o2, e6, hc6⟩ := hI.2.2 hn
      injection e6 with e6
      injection e6 with e7 e8
      subst e7 e8
      have := hc6 j hj
      rw [Nat.zero_add] at this
      exact this
  let gr : Nat → Nat := fun r => if h : r < n then (hrow r h).choose else 0
  let cr : Nat → Nat := fun r => if h : r < n then (hrow r h).choose_spec.choose else 0
  have hsp : ∀ r, r < n → vs[r]? = some (.slice (some ⟨gr r, 0, none⟩) n (cr r)) ∧ n ≤ cr r ∧ base ≤ gr r ∧ (∃ cs, w.heap[gr r]? = some (.cells cs 3 (0, 0))) ∧ ∀ j, j < n → w.cell? ⟨gr r, j, none⟩ = some (.int .i64 (gAt b r j)) := fun r hr => by
    have h := (hrow r hr).choose_spec.choose_spec
    simp only [gr, cr, dif_pos hr]
    exact h
  refine ⟨gO, gr, cr, cap, e, ⟨fun r hr => ?_, fun r c hr hc => (hsp r hr).2.2.2.2 c hc, fun r hr => (hsp r hr).2.2.2.1, fun r s hr hs' e2 => ?_, fun r hr => (hsp r hr).2.1⟩, hc, hb, fun r hr => (hsp r hr).2.2.1⟩
  · rw [cell_of_row w gO r cur 29 (0, 0) hh, ← (hsp r hr).1]
    rw [Nat.mul_one] at ht
    rw [← ht, List.getElem?_take_of_lt hr, Array.getElem?_toList]
  · by_cases h5 : r = s
    · exact h5
    · exfalso
      refine h4 r s _ _ h5 (hsp r hr).1 (hsp s hs').1 (gr r) rfl ?_
      rw [e2]; rfl
end Go.Proofs.YtiodednhadnekaaDoor

namespace Go.Proofs.YtiodednhadnekaaDoor
open Go.RowKit Go.Deep
attribute [local go_sem ↓] Go.wp_at_zero Go.wp_at_succ

set_option maxRecDepth 100000 in
set_option maxHeartbeats 4000000 in
/-- dibberref01.free -/
theorem f52_any (A : Option Addr) (n cb r c x : Nat) (b : List (List Int)) (w : World) (hs : Beds w A n cb b) (hsq : sqShape n b) (hr : r < n) (hc : c < n) :
    Calls Tryd.prog 52 #[.slice A n cb, .int .i64 (r : Int), .int .i64 (c : Int), .int .i64 (x : Int)] w fun e w' => e = .returned (.bool (freeB n b r c x)) ∧ w = w' := by
  have HS := Lib.hid hs
  have hsm := hs.small
  have HROW : Hid (∀ i, i < n → (b.getD i []).length = n) := hsq.2
  have HYES : Hid ((∀ j, j < n → gAt b r j ≠ (x : Int) ∧ gAt b j c ≠ (x : Int)) → freeB n b r c x = true) := fun h => freeB_iff.2 h
  have HNO : Hid (∀ i, i < n → (gAt b r i = (x : Int) ∨ gAt b i c = (x : Int)) → freeB n b r c x = false) := fun i hi h => by
    cases h2 : freeB n b r c x
    · rfl
    · have h3 := (freeB_iff.1 h2) i hi
      rcases h with h | h
      · exact absurd h h3.1
      · exact absurd h h3.2
  have r0 : (0 : Int) ≤ (r : Int) := by omega
  have rn : (r : Int) < (n : Int) := by omega
  have c0 : (0 : Int) ≤ (c : Int) := by omega
  have cn : (c : Int) < (n : Int) := by omega
  clear hs hsq
  go_enter Tryd.func52, Tryd.ntmps52
  go_wp2
  go_loop [9] (fun i => ∃ k : Nat, k ≤ n ∧ i = .int .i64 (k : Int) ∧ Hid (∀ j, j < k → gAt b r j ≠ (x : Int) ∧ gAt b j c ≠ (x : Int))) (fun i => n - (intOf i).toNat)
  case atStart => exact ⟨0, by omega, rfl, fun j hj => absurd hj (by omega)⟩
  case round => as_aux_lemma =>
    obtain ⟨k, hk, rfl, hin⟩ := hrel
    by_cases hkn : k < n
    · obtain ⟨g, o, rfl, B2, d2, hc2, _, _, hi2⟩ := HS.out.at_ hr
      obtain ⟨g3, o3, eB3, B3, d3, hc3, _, _, hi3⟩ := HS.out.at_ hkn
      injection eB3 with eB3
      injection eB3 with e1 e2
      subst e1 e2
      rw [HROW.out r hr] at hc2 hi2
      rw [HROW.out k hkn] at hc3 hi3
      obtain ⟨g4, o4, rfl, hc4⟩ := hi2.at_ hkn
      obtain ⟨g5, o5, rfl, hc5⟩ := hi3.at_ hc
      have hg4 : (b.getD r []).getD k 0 = gAt b r k := rfl
      have hg5 : (b.getD k []).getD c 0 = gAt b k c := rfl
      rw [hg4] at hc4
      rw [hg5] at hc5
      have HN := Lib.hid (HNO.out k hkn)
      have HNX : Hid (gAt b r k ≠ (x : Int) → gAt b k c ≠ (x : Int) → ∀ j, j < k + 1 → gAt b r j ≠ (x : Int) ∧ gAt b j c ≠ (x : Int)) := Lib.hid fun h1 h2 j hj => by
        rcases Nat.lt_or_ge j k with h | h
        · exact hin.out j h
        · obtain rfl : j = k := by omega
          exact ⟨h1, h2⟩
      generalize gAt b r k = u at *
      generalize gAt b k c = v at *
      have k0 : (0 : Int) ≤ (k : Int) := by omega
      have kn : (k : Int) < (n : Int) := by omega
      clear hi2 hi3 hin
      by_cases h1 : u = (x : Int)
      · have hq : (u == (x : Int)) = true := by simpa using h1
        have HE := Lib.hid (HN.out (.inl h1))
        clear h1 HN HNX
        go_wp2
        go_ret
        exact ⟨ret_bool HE.out.symm, rfl⟩
      · have hq : (u == (x : Int)) = false := by simpa using h1
        by_cases h2 : v = (x : Int)
        · have hq2 : (v == (x : Int)) = true := by simpa using h2
          have HE := Lib.hid (HN.out (.inr h2))
          clear h1 h2 HN HNX
          go_wp2
          go_ret
          exact ⟨ret_bool HE.out.symm, rfl⟩
        · have hq2 : (v == (x : Int)) = false := by simpa using h2
          have HE := Lib.hid (HNX.out h1 h2)
          clear h1 h2 HN HNX
          go_wp2
          go_round
          case rel => exact ⟨k + 1, by omega, by go_num, HE.out⟩
          case measure => simp [intOf]; omega
    · obtain rfl : k = n := by omega
      have HE := Lib.hid (HYES.out hin.out)
      clear hin
      go_wp2
      go_ret
      exact ⟨ret_bool HE.out.symm, rfl⟩
def NarI (n : Nat) (b : List (List Int)) (i j : Nat) (R C : Int) (L : Nat) : Prop :=
  (L = n + 1 ∧ R = -1 ∧ C = -1 ∧ ∀ r c, r < n → c < n → (r < i ∨ (r = i ∧ c < j)) → 0 ≤ gAt b r c) ∨ (L ≤ n ∧ ∃ r c : Nat, R = (r : Int) ∧ C = (c : Int) ∧ r < n ∧ c < n ∧ gAt b r c < 0)
theorem NarI.row {n : Nat} {b : List (List Int)} {i : Nat} {R C : Int} {L : Nat} (h : NarI n b i n R C L) : NarI n b (i + 1) 0 R C L := by
  rcases h with ⟨h1, h2, h3, h4⟩ | h
  · exact .inl ⟨h1, h2, h3, fun r c hr hc h => h4 r c hr hc (by omega)⟩
  · exact .inr h
theorem NarI.skip {n : Nat} {b : List (List Int)} {i j : Nat} {R C : Int} {L : Nat} (h : NarI n b i j R C L) (h0 : 0 ≤ gAt b i j) : NarI n b i (j + 1) R C L := by
  rcases h with ⟨h1, h2, h3, h4⟩ | h
  · refine .inl ⟨h1, h2, h3, fun r c hr hc h => ?_⟩
    by_cases e : r = i ∧ c = j
    · rw [e.1, e.2]; exact h0
    · exact h4 r c hr hc (by omega)
  · exact .inr h
theorem NarI.keep {n : Nat} {b : List (List Int)} {i j : Nat} {R C : Int} {L M : Nat} (h : NarI n b i j R C L) (hM : M ≤ n) (hl : ¬ M < L) : NarI n b i (j + 1) R C L := by
  rcases h with ⟨h1, _⟩ | h
  · omega
  · exact .inr h
/-- What can is shown to do. -/
def CanG (gO : Nat) (gr cr : Nat → Nat) (n cO : Nat) (b : List (List Int)) : Prop := ∀ w : World, GridM w gO gr cr n b → Calls Tryd.prog 51 #[.slice (some ⟨gO, 0, none⟩) n cO] w fun e w' => e = .returned (.bool (canB n b)) ∧ Kept (fun _ i => OwnG n gr i) w w' ∧ GridM w' gO gr cr n b
set_option maxRecDepth 100000 in
set_option maxHeartbeats 8000000 in
theorem f51_step (gO : Nat) (gr cr : Nat → Nat) (n cO : Nat) (hn : n ≤ 7) (hcO : n ≤ cO) (b : List (List Int)) (hb : IsBed n b) (ih : ∀ r c x, r < n → c < n → gAt b r c < 0 → x ∈ crops n b r c → CanG gO gr cr n cO (gset b r c (x : Nat))) : CanG gO gr cr n cO b := by
  intro w hg
  have HG := Lib.hid hg
  have HB := Lib.hid hb
  have IH := Lib.hid ih
  have HROW : Hid (∀ i, i < n → (b.getD i []).length = n) := hb.shape.2
  have HBEDS := Lib.hid (hg.beds hb.shape hn hcO)
  have K52 : Hid (∀ r c x, r < n → c < n → Calls Tryd.prog 52 #[.slice (some ⟨gO, 0, none⟩) n cO, .int .i64 ((r : Nat) : Int), .int .i64 ((c : Nat) : Int), .int .i64 ((x : Nat) : Int)] w fun e w' => e = .returned (.bool (freeB n b r c x)) ∧ w = w') := Lib.hid fun r c x hr hc => f52_any _ n cO r c x b w HBEDS.out hb.shape hr hc
  clear hg hb ih
  go_enter Tryd.func51, Tryd.ntmps51
  go_wp2
  go_loop [7, 4, 5, 6] (fun i R C L => ∃ (i' L' : Nat) (R' C' : Int), i' ≤ n ∧ L' ≤ n + 1 ∧ i = .int .i64 (i' : Int) ∧ R = .int .i64 R' ∧ C = .int .i64 C' ∧ L = .int .i64 (L' : Int) ∧ Hid (NarI n b i' 0 R' C' L')) (fun i _ _ _ => n - (intOf i).toNat)
  case atStart => exact ⟨0, n + 1, -1, -1, by omega, by omega, rfl, rfl, rfl, by go_num, .inl ⟨rfl, rfl, rfl, fun r c _ _ h => by omega⟩⟩
  case round => as_aux_lemma =>
    obtain ⟨i, L, R, C, hi, hL, rfl, rfl, rfl, rfl, hst⟩ := hrel
    by_cases hin : i < n
    · have i0 : (0 : Int) ≤ (i : Int) := by omega
      have inn : (i : Int) < (n : Int) := by omega
      go_wp2
      go_loop [8, 4, 5, 6] (fun j R C L => ∃ (j' L' : Nat) (R' C' : Int), j' ≤ n ∧ L' ≤ n + 1 ∧ j = .int .i64 (j' : Int) ∧ R = .int .i64 R' ∧ C = .int .i64 C' ∧ L = .int .i64 (L' : Int) ∧ Hid (NarI n b i j' R' C' L')) (fun j _ _ _ => n - (intOf j).toNat)
      case atStart => exact ⟨0, L, R, C, by omega, hL, rfl, rfl, rfl, rfl, hst⟩
      case round => as_aux_lemma =>
        obtain ⟨j, L, R, C, hj, hL, rfl, rfl, rfl, rfl, hst⟩ := hrel
        by_cases hjn : j < n
        · have j0 : (0 : Int) ≤ (j : Int) := by omega
          have jn : (j : Int) < (n : Int) := by omega
          have c1 := HG.out.hdr i hin
          have c2 := HG.out.val i j hin hjn
          have HK := Lib.hid (fun x => K52.out i j x hin hjn)
          by_cases h0 : 0 ≤ gAt b i j
          · have HE := Lib.hid (hst.out.skip h0)
            generalize gAt b i j = u at *
            clear hst
            go_wp2
            go_round
            case rel => exact ⟨j + 1, L, R, C, by omega, hL, by go_num, rfl, rfl, rfl, HE.out⟩
            case measure => simp [intOf]; omega
          · have HHIT : Hid (∀ M : Nat, M ≤ n → NarI n b i (j + 1) (i : Int) (j : Int) M) := Lib.hid fun M hM => .inr ⟨hM, i, j, rfl, rfl, hin, hjn, by omega⟩
            have HKEEP : Hid (∀ M : Nat, M ≤ n → ¬ M < L → NarI n b i (j + 1) R C L) := Lib.hid fun M hM h => hst.out.keep hM h
            generalize gAt b i j = u at *
            clear hst
            go_wp2
            go_loop [10, 9] (fun x m => ∃ (x' m' : Nat), x' ≤ n ∧ m' ≤ x' ∧ x = .int .i64 (x' : Int) ∧ m = .int .i64 (m' : Int)) (fun x _ => n - (intOf x).toNat)
            case atStart => exact ⟨0, 0, by omega, by omega, rfl, rfl⟩
            case round => as_aux_lemma =>
              obtain ⟨x, m, hx, hm, rfl, rfl⟩ := hrel
              by_cases hxn : x < n
              · have x0 : (0 : Int) ≤ (x : Int) := by omega
                have xn : (x : Int) < (n : Int) := by omega
                have K := HK.out x
                cases hfr : freeB n b i j x
                · rw [hfr] at K
                  have K := Lib.hid K
                  clear hfr
                  go_wp2_with fail
                  refine K.out.mono ?_
                  rintro e w' ⟨rfl, rfl⟩
                  go_wp2
                  go_round
                  case rel => exact ⟨x + 1, m, by omega, by omega, by go_num, rfl⟩
                  case measure => simp [intOf]; omega
                · rw [hfr] at K
                  have K := Lib.hid K
                  clear hfr
                  go_wp2_with fail
                  refine K.out.mono ?_
                  rintro e w' ⟨rfl, rfl⟩
                  go_wp2
                  go_round
                  case rel => exact ⟨x + 1, m + 1, by omega, by omega, by go_num, by go_num⟩
                  case measure => simp [intOf]; omega
              · obtain rfl : x = n := by omega
                by_cases hml : m < L
                · have HE := Lib.hid (HHIT.out m (by omega))
                  go_wp2
                  go_round
                  case rel => exact ⟨j + 1, m, (i : Int), (j : Int), by omega, by omega, by go_num, rfl, rfl, rfl, HE.out⟩
                  case measure => simp [intOf]; omega
                · have HE := Lib.hid (HKEEP.out m (by omega) hml)
                  go_wp2
                  go_round
                  case rel => exact ⟨j + 1, L, R, C, by omega, hL, by go_num, rfl, rfl, rfl, HE.out⟩
                  case measure => simp [intOf]; omega
        · obtain rfl : j = n := by omega
          have HE := Lib.hid hst.out.row
          clear hst
          go_wp2
          go_round
          case rel => exact ⟨i + 1, L, R, C, by omega, hL, by go_num, rfl, rfl, rfl, HE.out⟩
          case measure => simp [intOf]; omega
    · obtain rfl : i = n := by omega
      rcases hst.out with ⟨_, rfl, rfl, hall⟩ | ⟨_, r, c, rfl, rfl, hr, hc, h0⟩
      · have HE : Hid (canB i b = true) := Lib.hid (can_full HB.out fun r c hr hc => hall r c hr hc (.inl hr))
        clear hall hst
        go_wp2
        go_ret
        exact ⟨ret_bool HE.out.symm, Kept.refl _ _, HG.out⟩
      · have HH0 := Lib.hid h0
        have r0 : (0 : Int) ≤ (r : Int) := by omega
        have rn : (r : Int) < (i : Int) := by omega
        have c0 : (0 : Int) ≤ (c : Int) := by omega
        have cn : (c : Int) < (i : Int) := by omega
        have HBACK : Hid (∀ x : Int, gset (gset b r c x) r c (-1) = b) := Lib.hid fun x => by
          have h1 := (HB.out.lo r c hr hc).1
          have e : gAt b r c = -1 := by have := HH0.out; omega
          rw [gset_gset HB.out.shape hr hc, ← e, gset_same HB.out.shape hr hc]
        clear hst K52 HBEDS h0
        go_wp2
        go_loopw [11] (fun x wr => ∃ x' : Nat, x' ≤ i ∧ x = .int .i64 (x' : Int) ∧ Hid (∀ y, y < x' → y ∈ crops i b r c → canB i (gset b r c (y : Nat)) = false) ∧ Kept (fun _ j => OwnG i gr j) w wr ∧ GridM wr gO gr cr i b) (fun x _ => i - (intOf x).toNat)
        case atStart => exact ⟨0, by omega, rfl, fun y hy => absurd hy (by omega), Kept.refl _ _, HG.out⟩
        case round => as_aux_lemma =>
          obtain ⟨x, hx, rfl, hno, hk, hg⟩ := hrel
          have HK := Lib.hid hk
          have HGr := Lib.hid hg
          by_cases hxn : x < i
          · have K52 := f52_any _ i cO r c x b wr (hg.beds HB.out.shape hn hcO) HB.out.shape hr hc
            have x0 : (0 : Int) ≤ (x : Int) := by omega
            have xn : (x : Int) < (i : Int) := by omega
            cases hfr : freeB i b r c x
            · have HN : Hid (∀ y, y < x + 1 → y ∈ crops i b r c → canB i (gset b r c (y : Nat)) = false) := Lib.hid fun y hy hm => by
                rcases Nat.lt_or_ge y x with h | h
                · exact hno.out y h hm
                · obtain rfl : y = x := by omega
                  have := freeB_iff.2 (mem_crops.1 hm).2
                  rw [hfr] at this; cases this
              rw [hfr] at K52
              have K52 := Lib.hid K52
              clear hno hk hg hfr
              go_wp2_with fail
              refine K52.out.mono ?_
              rintro e w' ⟨rfl, rfl⟩
              go_wp2
              go_roundw
              case rel => exact ⟨x + 1, by omega, by go_num, HN.out, HK.out, HGr.out⟩
              case measure => simp [intOf]; omega
            · have hmem : x ∈ crops i b r c := mem_crops.2 ⟨hxn, freeB_iff.1 hfr⟩
              have HN : Hid (canB i (gset b r c (x : Nat)) = false → ∀ y, y < x + 1 → y ∈ crops i b r c → canB i (gset b r c (y : Nat)) = false) := Lib.hid fun hf y hy hm => by
                rcases Nat.lt_or_ge y x with h | h
                · exact hno.out y h hm
                · obtain rfl : y = x := by omega
                  exact hf
              have HHIT : Hid (canB i (gset b r c (x : Nat)) = true → canB i b = true) := Lib.hid fun h => can_hit HB.out hr hc HH0.out hxn h
              rw [hfr] at K52
              have K52 := Lib.hid K52
              have c1 := hg.hdr r hr
              have c2 := hg.val r c hr hc
              have f2 := hg.frozen hr c
              have G2 := Lib.hid (hg.set_ HB.out.shape hr hc (x : Int))
              have KK2 := Lib.hid (GridM.turned hk hr c (.int .i64 (x : Int)))
              have K51 := Lib.hid (IH.out r c x hr hc HH0.out hmem _ G2.out)
              have HSH := Lib.hid (gset_shape HB.out.shape r c (x : Int))
              clear hno hk hg hfr hmem
              go_wp2_with fail
              refine K52.out.mono ?_
              rintro e w' ⟨rfl, rfl⟩
              go_wp2_with fail
              refine K51.out.mono ?_
              rintro e w3 ⟨rfl, hk3, hg3⟩
              have c3 := hg3.hdr r hr
              have c4 := hg3.val r c hr hc
              have f4 := hg3.frozen hr c
              have G4 : Hid (GridM (w3.setCell ⟨gr r, c, none⟩ (.int .i64 (-1))) gO gr cr i b) := Lib.hid (by
                have h := hg3.set_ HSH.out hr hc (-1)
                rw [HBACK.out] at h
                exact h)
              have K4 := Lib.hid (GridM.turned (KK2.out.trans hk3) hr c (.int .i64 (-1)))
              cases hcan : canB i (gset b r c (x : Nat))
              · have HE := Lib.hid (HN.out hcan)
                clear hk3 hg3 hcan HN HHIT
                go_wp2
                go_roundw
                case rel => exact ⟨x + 1, by omega, by go_num, HE.out, K4.out, G4.out⟩
                case measure => simp [intOf]; omega
              · have HE := Lib.hid (HHIT.out hcan)
                clear hk3 hg3 hcan HN HHIT
                go_wp2
                go_ret
                exact ⟨ret_bool HE.out.symm, K4.out, G4.out⟩
          · obtain rfl : x = i := by omega
            have HE : Hid (canB x b = false) := Lib.hid (can_miss HB.out hr hc HH0.out fun y hy => hno.out y (mem_crops.1 hy).1 hy)
            clear hno hk hg
            go_wp2
            go_ret
            exact ⟨ret_bool HE.out.symm, HK.out, HGr.out⟩
/-- dibberref01.can -/
theorem f51_any (gO : Nat) (gr cr : Nat → Nat) (n cO : Nat) (hn : n ≤ 7) (hcO : n ≤ cO) (b : List (List Int)) (hb : IsBed n b) : CanG gO gr cr n cO b := by
  have key : ∀ k b, empt n b < k → IsBed n b → CanG gO gr cr n cO b := by
    intro k
    induction k with
    | zero => intro b h; omega
    | succ k ih =>
      intro b hk hb
      refine f51_step gO gr cr n cO hn hcO b hb fun r c x hr hc h0 hx => ih _ ?_ ?_
      · have := empt_put hb.shape hr hc h0 (x := (x : Int)) (by omega)
        omega
      · obtain ⟨h1, h2⟩ := mem_crops.1 hx
        exact hb.put hr hc (by omega) (by omega) h2
  exact key _ b (Nat.lt_succ_self _) hb
end Go.Proofs.YtiodednhadnekaaDoor

namespace Go.Proofs.YtiodednhadnekaaDoor
open Go.RowKit Go.Deep
attribute [local go_sem ↓] Go.wp_at_zero Go.wp_at_succ

theorem crops_at {n : Nat} {b : List (List Int)} {r c x : Nat} (hx : x < n) (hf : freeB n b r c x = true) : ∃ suf, crops n b r c = (List.range x).filter (freeB n b r c) ++ x :: suf := by
  have e : n = x + ((n - x - 1) + 1) := by omega
  have h1 : List.range n = List.range x ++ (List.range ((n - x - 1) + 1)).map (x + ·) := by
    conv => lhs; rw [e]
    exact List.range_add
  unfold crops
  rw [h1, List.filter_append, List.range_succ_eq_map]
  simp only [List.map_cons, Nat.add_zero]
  rw [List.filter_cons, if_pos hf]
  exact ⟨_, rfl⟩
theorem fillStep_at {n : Nat} {b : List (List Int)} {r c x : Nat} (h0 : gAt b r c < 0) (hx : x < n) (hf : freeB n b r c x = true) (hno : ∀ y, y < x → y ∈ crops n b r c → canB n (gset b r c (y : Nat)) = false) (hcan : canB n (gset b r c (x : Nat)) = true) : fillStep n b r c = gset b r c (x : Nat) := by
  obtain ⟨suf, hs⟩ := crops_at hx hf
  refine fillStep_hit h0 hs (fun y hy => ?_) hcan
  obtain ⟨h1, h2⟩ := List.mem_filter.1 hy
  have h3 := List.mem_range.1 h1
  exact hno y h3 (List.mem_filter.2 ⟨List.mem_range.2 (by omega), h2⟩)
theorem fillRow_succ (n : Nat) (b : List (List Int)) (r c : Nat) : fillRow n b r (c + 1) = fillStep n (fillRow n b r c) r c := rfl
theorem fillTo_succ (n : Nat) (b : List (List Int)) (r : Nat) : fillTo n b (r + 1) = fillRow n (fillTo n b r) r n := rfl
/-- How the place (r, c) stands when the crops below x were tried. -/
def FillS (gO : Nat) (gr cr : Nat → Nat) (n : Nat) (b : List (List Int)) (r c x : Nat) (w : World) : Prop :=
  (GridM w gO gr cr n b ∧ gAt b r c < 0 ∧ ∀ y, y < x → y ∈ crops n b r c → canB n (gset b r c (y : Nat)) = false) ∨ (GridM w gO gr cr n (fillStep n b r c) ∧ 0 ≤ gAt (fillStep n b r c) r c)
set_option maxRecDepth 100000 in
set_option maxHeartbeats 8000000 in
/-- dibberref01.Fill -/
theorem f18_any (A : Option Addr) (n c : Nat) (b : List (List Int)) (w : World) (hs : Beds w A n c b) (hrow : ∀ j, (b.getD j []).length ≤ 1000) (hn1000 : n ≤ 1000) :
    Calls Tryd.prog 18 #[.slice A n c] w fun e w' => ∃ A' k c', e = .returned (.tuple #[.slice A' k c', .int .i64 (fillE b)]) ∧ Beds w' A' k c' (fillL b) ∧ Below w.heap.size w w' := by
  have K37 := Lib.hid (f37_any A n c b w hs)
  have hbl := hs.len
  cases hbed : bedB b
  · rw [hbed] at K37
    have HE : Hid (fillE b = 2 ∧ fillL b = []) := by unfold fillE fillL; rw [hbed]; exact ⟨rfl, rfl⟩
    clear hs hbed
    go_enter Tryd.func18, Tryd.ntmps18
    go_wp2_with fail
    refine K37.out.mono ?_
    rintro e w1 ⟨rfl, rfl⟩
    go_wp2
    go_ret2
    exact ⟨none, 0, 0, by rw [HE.out.1]; rfl, by rw [HE.out.2]; exact Beds.nil _, Below.refl _ _⟩
  · rw [hbed] at K37
    obtain ⟨hn1, hn7, hB⟩ := find_bed hbed hbl
    have HB := Lib.hid hB
    have HE : Hid (fillE b = (if canB n b = true then 0 else 10) ∧ fillL b = if canB n b = true then fillTo n b n else []) := by unfold fillE fillL; rw [hbed, hbl]; exact ⟨rfl, rfl⟩
    have K24 := Lib.hid (f24_own A n c b w hs hrow hn1000)
    clear hs hbed hrow hB
    go_enter Tryd.func18, Tryd.ntmps18
    go_wp2_with fail
    refine K37.out.mono ?_
    rintro e w1 ⟨rfl, rfl⟩
    go_wp2_with fail
    refine K24.out.mono ?_
    rintro e w2 ⟨v, rfl, hv, hb2⟩
    obtain ⟨gO, gr, cr, cO, rfl, hg, hcO, hbO, hbr⟩ := hv.grid HB.out.shape hn1 hn7
    have HB2 := Lib.hid hb2
    have HG := Lib.hid hg
    have HBR : Hid (∀ i, OwnG n gr i → w.heap.size ≤ i) := Lib.hid fun i ⟨r, hr, e⟩ => by rw [e]; exact hbr r hr
    have K51 := Lib.hid (f51_any gO gr cr n cO hn7 hcO b HB.out w2 hg)
    clear hv hb2 hg hbO hbr K24 K37
    cases hcan : canB n b
    · rw [hcan] at K51 HE
      have HE2 : Hid (fillE b = 10 ∧ fillL b = []) := HE.out
      clear hcan HE
      go_wp2_with fail
      refine K51.out.mono ?_
      rintro e w3 ⟨rfl, hk3, hg3⟩
      have B3 := Lib.hid (hk3.below HB2.out HB2.out.size HBR.out)
      clear hk3 hg3
      go_wp2
      go_ret2
      exact ⟨none, 0, 0, by rw [HE2.out.1]; rfl, by rw [HE2.out.2]; exact Beds.nil _, B3.out⟩
    · rw [hcan] at K51 HE
      have HE2 : Hid (fillE b = 0 ∧ fillL b = fillTo n b n) := HE.out
      clear hcan HE
      go_wp2_with fail
      refine K51.out.mono ?_
      rintro e w3 ⟨rfl, hk3, hg3⟩
      have K3 := Lib.hid hk3
      have G3 := Lib.hid hg3
      clear hk3 hg3 K51
      go_wp2
      go_loopw [5] (fun ri wr => ∃ r : Nat, r ≤ n ∧ ri = .int .i64 (r : Int) ∧ Kept (fun _ i => OwnG n gr i) w2 wr ∧ GridM wr gO gr cr n (fillTo n b r)) (fun ri _ => n - (intOf ri).toNat)
      case atStart => exact ⟨0, by omega, rfl, K3.out, G3.out⟩
      case round => as_aux_lemma =>
        obtain ⟨r, hr, rfl, hk, hg⟩ := hrel
        have HK := Lib.hid hk
        have HGr := Lib.hid hg
        by_cases hrn : r < n
        · have HBr := Lib.hid (fillTo_bed HB.out (r := r) (by omega))
          have HSU := Lib.hid (fillTo_succ n b r)
          generalize fillTo n b r = br at *
          have r0 : (0 : Int) ≤ (r : Int) := by omega
          have rn : (r : Int) < (n : Int) := by omega
          clear hk hg
          go_wp2
          go_loopw [6] (fun ci wc => ∃ c : Nat, c ≤ n ∧ ci = .int .i64 (c : Int) ∧ Kept (fun _ i => OwnG n gr i) w2 wc ∧ GridM wc gO gr cr n (fillRow n br r c)) (fun ci _ => n - (intOf ci).toNat)
          case atStart => exact ⟨0, by omega, rfl, HK.out, HGr.out⟩
          case round => as_aux_lemma =>
            obtain ⟨c, hc, rfl, hk, hg⟩ := hrel
            have HK := Lib.hid hk
            have HGr := Lib.hid hg
            by_cases hcn : c < n
            · have HBc := Lib.hid (fillRow_bed HBr.out hrn (c := c) (by omega))
              have HSU2 := Lib.hid (fillRow_succ n br r c)
              generalize fillRow n br r c = bc at *
              have c0 : (0 : Int) ≤ (c : Int) := by omega
              have cn : (c : Int) < (n : Int) := by omega
              have ST : Hid (FillS gO gr cr n bc r c 0 wr) := Lib.hid (by
                by_cases h : gAt bc r c < 0
                · exact .inl ⟨HGr.out, h, fun y hy => absurd hy (by omega)⟩
                · exact .inr ⟨by rw [fillStep_keep (by omega)]; exact HGr.out, by rw [fillStep_keep (by omega)]; omega⟩)
              clear hk hg
              go_wp2
              go_loopw [7] (fun xi wx => ∃ x : Nat, x ≤ n ∧ xi = .int .i64 (x : Int) ∧ Kept (fun _ i => OwnG n gr i) w2 wx ∧ FillS gO gr cr n bc r c x wx) (fun xi _ => n - (intOf xi).toNat)
              case atStart => exact ⟨0, by omega, rfl, HK.out, ST.out⟩
              case round => as_aux_lemma =>
                obtain ⟨x, hx, rfl, hk, hst⟩ := hrel
                have HK := Lib.hid hk
                by_cases hxn : x < n
                · have x0 : (0 : Int) ≤ (x : Int) := by omega
                  have xn : (x : Int) < (n : Int) := by omega
                  rcases hst with ⟨hg, h0, hno⟩ | ⟨hg, h0⟩
                  · have HGr := Lib.hid hg
                    have HH0 := Lib.hid h0
                    have hd0 : decide (gAt bc r c < 0) = true := decide_eq_true h0
                    have K52 := f52_any _ n cO r c x bc wr (hg.beds HBc.out.shape hn7 hcO) HBc.out.shape hrn hcn
                    have c1 := hg.hdr r hrn
                    have c2 := hg.val r c hrn hcn
                    have f2 := hg.frozen hrn c
                    have HBACK : Hid (∀ x : Int, gset (gset bc r c x) r c (-1) = bc) := Lib.hid fun x => by
                      have h1 := (HBc.out.lo r c hrn hcn).1
                      have e : gAt bc r c = -1 := by omega
                      rw [gset_gset HBc.out.shape hrn hcn, ← e, gset_same HBc.out.shape hrn hcn]
                    have HAT : Hid (freeB n bc r c x = true → canB n (gset bc r c (x : Nat)) = true → fillStep n bc r c = gset bc r c (x : Nat)) := Lib.hid fun h1 h2 => fillStep_at h0 hxn h1 hno h2
                    have HN : Hid ((x ∈ crops n bc r c → canB n (gset bc r c (x : Nat)) = false) → ∀ y, y < x + 1 → y ∈ crops n bc r c → canB n (gset bc r c (y : Nat)) = false) := Lib.hid fun hf y hy hm => by
                      rcases Nat.lt_or_ge y x with h | h
                      · exact hno y h hm
                      · obtain rfl : y = x := by omega
                        exact hf hm
                    cases hfr : freeB n bc r c x
                    · have HE := Lib.hid (HN.out fun hm => by
                        have := freeB_iff.2 (mem_crops.1 hm).2
                        rw [hfr] at this; cases this)
                      rw [hfr] at K52
                      have K52 := Lib.hid K52
                      obtain ⟨u, hu⟩ : ∃ u, u = gAt bc r c := ⟨_, rfl⟩
                      rw [← hu] at c2 hd0
                      clear hk hg h0 hno hfr HN HAT f2 hu
                      go_wp2_with fail
                      refine K52.out.mono ?_
                      rintro e w' ⟨rfl, rfl⟩
                      go_wp2
                      go_roundw
                      case rel => exact ⟨x + 1, by omega, by go_num, HK.out, .inl ⟨HGr.out, HH0.out, HE.out⟩⟩
                      case measure => simp [intOf]; omega
                    · have hput : IsBed n (gset bc r c (x : Nat)) := HBc.out.put hrn hcn (by omega) (by omega) (freeB_iff.1 hfr)
                      have G2 := Lib.hid (hg.set_ HBc.out.shape hrn hcn (x : Int))
                      have KK2 := Lib.hid (GridM.turned hk hrn c (.int .i64 (x : Int)))
                      have K51 := Lib.hid (f51_any gO gr cr n cO hn7 hcO _ hput _ G2.out)
                      have HPUT := Lib.hid hput
                      have HGV : Hid (gAt (gset bc r c (x : Nat)) r c = (x : Int)) := Lib.hid (by rw [gAt_gset HBc.out.shape hrn hcn, if_pos ⟨rfl, rfl⟩])
                      rw [hfr] at K52
                      have K52 := Lib.hid K52
                      have HHF := Lib.hid hfr
                      obtain ⟨u, hu⟩ : ∃ u, u = gAt bc r c := ⟨_, rfl⟩
                      rw [← hu] at c2 hd0
                      clear hk hg h0 hno hfr hput hu
                      go_wp2_with fail
                      refine K52.out.mono ?_
                      rintro e w' ⟨rfl, rfl⟩
                      go_wp2_with fail
                      refine K51.out.mono ?_
                      rintro e w4 ⟨rfl, hk4, hg4⟩
                      have c3 := hg4.hdr r hrn
                      have c4 := hg4.val r c hrn hcn
                      have f4 := hg4.frozen hrn c
                      have G4 := Lib.hid hg4
                      have K4 := Lib.hid (KK2.out.trans hk4)
                      cases hcan : canB n (gset bc r c (x : Nat))
                      · have HE := Lib.hid (HN.out fun _ => hcan)
                        have G5 : Hid (GridM (w4.setCell ⟨gr r, c, none⟩ (.int .i64 (-1))) gO gr cr n bc) := Lib.hid (by
                          have h := hg4.set_ HPUT.out.shape hrn hcn (-1)
                          rw [HBACK.out] at h
                          exact h)
                        have K5 := Lib.hid (GridM.turned K4.out hrn c (.int .i64 (-1)))
                        clear hk4 hg4 hcan HN HAT
                        go_wp2
                        go_roundw
                        case rel => exact ⟨x + 1, by omega, by go_num, K5.out, .inl ⟨G5.out, HH0.out, HE.out⟩⟩
                        case measure => simp [intOf]; omega
                      · have HE := Lib.hid (HAT.out HHF.out hcan)
                        clear hk4 hg4 hcan HN HAT
                        go_wp2
                        go_roundw
                        case rel => exact ⟨x + 1, by omega, by go_num, K4.out, .inr ⟨by rw [HE.out]; exact G4.out, by rw [HE.out, HGV.out]; omega⟩⟩
                        case measure => simp [intOf]; omega
                  · have c1 := hg.hdr r hrn
                    have c2 := hg.val r c hrn hcn
                    have hd0 : decide (gAt (fillStep n bc r c) r c < 0) = false := decide_eq_false (by omega)
                    have HN : Hid (GridM wr gO gr cr n (fillRow n br r (c + 1))) := Lib.hid (by rw [HSU2.out]; exact hg)
                    generalize gAt (fillStep n bc r c) r c = u at *
                    clear hk hg h0
                    go_wp2
                    go_roundw
                    case rel => exact ⟨c + 1, by omega, by go_num, HK.out, HN.out⟩
                    case measure => simp [intOf]; omega
                · obtain rfl : x = n := by omega
                  have HN : Hid (GridM wr gO gr cr x (fillRow x br r (c + 1))) := Lib.hid (by
                    rw [HSU2.out]
                    rcases hst with ⟨hg, h0, hno⟩ | ⟨hg, h0⟩
                    · rw [fillStep_miss fun y hy => hno y (mem_crops.1 hy).1 hy]; exact hg
                    · exact hg)
                  clear hk hst
                  go_wp2
                  go_roundw
                  case rel => exact ⟨c + 1, by omega, by go_num, HK.out, HN.out⟩
                  case measure => simp [intOf]; omega
            · obtain rfl : c = n := by omega
              have HN : Hid (GridM wr gO gr cr c (fillTo c b (r + 1))) := Lib.hid (by rw [HSU.out]; exact hg)
              clear hk hg
              go_wp2
              go_roundw
              case rel => exact ⟨r + 1, by omega, by go_num, HK.out, HN.out⟩
              case measure => simp [intOf]; omega
        · obtain rfl : r = n := by omega
          have HN : Hid (Beds wr (some ⟨gO, 0, none⟩) r cO (fillTo r b r)) := Lib.hid (hg.beds (fillTo_bed HB.out (Nat.le_refl _)).shape hn7 hcO)
          have B3 := Lib.hid (hk.below HB2.out HB2.out.size HBR.out)
          clear hk hg
          go_wp2
          go_ret2
          exact ⟨_, _, _, by rw [HE2.out.1]; rfl, by rw [HE2.out.2]; exact HN.out, B3.out⟩
end Go.Proofs.YtiodednhadnekaaDoor

namespace Go.Proofs.YtiodednhadnekaaDoor
open Go.RowKit Go.Deep
attribute [local go_sem ↓] Go.wp_at_zero Go.wp_at_succ

/-- Rows of new memory of which the first number may be written. -/
def XI (base k : Nat) (A : Option Addr) (w : World) : Prop := ∀ i, i < k → ∃ g o, A = some ⟨g, o, none⟩ ∧ ∃ g' m d, w.cell? ⟨g, o + i, none⟩ = some (.slice (some ⟨g', 0, none⟩) m d) ∧ 0 < m ∧ m ≤ 1000000 ∧ base ≤ g' ∧ (∃ z, w.cell? ⟨g', 0, none⟩ = some (.int .i64 z)) ∧ w.frozen? ⟨g', 0, none⟩ = false
theorem XI.set_ {base k : Nat} {A : Option Addr} {w : World} (h : XI base k A w) {g' : Nat} {z : Int} (hc : w.cell? ⟨g', 0, none⟩ = some (.int .i64 z)) (x : Int) : XI base k A (w.setCell ⟨g', 0, none⟩ (.int .i64 x)) := fun i hi => by
  obtain ⟨g, o, e, g2, m, d, h1, h2, h2', h3, ⟨y, h4⟩, h5⟩ := h i hi
  refine ⟨g, o, e, g2, m, d, ?_, h2, h2', h3, ?_, (World.frozen?_setCell _ _ _ _).trans h5⟩
  · refine (World.cell?_setCell_other w ⟨g', 0, none⟩ ⟨g, o + i, none⟩ _ (fun e2 => ?_)).trans h1
    rw [← e2, hc] at h1
    cases h1
  · by_cases e2 : g' = g2
    · subst e2
      exact ⟨x, World.cell?_setCell_same w ⟨g', 0, none⟩ _ h4⟩
    · exact ⟨y, (World.cell?_setCell_other w ⟨g', 0, none⟩ ⟨g2, 0, none⟩ _ (fun e3 => e2 (by injection e3))).trans h4⟩
theorem BedsN.xi {w : World} {base : Nat} {A : Option Addr} {k c : Nat} {b : List (List Int)} (h : BedsN w base A k c b) (hr : ∀ j, j < k → 0 < (b.getD j []).length ∧ (b.getD j []).length ≤ 1000000) : XI base k A w := fun i hi => by
  obtain ⟨g, o, e, hc⟩ := h.2.2.2.2 (by omega)
  obtain ⟨v, hv, B, d, e2, h2, h3, h4, h5⟩ := hc i hi
  obtain ⟨hr1, hr2⟩ := hr i hi
  obtain ⟨g', eB, hb', hf⟩ := h5 hr1
  subst eB
  rw [e2] at hv
  obtain ⟨b2, o2, e3, hc3⟩ := h4.at_ hr1
  injection e3 with e3
  injection e3 with e4 e5
  subst e4 e5
  exact ⟨g, o, e, g', _, d, hv, hr1, hr2, hb', ⟨_, hc3⟩, hf 0⟩
theorem fillL_rows {b : List (List Int)} : ∀ j, j < (fillL b).length → 0 < ((fillL b).getD j []).length ∧ ((fillL b).getD j []).length ≤ 1000000 := by
  unfold fillL
  split
  · rename_i hb
    split
    · obtain ⟨h1, h2, h3⟩ := bedB_iff.1 hb
      have hs := (fillTo_bed h3 (Nat.le_refl _)).shape
      intro j hj
      rw [hs.1] at hj
      rw [hs.2 j hj]
      omega
    · intro j hj; simp at hj
  · intro j hj; simp at hj
set_option maxRecDepth 100000 in
set_option maxHeartbeats 8000000 in
/-- dibberlaw01.BedFills -/
theorem f3_any (A : Option Addr) (n c : Nat) (b : List (List Int)) (w : World) (hs : CameB w A n c b) (ht : Tab w) :
    Calls Tryd.prog 3 #[.slice A n c] w fun e w' => e = .returned (.bool true) ∧ Below w.heap.size w w' := by
  have K16 := Lib.hid (f16_any A c n (b.map List.length) w hs.1)
  have HT := Lib.hid ht
  cases hf : fewB (b.map List.length)
  · rw [hf] at K16
    have K17 := Lib.hid (f17_any w ht)
    clear hs hf ht
    go_enter Tryd.func3, Tryd.ntmps3
    go_wp2_with fail
    refine K16.out.mono ?_
    rintro e w1 ⟨rfl, rfl⟩
    go_wp2_with fail
    refine K17.out.mono ?_
    rintro e w2 ⟨rfl, hb⟩
    have HB := Lib.hid hb
    clear hb
    go_wp2
    go_ret
    exact ⟨rfl, HB.out⟩
  · rw [hf] at K16
    have hB := hs.beds hf
    have HB := Lib.hid hB
    have hbl := hB.len
    obtain ⟨hl20, hr20⟩ := few_false hf
    have K18 := Lib.hid (f18_any A n c b w hB (fun j => by have := hr20 j; omega) (by omega))
    have HROWS := Lib.hid (fillL_rows (b := b))
    have hq : (fillE b != fillE b) = false := by simp
    clear hs hf ht hB hr20
    go_enter Tryd.func3, Tryd.ntmps3
    go_wp2_with fail
    refine K16.out.mono ?_
    rintro e w1 ⟨rfl, rfl⟩
    go_wp2_with fail
    refine K18.out.mono ?_
    rintro e w2 ⟨A2, k2, c2, rfl, hy, hb2⟩
    have HY := Lib.hid hy
    have HB2 := Lib.hid hb2
    have HT2 := Lib.hid (HT.out.below hb2)
    have HBB := Lib.hid (HB.out.below hb2)
    have hk2 := hy.len
    clear hy hb2 K18 K16
    go_wp2
    go_loopw [5] (fun ti wr => ∃ t : Nat, t ≤ 2 ∧ ti = .int .i64 (t : Int) ∧ Below w2.heap.size w2 wr) (fun ti _ => 2 - (intOf ti).toNat)
    case atStart => exact ⟨0, by omega, rfl, Below.refl _ _⟩
    case round => as_aux_lemma =>
      obtain ⟨t, ht, rfl, hbel⟩ := hrel
      have HBL := Lib.hid hbel
      by_cases htn : t < 2
      · have K19 := Lib.hid (f19_any A n c b wr (HBB.out.below hbel) (HT2.out.below hbel))
        have t2 : (t : Int) < 2 := by omega
        clear hbel
        go_wp2_with fail
        refine K19.out.mono ?_
        rintro e w3 ⟨A3, k3, c3, rfl, hN, hb3⟩
        have hk3 : (fillL b).length = k3 := hN.1
        have hk3s := hN.2.1
        have HXI := Lib.hid ((hN.mono HBL.out.size).xi fun j hj => HROWS.out j (by omega))
        have K20 := f20_any A3 A2 k3 c3 k2 c2 (fillL b) (fillL b) w3 hN.beds ((HY.out.below HBL.out).below hb3)
        rw [show decide (fillL b = fillL b) = true from decide_eq_true rfl] at K20
        have K20 := Lib.hid K20
        have HB3 := Lib.hid hb3
        clear hN hb3 K19
        go_wp2_with fail
        refine K20.out.mono ?_
        rintro e w4 ⟨rfl, q, rfl⟩
        obtain ⟨w5, hw5⟩ : ∃ z, z = w3.drewN q := ⟨_, rfl⟩
        have HX5 : Hid (XI w2.heap.size k3 A3 w5) := Lib.hid (by rw [hw5]; exact HXI.out)
        have HB5 : Hid (Below w2.heap.size w2 w5) := Lib.hid (by rw [hw5]; exact below_drewN (HBL.out.trans (HB3.out.mono HBL.out.size)) q)
        rw [← hw5]
        clear hw5 K20 HXI HB3
        go_wp2
        go_loopw [8] (fun ii wi => ∃ i : Nat, i ≤ k3 ∧ ii = .int .i64 (i : Int) ∧ XI w2.heap.size k3 A3 wi ∧ Below w2.heap.size w2 wi) (fun ii _ => k3 - (intOf ii).toNat)
        case atStart => exact ⟨0, by omega, rfl, HX5.out, HB5.out⟩
        case round => as_aux_lemma =>
          obtain ⟨i, hi, rfl, hx, hbi⟩ := hrel
          have HBI := Lib.hid hbi
          by_cases hin : i < k3
          · obtain ⟨g, o, rfl, g', m, d, h1, h2, h2', h3, ⟨z, h4⟩, h5⟩ := hx i hin
            have HX6 := Lib.hid (hx.set_ h4 (-9))
            have HB6 : Hid (Below w2.heap.size w2 (wr.setCell ⟨g', 0, none⟩ (.int .i64 (-9)))) := Lib.hid (hbi.setCell h3 _)
            have i0 : (0 : Int) ≤ (i : Int) := by omega
            have inn : (i : Int) < (k3 : Int) := by omega
            have m0 : (0 : Int) < (m : Int) := by omega
            clear hx hbi h3
            go_wp2
            go_roundw
            case rel => exact ⟨i + 1, by omega, by go_num, HX6.out, HB6.out⟩
            case measure => simp [intOf]; omega
          · obtain rfl : i = k3 := by omega
            clear hx hbi
            go_wp2
            go_roundw
            case rel => exact ⟨t + 1, by omega, by go_num, HBI.out⟩
            case measure => simp [intOf]; omega
      · obtain rfl : t = 2 := by omega
        have K17 := Lib.hid (f17_any wr (HT2.out.below hbel))
        clear hbel
        go_wp2_with fail
        refine K17.out.mono ?_
        rintro e w6 ⟨rfl, hb6⟩
        have HB6 : Hid (Below w.heap.size w w6) := Lib.hid ((HB2.out.trans (HBL.out.mono HB2.out.size)).trans (hb6.mono (by have := HB2.out.size; have := HBL.out.size; omega)))
        clear hb6
        go_wp2
        go_ret
        exact ⟨rfl, HB6.out⟩
end Go.Proofs.YtiodednhadnekaaDoor

namespace Go.Proofs.YtiodednhadnekaaDoor
open Go.RowKit Go.Deep
attribute [local go_sem ↓] Go.wp_at_zero Go.wp_at_succ
attribute [local go_sem] run_store_func

theorem sumN_list (f : Nat → Nat) : ∀ n, sumN f n = ((List.range n).map f).sum
  | 0 => rfl
  | n + 1 => by rw [sumN, sumN_list f n, List.range_succ, List.map_append, List.sum_append]; simp
theorem sum_filter {f : Nat → Nat} {p : Nat → Bool} : ∀ {l : List Nat}, (∀ x ∈ l, p x = false → f x = 0) → ((l.filter p).map f).sum = (l.map f).sum
  | [], _ => rfl
  | a :: l, h => by
    have ih := sum_filter (f := f) (p := p) (l := l) fun x hx => h x (List.mem_cons_of_mem _ hx)
    rw [List.filter_cons]
    cases hp : p a
    · rw [if_neg (by simp), ih, List.map_cons, List.sum_cons, h a (List.mem_cons_self ..) hp, Nat.zero_add]
    · rw [if_pos rfl, List.map_cons, List.sum_cons, List.map_cons, List.sum_cons, ih]
/-- How many ways there are to go on at an empty place. -/
theorem cnt_crops {n : Nat} {b : List (List Int)} (h : sqShape n b) {r c : Nat} (hr : r < n) (hc : c < n) (h0 : gAt b r c < 0) : cnt n b = ((crops n b r c).map fun x => cnt n (gset b r c (x : Nat))).sum := by
  rw [cnt_branch h hr hc h0, sumN_list]
  unfold crops
  rw [sum_filter]
  intro x _ hx
  refine cnt_notfree h hr hc h0 (by omega) fun hf => ?_
  rw [freeB_iff.2 hf] at hx
  cases hx
theorem cnt_le5 {n : Nat} (hn : n ≤ 5) (b : List (List Int)) : cnt n b ≤ 298023223876953125 := by
  have h1 : cnt n b ≤ (allSq n).length := List.countP_le_length
  have h2 : (allSq n).length ≤ (allL n (allL n (ints n))).length := List.length_filter_le _ _
  rw [len_allL, len_allL] at h2
  have h3 : (ints n).length = n := by simp [ints]
  rw [h3] at h2
  have h4 : n ^ n ≤ 5 ^ 5 := Nat.le_trans (Nat.pow_le_pow_left hn n) (Nat.pow_le_pow_right (by decide) hn)
  have h5 : (n ^ n) ^ n ≤ (5 ^ 5) ^ 5 := Nat.le_trans (Nat.pow_le_pow_left h4 n) (Nat.pow_le_pow_right (by decide) hn)
  have h6 : (5 ^ 5) ^ 5 = 298023223876953125 := by decide
  omega
/-- What Count$1 is shown to do. -/
def CountC (p n pF pC : Nat) (b : List (List Int)) : Prop := ∀ w : World, FilB w p n b → Tab w → w.cell? ⟨pF, 0, none⟩ = some (.pointer (some ⟨p, 0, none⟩)) → w.cell? ⟨pC, 0, none⟩ = some (.func (.func 80) #[] #[.pointer (some ⟨pF, 0, none⟩), .pointer (some ⟨pC, 0, none⟩)]) →
  Calls Tryd.prog 80 #[.pointer (some ⟨pF, 0, none⟩), .pointer (some ⟨pC, 0, none⟩)] w fun e w' => e = .returned (.int .i64 (cnt n b : Int)) ∧ w.grownBy w' (some p) ∧ FilB w' p n b
theorem enter80 (args : Array Value) (w : World) : (callFunc 80 args).run Tryd.prog w = .ok (.enter 80 args) w := by simp [go_sem]
set_option maxRecDepth 100000 in
set_option maxHeartbeats 8000000 in
theorem f80_step (p n pF pC : Nat) (hp : p ≠ 1) (hn5 : n ≤ 5) (b : List (List Int)) (hb : IsBed n b) (ih : ∀ r c x, r < n → c < n → gAt b r c < 0 → x ∈ crops n b r c → CountC p n pF pC (gset b r c (x : Nat))) : CountC p n pF pC b := by
  intro w hf ht cF cC
  have hn : n ≤ 7 := by omega
  have HB := Lib.hid hb
  have IH := Lib.hid ih
  have HT := Lib.hid ht
  have HF := Lib.hid hf
  have hpF : some pF ≠ some p := fun e => by
    injection e with e
    have := hf.n0
    rw [← e, cF] at this; cases this
  have hpC : some pC ≠ some p := fun e => by
    injection e with e
    have := hf.n0
    rw [← e, cC] at this; cases this
  have CC : Hid (∀ w', w.grownBy w' (some p) → w'.cell? ⟨pF, 0, none⟩ = some (.pointer (some ⟨p, 0, none⟩)) ∧ w'.cell? ⟨pC, 0, none⟩ = some (.func (.func 80) #[] #[.pointer (some ⟨pF, 0, none⟩), .pointer (some ⟨pC, 0, none⟩)])) := Lib.hid fun w' h => ⟨(World.cell?_of_block (h.block pF (lt_of_cell cF) hpF)).trans cF, (World.cell?_of_block (h.block pC (lt_of_cell cC) hpC)).trans cC⟩
  have K81 := Lib.hid (f81_any p n b w hf hb hn)
  have hen := enter80
  have HLE := Lib.hid (cnt_le5 hn5 b)
  clear hf ht hb ih cC hpF hpC
  go_enter Tryd.func80, Tryd.ntmps80
  go_wp2_with fail
  refine K81.out.mono ?_
  rintro e w1 ⟨hnar, q1, rfl⟩
  have FB : Hid (FilB (w.drewN q1) p n b) := HF.out.drewN q1
  have GB : Hid (w.grownBy (w.drewN q1) (some p)) := only_drewN (World.grownBy.refl w _) q1
  generalize w.drewN q1 = wb at *
  rcases hnar with ⟨r, c, hr, hc, h0, rfl⟩ | ⟨hall, x, y, rfl⟩
  · have K56 := Lib.hid (f56_any p n r c b wb FB.out HB.out hn hr hc)
    have hol := openM_lt n b r c
    have h128 := two_pow_128 hn
    have HBO := Lib.hid (bits_open hn b r c)
    have IH := Lib.hid (fun x hx => IH.out r c x hr hc h0 hx)
    have HSUM := Lib.hid (cnt_crops HB.out.shape hr hc h0)
    have HC : Hid (∀ x, x ∈ crops n b r c → x < n ∧ freeP n b r c x) := fun x hx => mem_crops.1 hx
    have hcr := Lib.hid h0
    have cFb := (CC.out wb GB.out).1
    generalize openM n b r c = M at *
    generalize crops n b r c = L at *
    clear K81 h0 cF
    go_wp2_with fail
    refine K56.out.mono ?_
    rintro e w1 ⟨rfl, q2, rfl⟩
    have F2 : Hid (FilB (wb.drewN q2) p n b) := FB.out.drewN q2
    have G2 : Hid (w.grownBy (wb.drewN q2) (some p)) := only_drewN GB.out q2
    generalize wb.drewN q2 = w2 at *
    clear K56 cFb
    go_wp2_with fail
    go_loopw [7, 6] (fun a s wr => ∃ (m S : Nat) (pre : List Nat), m < 128 ∧ a = .int .i64 (m : Int) ∧ s = .int .i64 (S : Int) ∧ Hid (L = pre ++ bitsOf m ∧ S = (pre.map fun x => cnt n (gset b r c (x : Nat))).sum) ∧ w.grownBy wr (some p) ∧ FilB wr p n b) (fun a _ _ => (intOf a).toNat)
    case atStart => exact ⟨M, 0, [], by omega, rfl, rfl, ⟨by rw [HBO.out]; rfl, rfl⟩, G2.out, F2.out⟩
    case round => as_aux_lemma =>
      obtain ⟨m, S, pre, hm, rfl, rfl, hst, hg, hfr⟩ := hrel
      have HG := Lib.hid hg
      have HFR := Lib.hid hfr
      obtain ⟨cF1, cC1⟩ := CC.out wr hg
      clear hg hfr
      by_cases hm0 : 0 < m
      · obtain ⟨hL, hS⟩ := hst.out
        rw [bits_step m hm hm0] at hL
        obtain ⟨b1, b2, b3⟩ := low_bit m hm hm0
        have hxL : tzN m ∈ L := by rw [hL]; simp
        obtain ⟨hxn, hxf⟩ := HC.out _ hxL
        have K57 := Lib.hid (fun W hT => f57_any m W hT hm0 hm)
        have HT0 : Hid (Tab wr) := HT.out.only HG.out hp
        have hand := bits_and_nat m (m - 1) (by omega) (by omega)
        have hand2 : bits .and .i64 (m : Int) ((m : Int) - 1) = ((m &&& (m - 1) : Nat) : Int) := by rw [← hand]; congr 1; omega
        obtain ⟨N, hN⟩ : ∃ z, z = cnt n (gset b r c (tzN m : Nat)) := ⟨_, rfl⟩
        have HNX : Hid (L = (pre ++ [tzN m]) ++ bitsOf (m &&& (m - 1)) ∧ S + N = ((pre ++ [tzN m]).map fun x => cnt n (gset b r c (x : Nat))).sum) := ⟨by rw [hL]; simp, by rw [List.map_append, List.sum_append, ← hS, hN]; simp⟩
        have hbound : S + N ≤ 298023223876953125 := by
          have h1 := HLE.out
          rw [HSUM.out, HNX.out.1, List.map_append, List.sum_append, ← HNX.out.2] at h1
          omega
        have HON := Lib.hid (fun W hF => f58_on p n r c (tzN m) b W hF HB.out hn hr hc hxn hcr.out)
        have HOFF := Lib.hid (fun W hF => f58_off p n r c (tzN m) b W hF HB.out hn hr hc hxn hcr.out hxf)
        have HCNT := Lib.hid (IH.out _ hxL)
        have HNN := Lib.hid hN
        generalize tzN m = x at *
        generalize m &&& (m - 1) = m2 at *
        clear hL hS b1 b2 hxL hand hxf hst hN
        go_wp2_with fail
        refine (K57.out _ HT0.out).mono ?_
        rintro e w3 ⟨rfl, rfl⟩
        go_wp2_with fail
        refine (HON.out _ HFR.out).mono ?_
        rintro e w3 ⟨rfl, hg3, hf3⟩
        have HT3 : Hid (Tab w3) := HT0.out.only hg3 hp
        have HG3 : Hid (w.grownBy w3 (some p)) := only_trans HG.out hg3
        have HF3 := Lib.hid hf3
        obtain ⟨cF3, cC3⟩ := CC.out w3 HG3.out
        have K80 := HCNT.out w3 HF3.out HT3.out cF3 cC3
        rw [← HNN.out] at K80
        have K80 := Lib.hid K80
        clear hg3 hf3 cF1 cC1
        go_wp2_with fail
        refine K80.out.mono ?_
        rintro e w4 ⟨rfl, hg4, hf4⟩
        have HG4 : Hid (w.grownBy w4 (some p)) := only_trans HG3.out hg4
        have HF4 := Lib.hid hf4
        have cF4 := (CC.out w4 HG4.out).1
        clear hg4 hf4 cF3 cC3
        go_wp2_with fail
        refine (HOFF.out _ HF4.out).mono ?_
        rintro e w5 ⟨rfl, hg5, hf5⟩
        have HG5 : Hid (w.grownBy w5 (some p)) := only_trans HG4.out hg5
        have HF5 := Lib.hid hf5
        clear hg5 hf5 cF4
        go_wp2
        go_roundw
        case rel => exact ⟨m2, S + N, pre ++ [x], by omega, rfl, by go_num, HNX.out, HG5.out, HF5.out⟩
        case measure => simp [intOf]; omega
      · obtain rfl : m = 0 := by omega
        have HS : Hid (S = cnt n b) := Lib.hid (by
          have h := hst.out.1
          rw [bits_zero, List.append_nil] at h
          rw [HSUM.out, h]; exact hst.out.2)
        clear hst
        go_wp2
        go_ret
        exact ⟨ret_int (by rw [← HS.out]), HG.out, HFR.out⟩
  · have HS : Hid (cnt n b = 1) := Lib.hid (cnt_full ⟨HB.out.shape, fun r c hr hc => ⟨hall r c hr hc, (HB.out.lo r c hr hc).2⟩, HB.out.once⟩)
    clear hall
    go_wp2
    go_ret
    exact ⟨ret_int (by rw [HS.out]; rfl), GB.out, FB.out⟩
/-- bed.Count$1 -/
theorem f80_any (p n pF pC : Nat) (hp : p ≠ 1) (hn : n ≤ 5) (b : List (List Int)) (hb : IsBed n b) : CountC p n pF pC b := by
  have key : ∀ k b, empt n b < k → IsBed n b → CountC p n pF pC b := by
    intro k
    induction k with
    | zero => intro b h; omega
    | succ k ih =>
      intro b hk hb
      refine f80_step p n pF pC hp hn b hb fun r c x hr hc h0 hx => ih _ ?_ ?_
      · have := empt_put hb.shape hr hc h0 (x := (x : Int)) (by omega)
        omega
      · obtain ⟨h1, h2⟩ := mem_crops.1 hx
        exact hb.put hr hc (by omega) (by omega) h2
  exact key _ b (Nat.lt_succ_self _) hb
end Go.Proofs.YtiodednhadnekaaDoor

namespace Go.Proofs.YtiodednhadnekaaDoor
open Go.RowKit Go.Deep
attribute [local go_sem ↓] Go.wp_at_zero Go.wp_at_succ
attribute [local go_sem] run_store_func

def cntOk (b : List (List Int)) : Prop := bedB b = true ∧ b.length ≤ 5
instance (b : List (List Int)) : Decidable (cntOk b) := by unfold cntOk; infer_instance
noncomputable def cntN (b : List (List Int)) : Nat := if cntOk b then cnt b.length b else 0
def cntE (b : List (List Int)) : Int := if cntOk b then 0 else 2
set_option maxRecDepth 100000 in
set_option maxHeartbeats 4000000 in
/-- bed.Count -/
theorem f35_any (A : Option Addr) (n c : Nat) (b : List (List Int)) (w : World) (hs : Beds w A n c b) (ht : Tab w) :
    Calls Tryd.prog 35 #[.slice A n c] w fun e w' => e = .returned (.tuple #[.int .i64 (cntN b : Int), .int .i64 (cntE b)]) ∧ Below w.heap.size w w' := by
  have K53 := Lib.hid (f53_any A n c b w hs)
  have hbl := hs.len
  have hsm := hs.small
  cases hf : bedB b
  · rw [hf] at K53
    have hno : ¬ cntOk b := fun h => by rw [h.1] at hf; cases hf
    have HE : Hid (cntE b = 2 ∧ cntN b = 0) := by unfold cntE cntN; rw [if_neg hno, if_neg hno]; exact ⟨rfl, rfl⟩
    clear hs hf hno ht
    go_enter Tryd.func35, Tryd.ntmps35
    go_wp2_with fail
    refine K53.out.mono ?_
    rintro e w1 ⟨rfl, hb⟩
    have HB := Lib.hid hb
    clear hb
    go_wp2
    go_ret2
    exact ⟨by rw [HE.out.1, HE.out.2]; rfl, HB.out⟩
  rw [hf] at K53
  by_cases h5 : 5 < n
  · have hno : ¬ cntOk b := fun h => by have := h.2; omega
    have HE : Hid (cntE b = 2 ∧ cntN b = 0) := by unfold cntE cntN; rw [if_neg hno, if_neg hno]; exact ⟨rfl, rfl⟩
    clear hs hf hno ht
    go_enter Tryd.func35, Tryd.ntmps35
    go_wp2_with fail
    refine K53.out.mono ?_
    rintro e w1 ⟨rfl, hb⟩
    have HB := Lib.hid hb
    clear hb
    go_wp2
    go_ret2
    exact ⟨by rw [HE.out.1, HE.out.2]; rfl, HB.out⟩
  obtain ⟨hn1, hn7, hB⟩ := find_bed hf hbl
  have hok : cntOk b := ⟨hf, by omega⟩
  have HE : Hid (cntE b = 0 ∧ cntN b = cnt n b) := by unfold cntE cntN; rw [if_pos hok, if_pos hok, hbl]; exact ⟨rfl, rfl⟩
  have HB := Lib.hid hB
  have HS := Lib.hid hs
  have HT := Lib.hid ht
  have hmf : ∀ (fn : Fn) (first cap : Array Value) (w : World), (Instr.makeFunc fn first cap).run Tryd.prog w = .ok (.func fn first cap) w := fun _ _ _ _ => rfl
  have hen := enter80
  clear hs hf hok ht hB
  go_enter Tryd.func35, Tryd.ntmps35
  go_wp2_with fail
  refine K53.out.mono ?_
  rintro e w1 ⟨rfl, hb1⟩
  have K54 := Lib.hid (f54_any A n c b w1 (HS.out.below hb1) HB.out hn7)
  have HB1 := Lib.hid hb1
  clear hb1 K53
  go_wp2_with fail
  refine K54.out.mono ?_
  rintro e w2 ⟨rfl, hf2, hb2⟩
  have hpz : w.heap.size ≤ w1.heap.size := HB1.out.size
  have hp1 : w1.heap.size ≠ 1 := by have := HT.out.lt; omega
  obtain ⟨ws, hws⟩ : ∃ z, z = (w2.alloc (.cells #[.pointer (some ⟨w1.heap.size, 0, none⟩)] 56)).alloc (.cells #[.func (.func 80) #[] #[.pointer (some ⟨w2.heap.size, 0, none⟩), .pointer (some ⟨w2.heap.size + 1, 0, none⟩)]] 80) := ⟨_, rfl⟩
  have hbs : Below w2.heap.size w2 ws := by rw [hws]; exact below_alloc2 w2 _ _
  have s1 : (w2.alloc (.cells #[.pointer (some ⟨w1.heap.size, 0, none⟩)] 56)).heap.size = w2.heap.size + 1 := by simp
  have c1 : ws.cell? ⟨w2.heap.size, 0, none⟩ = some (.pointer (some ⟨w1.heap.size, 0, none⟩)) := by
    have h := (Below.heap_alloc (w2.alloc (.cells #[.pointer (some ⟨w1.heap.size, 0, none⟩)] 56)) (.cells #[.func (.func 80) #[] #[.pointer (some ⟨w2.heap.size, 0, none⟩), .pointer (some ⟨w2.heap.size + 1, 0, none⟩)]] 80) w2.heap.size (by omega)).trans (heap_alloc_new w2 _)
    rw [← hws] at h
    rw [cell_of_row _ _ 0 _ _ _ h]; rfl
  have c2 : ws.cell? ⟨w2.heap.size + 1, 0, none⟩ = some (.func (.func 80) #[] #[.pointer (some ⟨w2.heap.size, 0, none⟩), .pointer (some ⟨w2.heap.size + 1, 0, none⟩)]) := by
    have h := heap_alloc_new (w2.alloc (.cells #[.pointer (some ⟨w1.heap.size, 0, none⟩)] 56)) (.cells #[.func (.func 80) #[] #[.pointer (some ⟨w2.heap.size, 0, none⟩), .pointer (some ⟨w2.heap.size + 1, 0, none⟩)]] 80)
    rw [← hws, s1] at h
    rw [cell_of_row _ _ 0 _ _ _ h]; rfl
  have K80 := Lib.hid (f80_any w1.heap.size n w2.heap.size (w2.heap.size + 1) hp1 (by omega) b HB.out ws (hf2.below hbs hf2.lt) ((((HT.out.below HB1.out)).below hb2).below hbs) c1 c2)
  have HBS : Hid (Below w.heap.size w ws) := Lib.hid ((HB1.out.trans (hb2.mono HB1.out.size)).trans (hbs.mono (by have := HB1.out.size; have := hb2.size; omega)))
  clear hf2 hb2 hbs s1 c1 hp1 K54
  go_wp2_with fail
  rw [← hws]
  clear hws
  refine K80.out.mono ?_
  rintro e w4 ⟨rfl, hg4, _⟩
  have B4 := Lib.hid (below_only HBS.out hg4 HBS.out.size hpz)
  clear hg4
  generalize cnt n b = N at *
  go_wp2
  go_ret2
  exact ⟨by rw [HE.out.1, HE.out.2]; rfl, B4.out⟩
end Go.Proofs.YtiodednhadnekaaDoor

namespace Go.Proofs.YtiodednhadnekaaDoor
open Go.RowKit Go.Deep
attribute [local go_sem ↓] Go.wp_at_zero Go.wp_at_succ

theorem sumN_succ (f : Nat → Nat) (k : Nat) : sumN f (k + 1) = sumN f k + f k := rfl
theorem sumN_part {f : Nat → Nat} {k n : Nat} (h : k ≤ n) : sumN f k ≤ sumN f n := by
  induction n with
  | zero => obtain rfl : k = 0 := by omega
            exact Nat.le_refl _
  | succ n ih =>
    rcases Nat.lt_or_ge n k with h1 | h1
    · obtain rfl : k = n + 1 := by omega
      exact Nat.le_refl _
    · exact Nat.le_trans (ih h1) (Nat.le_add_right _ _)
theorem Kept.like {Own : World → Nat → Prop} {a b W : World} (h : Kept Own a b) (h1 : W.heap = b.heap) (h2 : W.os = b.os) (h3 : W.tape = b.tape) (h4 : W.output = b.output) (ho : ∀ i, i < a.heap.size → (Own W i ↔ Own b i)) : Kept Own a W :=
  ⟨h2.trans h.os, h3.trans h.tape, h4.trans h.output, by rw [h1]; exact h.size, fun i hi hn => by rw [h1]; exact h.block i hi hn, fun i hi hn => h.own i hi ((ho i hi).1 hn)⟩
theorem Kept.like' {Own : World → Nat → Prop} {a b W : World} (h : Kept Own W b) (h1 : W.heap = a.heap) (h2 : W.os = a.os) (h3 : W.tape = a.tape) (h4 : W.output = a.output) (ho : ∀ i, Own W i ↔ Own a i) : Kept Own a b :=
  ⟨h.os.trans h2, h.tape.trans h3, h.output.trans h4, by rw [← h1]; exact h.size, fun i hi hn => by rw [← h1]; exact h.block i (by rw [h1]; exact hi) (fun h => hn ((ho i).1 h)), fun i hi hn => (ho i).1 (h.own i (by rw [h1]; exact hi) hn)⟩
theorem GridM.heap {w W : World} {gO n : Nat} {gr cr : Nat → Nat} {b : List (List Int)} (h : GridM w gO gr cr n b) (e : W.heap = w.heap) : GridM W gO gr cr n b :=
  ⟨fun r hr => (World.cell?_of_block (congrArg (fun x => x[gO]?) e)).trans (h.hdr r hr), fun r c hr hc => (World.cell?_of_block (congrArg (fun x => x[gr r]?) e)).trans (h.val r c hr hc), fun r hr => by rw [e]; exact h.blk r hr, h.inj, h.cap⟩
/-- What count is shown to do at a bed of which the first places are sown. -/
def CntG (gO : Nat) (gr cr : Nat → Nat) (n cO : Nat) (b : List (List Int)) : Prop := ∀ (w : World) (at_ : Nat), GridM w gO gr cr n b → at_ ≤ n * n → (∀ i, i < at_ → 0 ≤ gAt b (i / n) (i % n)) →
  Calls Tryd.prog 82 #[.slice (some ⟨gO, 0, none⟩) n cO, .int .i64 (at_ : Int)] w fun e w' => e = .returned (.int .i64 (cnt n b : Int)) ∧ Kept (fun _ i => OwnG n gr i) w w' ∧ GridM w' gO gr cr n b
set_option maxRecDepth 100000 in
set_option maxHeartbeats 8000000 in
theorem f82_step (gO : Nat) (gr cr : Nat → Nat) (n cO : Nat) (hn0 : 0 < n) (hn5 : n ≤ 5) (hcO : n ≤ cO) (b : List (List Int)) (hb : IsBed n b) (ih : ∀ r c x, r < n → c < n → gAt b r c < 0 → x ∈ crops n b r c → CntG gO gr cr n cO (gset b r c (x : Nat))) : CntG gO gr cr n cO b := by
  intro w at_ hg hat hall
  have HG := Lib.hid hg
  have HB := Lib.hid hb
  have IH := Lib.hid ih
  have HALL := Lib.hid hall
  have HLE := Lib.hid (cnt_le5 hn5 b)
  have n0 : (0 : Int) < (n : Int) := by omega
  have n5 : (n : Int) ≤ 5 := by omega
  have hnn : n * n ≤ 25 := Nat.le_trans (Nat.mul_le_mul hn5 hn5) (by decide)
  have hne : ¬ ((n : Int) = 0) := by omega
  have hnz : ¬ (n = 0) := by omega
  obtain ⟨N2, hN2⟩ : ∃ z, z = n * n := ⟨_, rfl⟩
  have HN2 := Lib.hid hN2
  have hmul : (n : Int) * (n : Int) = (N2 : Int) := by rw [hN2]; simp
  have HDIV : Hid (∀ a, a < N2 → a / n < n ∧ a % n < n) := Lib.hid fun a ha => ⟨Nat.div_lt_of_lt_mul (by rw [hN2] at ha; exact ha), Nat.mod_lt a hn0⟩
  rw [← hN2] at hat hnn
  clear hg hb ih hall hN2
  go_enter Tryd.func82, Tryd.ntmps82
  go_wp2
  go_loopw [1] (fun ai wr => ∃ a : Nat, a ≤ N2 ∧ ai = .int .i64 (a : Int) ∧ Hid (∀ i, i < a → 0 ≤ gAt b (i / n) (i % n)) ∧ ∃ q, wr = w.drewN q) (fun ai _ => N2 - (intOf ai).toNat)
  case atStart => exact ⟨at_, hat, rfl, HALL.out, 0, rfl⟩
  case round => as_aux_lemma =>
    obtain ⟨a, ha, rfl, hin, q, rfl⟩ := hrel
    have a0 : (0 : Int) ≤ (a : Int) := by omega
    have hd1 : (a : Int).tdiv (n : Int) = ((a / n : Nat) : Int) := by rw [Int.tdiv_eq_ediv_of_nonneg (by omega)]; simp
    have hd2 : (a : Int) / (n : Int) = ((a / n : Nat) : Int) := by simp
    have hm1 : (a : Int).tmod (n : Int) = ((a % n : Nat) : Int) := by rw [Int.tmod_eq_emod_of_nonneg (by omega)]; simp
    have hm2 : (a : Int) % (n : Int) = ((a % n : Nat) : Int) := by simp
    by_cases han : a < N2
    · obtain ⟨hr, hc⟩ := HDIV.out a han
      have aN : (a : Int) < (N2 : Int) := by omega
      have HNX : Hid (0 ≤ gAt b (a / n) (a % n) → ∀ i, i < a + 1 → 0 ≤ gAt b (i / n) (i % n)) := Lib.hid fun h i hi => by
        rcases Nat.lt_or_ge i a with h1 | h1
        · exact hin.out i h1
        · obtain rfl : i = a := by omega
          exact h
      have HSAME : Hid (∀ i, i / n = a / n → i % n = a % n → i = a) := Lib.hid fun i h1 h2 => by
        rw [← Nat.div_add_mod i n, ← Nat.div_add_mod a n, h1, h2]
      have HIN := Lib.hid hin.out
      obtain ⟨r, hr2⟩ : ∃ z, z = a / n := ⟨_, rfl⟩
      obtain ⟨c, hc2⟩ : ∃ z, z = a % n := ⟨_, rfl⟩
      rw [← hr2] at hd1 hd2 hr HNX HSAME
      rw [← hc2] at hm1 hm2 hc HNX HSAME
      have c1 := HG.out.hdr r hr
      have c2 := HG.out.val r c hr hc
      have hwr : IntKind.i64.wrap (r : Int) = (r : Int) := IntWalk.i64_in _ (by omega)
      have hwc : IntKind.i64.wrap (c : Int) = (c : Int) := IntWalk.i64_in _ (by omega)
      have r0 : (0 : Int) ≤ (r : Int) := by omega
      have rn : (r : Int) < (n : Int) := by omega
      have c0 : (0 : Int) ≤ (c : Int) := by omega
      have cn : (c : Int) < (n : Int) := by omega
      have HAC : Hid (a / n = r ∧ a % n = c) := ⟨hr2.symm, hc2.symm⟩
      clear hr2 hc2 hin
      by_cases h0 : 0 ≤ gAt b r c
      · have HE := Lib.hid (HNX.out h0)
        have hq : decide (0 ≤ gAt b r c) = true := decide_eq_true h0
        obtain ⟨u, hu⟩ : ∃ u, u = gAt b r c := ⟨_, rfl⟩
        rw [← hu] at c2 hq
        clear h0 hu HNX
        go_wp2
        go_quiet (fail)
        go_wp2
        go_roundw
        case rel => exact ⟨a + 1, by omega, by go_num, HE.out, by first | exact ⟨_, rfl⟩ | exact ⟨_, World.drewN_drewN _ _ _⟩⟩
        case measure => simp [intOf]; omega
      · have hneg : gAt b r c < 0 := by omega
        have HNEG := Lib.hid hneg
        have hq : decide (0 ≤ gAt b r c) = false := decide_eq_false h0
        have haN : ((a : Int) == (N2 : Int)) = false := by simp; omega
        have HBR := Lib.hid (cnt_branch HB.out.shape hr hc hneg)
        obtain ⟨u, hu⟩ : ∃ u, u = gAt b r c := ⟨_, rfl⟩
        rw [← hu] at c2 hq
        clear h0 hu HNX hneg
        go_wp2
        go_quiet (fail)
        go_wp2
        go_loopw [7, 6] (fun xi si wr => ∃ x S : Nat, x ≤ n ∧ xi = .int .i64 (x : Int) ∧ si = .int .i64 (S : Int) ∧ Hid (S = sumN (fun y => cnt n (gset b r c (y : Nat))) x) ∧ Kept (fun _ i => OwnG n gr i) w wr ∧ GridM wr gO gr cr n b) (fun xi _ _ => n - (intOf xi).toNat)
        case atStart => exact ⟨0, 0, by omega, rfl, rfl, rfl, ⟨rfl, rfl, rfl, Nat.le_refl _, fun _ _ _ => rfl, fun _ _ h => h⟩, HG.out.heap rfl⟩
        case round => as_aux_lemma =>
          obtain ⟨x, S, hx, rfl, rfl, hS, hk, hg⟩ := hrel
          have HK := Lib.hid hk
          have HGr := Lib.hid hg
          have HS := Lib.hid hS.out
          by_cases hxn : x < n
          · have K52 : Hid (∀ W : World, W.heap = wr.heap → Calls Tryd.prog 52 #[.slice (some ⟨gO, 0, none⟩) n cO, .int .i64 (r : Int), .int .i64 (c : Int), .int .i64 (x : Int)] W fun e w' => e = .returned (.bool (freeB n b r c x)) ∧ W = w') := Lib.hid fun W e => f52_any _ n cO r c x b W ((hg.heap e).beds HB.out.shape (by omega) hcO) HB.out.shape hr hc
            have x0 : (0 : Int) ≤ (x : Int) := by omega
            have xn : (x : Int) < (n : Int) := by omega
            cases hfr : freeB n b r c x
            · skip
              rw [hfr] at K52
              have HN : Hid (S = sumN (fun y => cnt n (gset b r c (y : Nat))) (x + 1)) := Lib.hid (by
                have h1 : cnt n (gset b r c (x : Nat)) = 0 := cnt_notfree HB.out.shape hr hc HNEG.out (by omega) (fun h => by rw [freeB_iff.2 h] at hfr; cases hfr)
                rw [sumN_succ, h1, Nat.add_zero]; exact HS.out)
              clear hk hg hS hfr c1 c2
              go_wp2_with fail
              refine wp_region_held_drew (S := fun _ => True) (by kernel_rfl) trivial (fun _ => ?_)
              refine wpAnyH_take (i := 0) (oi := { dst := some 41, op := Op.move (Operand.tmp 0), type := 22, pos := "ref.go:174", after := #[], guard := none }) (v := .slice (some ⟨gO, 0, none⟩) n cO) rfl (by kernel_rfl) (by kernel_rfl) (by kernel_rfl) (fun _ _ _ h => h) (Or.inl ⟨by kernel_rfl, fun W _ => by kernel_rfl⟩) trivial ?_
              try simp only [Act.put, List.setIfInBounds_toArray, List.set_cons_zero, List.set_cons_succ]
              refine wpAnyH_take (i := 1) (oi := { dst := some 42, op := Op.move (Operand.tmp 1), type := 3, pos := "ref.go:174", after := #[], guard := none }) (v := .int .i64 (a : Int)) rfl (by kernel_rfl) (by kernel_rfl) (by kernel_rfl) (fun _ _ _ h => h) (Or.inl ⟨by kernel_rfl, fun W _ => by kernel_rfl⟩) trivial ?_
              try simp only [Act.put, List.setIfInBounds_toArray, List.set_cons_zero, List.set_cons_succ]
              refine wpAnyH_take (i := 2) (oi := { dst := some 43, op := Op.move (Operand.tmp 5), type := 3, pos := "ref.go:174", after := #[], guard := none }) (v := .int .i64 (n : Int)) rfl (by kernel_rfl) (by kernel_rfl) (by kernel_rfl) (fun _ _ _ h => h) (Or.inl ⟨by kernel_rfl, fun W _ => by kernel_rfl⟩) trivial ?_
              try simp only [Act.put, List.setIfInBounds_toArray, List.set_cons_zero, List.set_cons_succ]
              refine wpAnyH_take (i := 3) (oi := { dst := some 44, op := Op.binOp BinOp.quo 3 (Operand.tmp 42) (Operand.tmp 43) 3, type := 3, pos := "ref.go:174", after := #[{ on := 1, ground := Ground.data }, { on := 2, ground := Ground.data }], guard := none }) (v := .int .i64 (r : Int)) rfl (by kernel_rfl) (by kernel_rfl) (by kernel_rfl) (fun _ _ _ h => h) (Or.inl ⟨by kernel_rfl, fun W _ => by go_simp⟩) trivial ?_
              try simp only [Act.put, List.setIfInBounds_toArray, List.set_cons_zero, List.set_cons_succ]
              refine wpAnyH_take (i := 4) (oi := { dst := some 45, op := Op.move (Operand.tmp 1), type := 3, pos := "ref.go:174", after := #[], guard := none }) (v := .int .i64 (a : Int)) rfl (by kernel_rfl) (by kernel_rfl) (by kernel_rfl) (fun _ _ _ h => h) (Or.inl ⟨by kernel_rfl, fun W _ => by kernel_rfl⟩) trivial ?_
              try simp only [Act.put, List.setIfInBounds_toArray, List.set_cons_zero, List.set_cons_succ]
              refine wpAnyH_take (i := 5) (oi := { dst := some 46, op := Op.move (Operand.tmp 5), type := 3, pos := "ref.go:174", after := #[], guard := none }) (v := .int .i64 (n : Int)) rfl (by kernel_rfl) (by kernel_rfl) (by kernel_rfl) (fun _ _ _ h => h) (Or.inl ⟨by kernel_rfl, fun W _ => by kernel_rfl⟩) trivial ?_
              try simp only [Act.put, List.setIfInBounds_toArray, List.set_cons_zero, List.set_cons_succ]
              refine wpAnyH_take (i := 6) (oi := { dst := some 47, op := Op.binOp BinOp.rem 3 (Operand.tmp 45) (Operand.tmp 46) 3, type := 3, pos := "ref.go:174", after := #[{ on := 4, ground := Ground.data }, { on := 5, ground := Ground.data }], guard := none }) (v := .int .i64 (c : Int)) rfl (by kernel_rfl) (by kernel_rfl) (by kernel_rfl) (fun _ _ _ h => h) (Or.inl ⟨by kernel_rfl, fun W _ => by go_simp⟩) trivial ?_
              try simp only [Act.put, List.setIfInBounds_toArray, List.set_cons_zero, List.set_cons_succ]
              refine wpAnyH_take (i := 7) (oi := { dst := some 48, op := Op.move (Operand.tmp 7), type := 3, pos := "ref.go:174", after := #[], guard := none }) (v := .int .i64 (x : Int)) rfl (by kernel_rfl) (by kernel_rfl) (by kernel_rfl) (fun _ _ _ h => h) (Or.inl ⟨by kernel_rfl, fun W _ => by kernel_rfl⟩) trivial ?_
              try simp only [Act.put, List.setIfInBounds_toArray, List.set_cons_zero, List.set_cons_succ]
              refine wpAnyH_ready (rs := [8]) (by kernel_rfl) (by simp) ?_
              refine AllReadyH.cons (o := { dst := some 49, op := Op.call { callee := Callee.value (Operand.func 52), args := #[Operand.tmp 41, Operand.tmp 44, Operand.tmp 47, Operand.tmp 48], argTypes := #[22, 3, 3, 3] }, type := 4, pos := "ref.go:174", after := #[{ on := 0, ground := Ground.data }, { on := 3, ground := Ground.data }, { on := 6, ground := Ground.data }, { on := 7, ground := Ground.data }], guard := none }) rfl (fun K hK => ?_) AllReadyH.nil
              go_simp
              refine (K52.out _ (by rfl)).mono ?_
              rintro e w4 ⟨rfl, rfl⟩
              refine hK.out _ _ trivial (fun _ => ?_)
              clear hK K
              try simp only [Act.put, List.setIfInBounds_toArray, List.set_cons_zero, List.set_cons_succ]
              refine wpAnyH_done (by kernel_rfl) ?_ _
              go_wp2
              go_roundw
              case rel => exact ⟨x + 1, S, by omega, by go_num, rfl, HN.out, HK.out.like rfl rfl rfl rfl (fun _ _ => Iff.rfl), HGr.out.heap rfl⟩
              case measure => simp [intOf]; omega
            · skip
              rw [hfr] at K52
              have hmem : x ∈ crops n b r c := mem_crops.2 ⟨hxn, freeB_iff.1 hfr⟩
              obtain ⟨N, hN⟩ : ∃ z, z = cnt n (gset b r c (x : Nat)) := ⟨_, rfl⟩
              have HNS : Hid (S + N = sumN (fun y => cnt n (gset b r c (y : Nat))) (x + 1)) := Lib.hid (by rw [sumN_succ, ← HS.out, hN])
              have hbound : S + N ≤ 298023223876953125 := by
                have h1 := HLE.out
                rw [HBR.out] at h1
                have h2 := sumN_part (f := fun y => cnt n (gset b r c (y : Nat))) (show x + 1 ≤ n by omega)
                rw [← HNS.out] at h2
                omega
              have c3 := hg.hdr r hr
              have c4 := hg.val r c hr hc
              have f4 := hg.frozen hr c
              have HNE := Lib.hid (hg.ne hr)
              have G2 := Lib.hid (hg.set_ HB.out.shape hr hc (x : Int))
              have KK2 := Lib.hid (GridM.turned hk hr c (.int .i64 (x : Int)))
              have HALL2 : Hid (∀ i, i < a + 1 → 0 ≤ gAt (gset b r c (x : Nat)) (i / n) (i % n)) := Lib.hid fun i hi => by
                rw [gAt_gset HB.out.shape hr hc]
                by_cases e : i / n = r ∧ i % n = c
                · rw [if_pos e]; omega
                · rw [if_neg e]
                  rcases Nat.lt_or_ge i a with h1 | h1
                  · exact HIN.out i h1
                  · obtain rfl : i = a := by omega
                    exact absurd HAC.out e
              have K82 : Hid (∀ W : World, W.heap = (wr.setCell ⟨gr r, c, none⟩ (.int .i64 (x : Int))).heap → Calls Tryd.prog 82 #[.slice (some ⟨gO, 0, none⟩) n cO, .int .i64 ((a : Int) + 1)] W fun e w' => e = .returned (.int .i64 (N : Int)) ∧ Kept (fun _ i => OwnG n gr i) W w' ∧ GridM w' gO gr cr n (gset b r c (x : Nat))) := Lib.hid fun W e => by
                have h := IH.out r c x hr hc HNEG.out hmem W (a + 1) (G2.out.heap e) (by rw [← HN2.out]; omega) HALL2.out
                rw [← hN] at h
                exact h
              have HSH := Lib.hid (gset_shape HB.out.shape r c (x : Int))
              have HBACK : Hid (gset (gset b r c (x : Int)) r c (-1) = b) := Lib.hid (by
                have h1 := (HB.out.lo r c hr hc).1
                have e : gAt b r c = -1 := by have := HNEG.out; omega
                rw [gset_gset HB.out.shape hr hc, ← e, gset_same HB.out.shape hr hc])
              clear hk hg hS hfr c1 c2 hmem hN
              go_wp2_with fail
              refine wp_region_held_drew (S := fun _ => True) (by kernel_rfl) trivial (fun _ => ?_)
              refine wpAnyH_take (i := 0) (oi := { dst := some 41, op := Op.move (Operand.tmp 0), type := 22, pos := "ref.go:174", after := #[], guard := none }) (v := .slice (some ⟨gO, 0, none⟩) n cO) rfl (by kernel_rfl) (by kernel_rfl) (by kernel_rfl) (fun _ _ _ h => h) (Or.inl ⟨by kernel_rfl, fun W _ => by kernel_rfl⟩) trivial ?_
              try simp only [Act.put, List.setIfInBounds_toArray, List.set_cons_zero, List.set_cons_succ]
              refine wpAnyH_take (i := 1) (oi := { dst := some 42, op := Op.move (Operand.tmp 1), type := 3, pos := "ref.go:174", after := #[], guard := none }) (v := .int .i64 (a : Int)) rfl (by kernel_rfl) (by kernel_rfl) (by kernel_rfl) (fun _ _ _ h => h) (Or.inl ⟨by kernel_rfl, fun W _ => by kernel_rfl⟩) trivial ?_
              try simp only [Act.put, List.setIfInBounds_toArray, List.set_cons_zero, List.set_cons_succ]
              refine wpAnyH_take (i := 2) (oi := { dst := some 43, op := Op.move (Operand.tmp 5), type := 3, pos := "ref.go:174", after := #[], guard := none }) (v := .int .i64 (n : Int)) rfl (by kernel_rfl) (by kernel_rfl) (by kernel_rfl) (fun _ _ _ h => h) (Or.inl ⟨by kernel_rfl, fun W _ => by kernel_rfl⟩) trivial ?_
              try simp only [Act.put, List.setIfInBounds_toArray, List.set_cons_zero, List.set_cons_succ]
              refine wpAnyH_take (i := 3) (oi := { dst := some 44, op := Op.binOp BinOp.quo 3 (Operand.tmp 42) (Operand.tmp 43) 3, type := 3, pos := "ref.go:174", after := #[{ on := 1, ground := Ground.data }, { on := 2, ground := Ground.data }], guard := none }) (v := .int .i64 (r : Int)) rfl (by kernel_rfl) (by kernel_rfl) (by kernel_rfl) (fun _ _ _ h => h) (Or.inl ⟨by kernel_rfl, fun W _ => by go_simp⟩) trivial ?_
              try simp only [Act.put, List.setIfInBounds_toArray, List.set_cons_zero, List.set_cons_succ]
              refine wpAnyH_take (i := 4) (oi := { dst := some 45, op := Op.move (Operand.tmp 1), type := 3, pos := "ref.go:174", after := #[], guard := none }) (v := .int .i64 (a : Int)) rfl (by kernel_rfl) (by kernel_rfl) (by kernel_rfl) (fun _ _ _ h => h) (Or.inl ⟨by kernel_rfl, fun W _ => by kernel_rfl⟩) trivial ?_
              try simp only [Act.put, List.setIfInBounds_toArray, List.set_cons_zero, List.set_cons_succ]
              refine wpAnyH_take (i := 5) (oi := { dst := some 46, op := Op.move (Operand.tmp 5), type := 3, pos := "ref.go:174", after := #[], guard := none }) (v := .int .i64 (n : Int)) rfl (by kernel_rfl) (by kernel_rfl) (by kernel_rfl) (fun _ _ _ h => h) (Or.inl ⟨by kernel_rfl, fun W _ => by kernel_rfl⟩) trivial ?_
              try simp only [Act.put, List.setIfInBounds_toArray, List.set_cons_zero, List.set_cons_succ]
              refine wpAnyH_take (i := 6) (oi := { dst := some 47, op := Op.binOp BinOp.rem 3 (Operand.tmp 45) (Operand.tmp 46) 3, type := 3, pos := "ref.go:174", after := #[{ on := 4, ground := Ground.data }, { on := 5, ground := Ground.data }], guard := none }) (v := .int .i64 (c : Int)) rfl (by kernel_rfl) (by kernel_rfl) (by kernel_rfl) (fun _ _ _ h => h) (Or.inl ⟨by kernel_rfl, fun W _ => by go_simp⟩) trivial ?_
              try simp only [Act.put, List.setIfInBounds_toArray, List.set_cons_zero, List.set_cons_succ]
              refine wpAnyH_take (i := 7) (oi := { dst := some 48, op := Op.move (Operand.tmp 7), type := 3, pos := "ref.go:174", after := #[], guard := none }) (v := .int .i64 (x : Int)) rfl (by kernel_rfl) (by kernel_rfl) (by kernel_rfl) (fun _ _ _ h => h) (Or.inl ⟨by kernel_rfl, fun W _ => by kernel_rfl⟩) trivial ?_
              try simp only [Act.put, List.setIfInBounds_toArray, List.set_cons_zero, List.set_cons_succ]
              refine wpAnyH_ready (rs := [8]) (by kernel_rfl) (by simp) ?_
              refine AllReadyH.cons (o := { dst := some 49, op := Op.call { callee := Callee.value (Operand.func 52), args := #[Operand.tmp 41, Operand.tmp 44, Operand.tmp 47, Operand.tmp 48], argTypes := #[22, 3, 3, 3] }, type := 4, pos := "ref.go:174", after := #[{ on := 0, ground := Ground.data }, { on := 3, ground := Ground.data }, { on := 6, ground := Ground.data }, { on := 7, ground := Ground.data }], guard := none }) rfl (fun K hK => ?_) AllReadyH.nil
              go_simp
              refine (K52.out _ (by rfl)).mono ?_
              rintro e w4 ⟨rfl, rfl⟩
              refine hK.out _ _ trivial (fun _ => ?_)
              clear hK K
              try simp only [Act.put, List.setIfInBounds_toArray, List.set_cons_zero, List.set_cons_succ]
              refine wpAnyH_done (by kernel_rfl) ?_ _
              go_wp2_with fail
              refine wp_region_held_drew (S := fun W => W.cell? ⟨gO, r, none⟩ = some (.slice (some ⟨gr r, 0, none⟩) n (cr r))) (by kernel_rfl) (c3) (fun hS => ?_)
              refine wpAnyH_take (i := 0) (oi := { dst := some 50, op := Op.move (Operand.tmp 0), type := 22, pos := "ref.go:175", after := #[], guard := none }) (v := .slice (some ⟨gO, 0, none⟩) n cO) rfl (by kernel_rfl) (by kernel_rfl) (by kernel_rfl) (fun _ _ _ h => h) (Or.inl ⟨by kernel_rfl, fun W hSW => by kernel_rfl⟩) hS ?_
              try simp only [Act.put, List.setIfInBounds_toArray, List.set_cons_zero, List.set_cons_succ]
              refine wpAnyH_take (i := 1) (oi := { dst := some 51, op := Op.move (Operand.tmp 1), type := 3, pos := "ref.go:175", after := #[], guard := none }) (v := .int .i64 (a : Int)) rfl (by kernel_rfl) (by kernel_rfl) (by kernel_rfl) (fun _ _ _ h => h) (Or.inl ⟨by kernel_rfl, fun W hSW => by kernel_rfl⟩) hS ?_
              try simp only [Act.put, List.setIfInBounds_toArray, List.set_cons_zero, List.set_cons_succ]
              refine wpAnyH_take (i := 2) (oi := { dst := some 52, op := Op.move (Operand.tmp 5), type := 3, pos := "ref.go:175", after := #[], guard := none }) (v := .int .i64 (n : Int)) rfl (by kernel_rfl) (by kernel_rfl) (by kernel_rfl) (fun _ _ _ h => h) (Or.inl ⟨by kernel_rfl, fun W hSW => by kernel_rfl⟩) hS ?_
              try simp only [Act.put, List.setIfInBounds_toArray, List.set_cons_zero, List.set_cons_succ]
              refine wpAnyH_take (i := 3) (oi := { dst := some 53, op := Op.binOp BinOp.quo 3 (Operand.tmp 51) (Operand.tmp 52) 3, type := 3, pos := "ref.go:175", after := #[{ on := 1, ground := Ground.data }, { on := 2, ground := Ground.data }], guard := none }) (v := .int .i64 (r : Int)) rfl (by kernel_rfl) (by kernel_rfl) (by kernel_rfl) (fun _ _ _ h => h) (Or.inl ⟨by kernel_rfl, fun W hSW => by go_simp⟩) hS ?_
              try simp only [Act.put, List.setIfInBounds_toArray, List.set_cons_zero, List.set_cons_succ]
              refine wpAnyH_take (i := 4) (oi := { dst := some 54, op := Op.indexAddr 22 (Operand.tmp 50) (Operand.tmp 53), type := 0, pos := "ref.go:175", after := #[{ on := 0, ground := Ground.data }, { on := 3, ground := Ground.data }], guard := none }) (v := .pointer (some ⟨gO, r, none⟩)) rfl (by kernel_rfl) (by kernel_rfl) (by kernel_rfl) (fun _ _ _ h => h) (Or.inl ⟨by kernel_rfl, fun W hSW => by go_simp⟩) hS ?_
              try simp only [Act.put, List.setIfInBounds_toArray, List.set_cons_zero, List.set_cons_succ]
              refine wpAnyH_take (i := 5) (oi := { dst := some 55, op := Op.load 29 (Operand.tmp 54), type := 29, pos := "ref.go:175", after := #[{ on := 4, ground := Ground.data }], guard := none }) (v := .slice (some ⟨gr r, 0, none⟩) n (cr r)) rfl (by kernel_rfl) (by kernel_rfl) (by kernel_rfl) (fun _ _ _ h => h) (Or.inl ⟨by kernel_rfl, fun W hSW => by have h1 := hSW; go_simp⟩) hS ?_
              try simp only [Act.put, List.setIfInBounds_toArray, List.set_cons_zero, List.set_cons_succ]
              refine wpAnyH_take (i := 6) (oi := { dst := some 56, op := Op.move (Operand.tmp 1), type := 3, pos := "ref.go:175", after := #[], guard := none }) (v := .int .i64 (a : Int)) rfl (by kernel_rfl) (by kernel_rfl) (by kernel_rfl) (fun _ _ _ h => h) (Or.inl ⟨by kernel_rfl, fun W hSW => by kernel_rfl⟩) hS ?_
              try simp only [Act.put, List.setIfInBounds_toArray, List.set_cons_zero, List.set_cons_succ]
              refine wpAnyH_take (i := 7) (oi := { dst := some 57, op := Op.move (Operand.tmp 5), type := 3, pos := "ref.go:175", after := #[], guard := none }) (v := .int .i64 (n : Int)) rfl (by kernel_rfl) (by kernel_rfl) (by kernel_rfl) (fun _ _ _ h => h) (Or.inl ⟨by kernel_rfl, fun W hSW => by kernel_rfl⟩) hS ?_
              try simp only [Act.put, List.setIfInBounds_toArray, List.set_cons_zero, List.set_cons_succ]
              refine wpAnyH_take (i := 8) (oi := { dst := some 58, op := Op.binOp BinOp.rem 3 (Operand.tmp 56) (Operand.tmp 57) 3, type := 3, pos := "ref.go:175", after := #[{ on := 6, ground := Ground.data }, { on := 7, ground := Ground.data }], guard := none }) (v := .int .i64 (c : Int)) rfl (by kernel_rfl) (by kernel_rfl) (by kernel_rfl) (fun _ _ _ h => h) (Or.inl ⟨by kernel_rfl, fun W hSW => by go_simp⟩) hS ?_
              try simp only [Act.put, List.setIfInBounds_toArray, List.set_cons_zero, List.set_cons_succ]
              refine wpAnyH_take (i := 9) (oi := { dst := some 59, op := Op.move (Operand.tmp 7), type := 3, pos := "ref.go:175", after := #[], guard := none }) (v := .int .i64 (x : Int)) rfl (by kernel_rfl) (by kernel_rfl) (by kernel_rfl) (fun _ _ _ h => h) (Or.inl ⟨by kernel_rfl, fun W hSW => by kernel_rfl⟩) hS ?_
              try simp only [Act.put, List.setIfInBounds_toArray, List.set_cons_zero, List.set_cons_succ]
              refine wpAnyH_take (i := 10) (oi := { dst := some 60, op := Op.indexAddr 29 (Operand.tmp 55) (Operand.tmp 58), type := 0, pos := "ref.go:175", after := #[{ on := 5, ground := Ground.data }, { on := 8, ground := Ground.data }, { on := 0, ground := Ground.phase }, { on := 1, ground := Ground.phase }, { on := 2, ground := Ground.phase }, { on := 3, ground := Ground.phase }, { on := 4, ground := Ground.phase }, { on := 5, ground := Ground.phase }, { on := 6, ground := Ground.phase }, { on := 7, ground := Ground.phase }, { on := 8, ground := Ground.phase }, { on := 9, ground := Ground.phase }], guard := none }) (v := .pointer (some ⟨gr r, c, none⟩)) rfl (by kernel_rfl) (by kernel_rfl) (by kernel_rfl) (fun _ _ _ h => h) (Or.inl ⟨by kernel_rfl, fun W hSW => by go_simp⟩) hS ?_
              try simp only [Act.put, List.setIfInBounds_toArray, List.set_cons_zero, List.set_cons_succ]
              refine wpAnyH_ready (rs := [11]) (by kernel_rfl) (by simp) ?_
              refine AllReadyH.cons (o := { dst := none, op := Op.store 3 (Operand.tmp 60) (Operand.tmp 59), type := 0, pos := "ref.go:175", after := #[{ on := 10, ground := Ground.data }, { on := 9, ground := Ground.data }, { on := 0, ground := Ground.phase }, { on := 1, ground := Ground.phase }, { on := 2, ground := Ground.phase }, { on := 3, ground := Ground.phase }, { on := 4, ground := Ground.phase }, { on := 5, ground := Ground.phase }, { on := 6, ground := Ground.phase }, { on := 7, ground := Ground.phase }, { on := 8, ground := Ground.phase }, { on := 9, ground := Ground.phase }], guard := none }) rfl (fun K hK => ?_) AllReadyH.nil
              go_simp
              refine hK.out _ _ ((World.cell?_setCell_other _ ⟨gr r, c, none⟩ ⟨gO, r, none⟩ _ (fun e => HNE.out (by injection e))).trans hS) (fun hS => ?_)
              clear hK K
              try simp only [Act.put, List.setIfInBounds_toArray, List.set_cons_zero, List.set_cons_succ]
              refine wpAnyH_done (by kernel_rfl) ?_ _
              clear hS
              go_wp2_with fail
              refine (K82.out _ (by rfl)).mono ?_
              rintro e w5 ⟨rfl, hk5, hg5⟩
              have K5 : Hid (Kept (fun _ i => OwnG n gr i) w w5) := Lib.hid (KK2.out.trans (hk5.like' rfl rfl rfl rfl (fun _ => Iff.rfl)))
              have c5 := hg5.hdr r hr
              have c6 := hg5.val r c hr hc
              have f6 := hg5.frozen hr c
              have G6 : Hid (GridM (w5.setCell ⟨gr r, c, none⟩ (.int .i64 (-1))) gO gr cr n b) := Lib.hid (by
                have h := hg5.set_ HSH.out hr hc (-1)
                rw [HBACK.out] at h
                exact h)
              have K6 := Lib.hid (GridM.turned K5.out hr c (.int .i64 (-1)))
              clear hk5 hg5 c3 c4 f4
              go_wp2_with fail
              refine wp_region_held_drew (S := fun W => W.cell? ⟨gO, r, none⟩ = some (.slice (some ⟨gr r, 0, none⟩) n (cr r))) (by kernel_rfl) (c5) (fun hS => ?_)
              refine wpAnyH_take (i := 0) (oi := { dst := some 67, op := Op.move (Operand.tmp 0), type := 22, pos := "ref.go:177", after := #[], guard := none }) (v := .slice (some ⟨gO, 0, none⟩) n cO) rfl (by kernel_rfl) (by kernel_rfl) (by kernel_rfl) (fun _ _ _ h => h) (Or.inl ⟨by kernel_rfl, fun W hSW => by kernel_rfl⟩) hS ?_
              try simp only [Act.put, List.setIfInBounds_toArray, List.set_cons_zero, List.set_cons_succ]
              refine wpAnyH_take (i := 1) (oi := { dst := some 68, op := Op.move (Operand.tmp 1), type := 3, pos := "ref.go:177", after := #[], guard := none }) (v := .int .i64 (a : Int)) rfl (by kernel_rfl) (by kernel_rfl) (by kernel_rfl) (fun _ _ _ h => h) (Or.inl ⟨by kernel_rfl, fun W hSW => by kernel_rfl⟩) hS ?_
              try simp only [Act.put, List.setIfInBounds_toArray, List.set_cons_zero, List.set_cons_succ]
              refine wpAnyH_take (i := 2) (oi := { dst := some 69, op := Op.move (Operand.tmp 5), type := 3, pos := "ref.go:177", after := #[], guard := none }) (v := .int .i64 (n : Int)) rfl (by kernel_rfl) (by kernel_rfl) (by kernel_rfl) (fun _ _ _ h => h) (Or.inl ⟨by kernel_rfl, fun W hSW => by kernel_rfl⟩) hS ?_
              try simp only [Act.put, List.setIfInBounds_toArray, List.set_cons_zero, List.set_cons_succ]
              refine wpAnyH_take (i := 3) (oi := { dst := some 70, op := Op.binOp BinOp.quo 3 (Operand.tmp 68) (Operand.tmp 69) 3, type := 3, pos := "ref.go:177", after := #[{ on := 1, ground := Ground.data }, { on := 2, ground := Ground.data }], guard := none }) (v := .int .i64 (r : Int)) rfl (by kernel_rfl) (by kernel_rfl) (by kernel_rfl) (fun _ _ _ h => h) (Or.inl ⟨by kernel_rfl, fun W hSW => by go_simp⟩) hS ?_
              try simp only [Act.put, List.setIfInBounds_toArray, List.set_cons_zero, List.set_cons_succ]
              refine wpAnyH_take (i := 4) (oi := { dst := some 71, op := Op.indexAddr 22 (Operand.tmp 67) (Operand.tmp 70), type := 0, pos := "ref.go:177", after := #[{ on := 0, ground := Ground.data }, { on := 3, ground := Ground.data }], guard := none }) (v := .pointer (some ⟨gO, r, none⟩)) rfl (by kernel_rfl) (by kernel_rfl) (by kernel_rfl) (fun _ _ _ h => h) (Or.inl ⟨by kernel_rfl, fun W hSW => by go_simp⟩) hS ?_
              try simp only [Act.put, List.setIfInBounds_toArray, List.set_cons_zero, List.set_cons_succ]
              refine wpAnyH_take (i := 5) (oi := { dst := some 72, op := Op.load 29 (Operand.tmp 71), type := 29, pos := "ref.go:177", after := #[{ on := 4, ground := Ground.data }], guard := none }) (v := .slice (some ⟨gr r, 0, none⟩) n (cr r)) rfl (by kernel_rfl) (by kernel_rfl) (by kernel_rfl) (fun _ _ _ h => h) (Or.inl ⟨by kernel_rfl, fun W hSW => by have h1 := hSW; go_simp⟩) hS ?_
              try simp only [Act.put, List.setIfInBounds_toArray, List.set_cons_zero, List.set_cons_succ]
              refine wpAnyH_take (i := 6) (oi := { dst := some 73, op := Op.move (Operand.tmp 1), type := 3, pos := "ref.go:177", after := #[], guard := none }) (v := .int .i64 (a : Int)) rfl (by kernel_rfl) (by kernel_rfl) (by kernel_rfl) (fun _ _ _ h => h) (Or.inl ⟨by kernel_rfl, fun W hSW => by kernel_rfl⟩) hS ?_
              try simp only [Act.put, List.setIfInBounds_toArray, List.set_cons_zero, List.set_cons_succ]
              refine wpAnyH_take (i := 7) (oi := { dst := some 74, op := Op.move (Operand.tmp 5), type := 3, pos := "ref.go:177", after := #[], guard := none }) (v := .int .i64 (n : Int)) rfl (by kernel_rfl) (by kernel_rfl) (by kernel_rfl) (fun _ _ _ h => h) (Or.inl ⟨by kernel_rfl, fun W hSW => by kernel_rfl⟩) hS ?_
              try simp only [Act.put, List.setIfInBounds_toArray, List.set_cons_zero, List.set_cons_succ]
              refine wpAnyH_take (i := 8) (oi := { dst := some 75, op := Op.binOp BinOp.rem 3 (Operand.tmp 73) (Operand.tmp 74) 3, type := 3, pos := "ref.go:177", after := #[{ on := 6, ground := Ground.data }, { on := 7, ground := Ground.data }], guard := none }) (v := .int .i64 (c : Int)) rfl (by kernel_rfl) (by kernel_rfl) (by kernel_rfl) (fun _ _ _ h => h) (Or.inl ⟨by kernel_rfl, fun W hSW => by go_simp⟩) hS ?_
              try simp only [Act.put, List.setIfInBounds_toArray, List.set_cons_zero, List.set_cons_succ]
              refine wpAnyH_take (i := 9) (oi := { dst := some 76, op := Op.indexAddr 29 (Operand.tmp 72) (Operand.tmp 75), type := 0, pos := "ref.go:177", after := #[{ on := 5, ground := Ground.data }, { on := 8, ground := Ground.data }, { on := 0, ground := Ground.phase }, { on := 1, ground := Ground.phase }, { on := 2, ground := Ground.phase }, { on := 3, ground := Ground.phase }, { on := 4, ground := Ground.phase }, { on := 5, ground := Ground.phase }, { on := 6, ground := Ground.phase }, { on := 7, ground := Ground.phase }, { on := 8, ground := Ground.phase }], guard := none }) (v := .pointer (some ⟨gr r, c, none⟩)) rfl (by kernel_rfl) (by kernel_rfl) (by kernel_rfl) (fun _ _ _ h => h) (Or.inl ⟨by kernel_rfl, fun W hSW => by go_simp⟩) hS ?_
              try simp only [Act.put, List.setIfInBounds_toArray, List.set_cons_zero, List.set_cons_succ]
              refine wpAnyH_ready (rs := [10]) (by kernel_rfl) (by simp) ?_
              refine AllReadyH.cons (o := { dst := none, op := Op.store 3 (Operand.tmp 76) (Operand.const (Value.int IntKind.i64 (-1))), type := 0, pos := "ref.go:177", after := #[{ on := 9, ground := Ground.data }, { on := 0, ground := Ground.phase }, { on := 1, ground := Ground.phase }, { on := 2, ground := Ground.phase }, { on := 3, ground := Ground.phase }, { on := 4, ground := Ground.phase }, { on := 5, ground := Ground.phase }, { on := 6, ground := Ground.phase }, { on := 7, ground := Ground.phase }, { on := 8, ground := Ground.phase }], guard := none }) rfl (fun K hK => ?_) AllReadyH.nil
              go_simp
              refine hK.out _ _ ((World.cell?_setCell_other _ ⟨gr r, c, none⟩ ⟨gO, r, none⟩ _ (fun e => HNE.out (by injection e))).trans hS) (fun hS => ?_)
              clear hK K
              try simp only [Act.put, List.setIfInBounds_toArray, List.set_cons_zero, List.set_cons_succ]
              refine wpAnyH_done (by kernel_rfl) ?_ _
              clear hS
              go_wp2
              go_roundw
              case rel => exact ⟨x + 1, S + N, by omega, by go_num, by go_num, HNS.out, K6.out.like rfl rfl rfl rfl (fun _ _ => Iff.rfl), G6.out.heap rfl⟩
              case measure => simp [intOf]; omega
          · skip
            obtain rfl : x = n := by omega
            have HE : Hid (S = cnt x b) := Lib.hid (by rw [HBR.out]; exact HS.out)
            clear hk hg hS
            go_wp2
            go_ret
            exact ⟨ret_int (by rw [← HE.out]), HK.out, HGr.out⟩
    · obtain rfl : a = N2 := by omega
      have haN : ((a : Int) == (a : Int)) = true := by simp
      have HE : Hid (cnt n b = 1) := Lib.hid (cnt_full ⟨HB.out.shape, fun r c hr hc => ⟨by
        have h1 := hin.out (r * n + c) (by
          rw [HN2.out]
          have : r * n + c < (r + 1) * n := by rw [Nat.succ_mul]; omega
          exact Nat.lt_of_lt_of_le this (Nat.mul_le_mul_right n hr))
        rw [Nat.mul_comm, Nat.mul_add_div hn0, Nat.mul_add_mod, Nat.div_eq_of_lt hc, Nat.mod_eq_of_lt hc, Nat.add_zero] at h1
        exact h1, (HB.out.lo r c hr hc).2⟩, HB.out.once⟩)
      clear hin hd1 hd2 hm1 hm2
      go_wp2
      go_quiet (fail)
      go_wp2
      go_ret
      exact ⟨ret_int (by rw [HE.out]; rfl), (Kept.refl _ _).trans ⟨rfl, rfl, rfl, Nat.le_refl _, fun _ _ _ => rfl, fun _ _ h => h⟩, HG.out.drewN _⟩
end Go.Proofs.YtiodednhadnekaaDoor

namespace Go.Proofs.YtiodednhadnekaaDoor
open Go.RowKit Go.Deep
attribute [local go_sem ↓] Go.wp_at_zero Go.wp_at_succ

/-- dibberref01.count -/
theorem f82_any (gO : Nat) (gr cr : Nat → Nat) (n cO : Nat) (hn0 : 0 < n) (hn : n ≤ 5) (hcO : n ≤ cO) (b : List (List Int)) (hb : IsBed n b) : CntG gO gr cr n cO b := by
  have key : ∀ k b, empt n b < k → IsBed n b → CntG gO gr cr n cO b := by
    intro k
    induction k with
    | zero => intro b h; omega
    | succ k ih =>
      intro b hk hb
      refine f82_step gO gr cr n cO hn0 hn hcO b hb fun r c x hr hc h0 hx => ih _ ?_ ?_
      · have := empt_put hb.shape hr hc h0 (x := (x : Int)) (by omega)
        omega
      · obtain ⟨h1, h2⟩ := mem_crops.1 hx
        exact hb.put hr hc (by omega) (by omega) h2
  exact key _ b (Nat.lt_succ_self _) hb
set_option maxRecDepth 100000 in
set_option maxHeartbeats 4000000 in
/-- dibberref01.Count -/
theorem f36_any (A : Option Addr) (n c : Nat) (b : List (List Int)) (w : World) (hs : Beds w A n c b) (hrow : ∀ j, (b.getD j []).length ≤ 1000) (hn1000 : n ≤ 1000) :
    Calls Tryd.prog 36 #[.slice A n c] w fun e w' => e = .returned (.tuple #[.int .i64 (cntN b : Int), .int .i64 (cntE b)]) ∧ Below w.heap.size w w' := by
  have K37 := Lib.hid (f37_any A n c b w hs)
  have hbl := hs.len
  have hsm := hs.small
  cases hf : bedB b
  · rw [hf] at K37
    have hno : ¬ cntOk b := fun h => by rw [h.1] at hf; cases hf
    have HE : Hid (cntE b = 2 ∧ cntN b = 0) := by unfold cntE cntN; rw [if_neg hno, if_neg hno]; exact ⟨rfl, rfl⟩
    clear hs hf hno hrow
    go_enter Tryd.func36, Tryd.ntmps36
    go_wp2_with fail
    refine K37.out.mono ?_
    rintro e w1 ⟨rfl, rfl⟩
    go_wp2
    go_ret2
    exact ⟨by rw [HE.out.1, HE.out.2]; rfl, Below.refl _ _⟩
  rw [hf] at K37
  by_cases h5 : 5 < n
  · have hno : ¬ cntOk b := fun h => by have := h.2; omega
    have HE : Hid (cntE b = 2 ∧ cntN b = 0) := by unfold cntE cntN; rw [if_neg hno, if_neg hno]; exact ⟨rfl, rfl⟩
    clear hs hf hno hrow
    go_enter Tryd.func36, Tryd.ntmps36
    go_wp2_with fail
    refine K37.out.mono ?_
    rintro e w1 ⟨rfl, rfl⟩
    go_wp2
    go_ret2
    exact ⟨by rw [HE.out.1, HE.out.2]; rfl, Below.refl _ _⟩
  obtain ⟨hn1, hn7, hB⟩ := find_bed hf hbl
  have hok : cntOk b := ⟨hf, by omega⟩
  have HE : Hid (cntE b = 0 ∧ cntN b = cnt n b) := by unfold cntE cntN; rw [if_pos hok, if_pos hok, hbl]; exact ⟨rfl, rfl⟩
  have HB := Lib.hid hB
  have K24 := Lib.hid (f24_own A n c b w hs hrow hn1000)
  clear hs hf hok hB hrow
  go_enter Tryd.func36, Tryd.ntmps36
  go_wp2_with fail
  refine K37.out.mono ?_
  rintro e w1 ⟨rfl, rfl⟩
  go_wp2_with fail
  refine K24.out.mono ?_
  rintro e w2 ⟨v, rfl, hv, hb2⟩
  obtain ⟨gO, gr, cr, cO, rfl, hg, hcO, hbO, hbr⟩ := hv.grid HB.out.shape hn1 hn7
  have HB2 := Lib.hid hb2
  have HBR : Hid (∀ i, OwnG n gr i → w.heap.size ≤ i) := Lib.hid fun i ⟨r, hr, e⟩ => by rw [e]; exact hbr r hr
  have K82 : Hid (Calls Tryd.prog 82 #[.slice (some ⟨gO, 0, none⟩) n cO, .int .i64 0] w2 fun e w' => e = .returned (.int .i64 (cnt n b : Int)) ∧ Kept (fun _ i => OwnG n gr i) w2 w' ∧ GridM w' gO gr cr n b) := Lib.hid (f82_any gO gr cr n cO hn1 (by omega) hcO b HB.out w2 0 hg (by omega) (fun i hi => absurd hi (by omega)))
  clear hv hb2 hg hbO hbr K24 K37
  generalize cnt n b = N at *
  go_wp2_with fail
  refine K82.out.mono ?_
  rintro e w3 ⟨rfl, hk3, hg3⟩
  have B3 := Lib.hid (hk3.below HB2.out HB2.out.size HBR.out)
  clear hk3 hg3
  go_wp2
  go_ret2
  exact ⟨by rw [HE.out.1, HE.out.2]; rfl, B3.out⟩
set_option maxRecDepth 100000 in
set_option maxHeartbeats 8000000 in
/-- dibberlaw01.BedCounts -/
theorem f9_any (A : Option Addr) (n c : Nat) (b : List (List Int)) (w : World) (hs : CameB w A n c b) (ht : Tab w) :
    Calls Tryd.prog 9 #[.slice A n c] w fun e w' => e = .returned (.bool true) ∧ Below w.heap.size w w' := by
  have K16 := Lib.hid (f16_any A c n (b.map List.length) w hs.1)
  have HT := Lib.hid ht
  cases hf : fewB (b.map List.length)
  · rw [hf] at K16
    have K17 := Lib.hid (f17_any w ht)
    clear hs hf ht
    go_enter Tryd.func9, Tryd.ntmps9
    go_wp2_with fail
    refine K16.out.mono ?_
    rintro e w1 ⟨rfl, rfl⟩
    go_wp2_with fail
    refine K17.out.mono ?_
    rintro e w2 ⟨rfl, hb⟩
    have HB := Lib.hid hb
    clear hb
    go_wp2
    go_ret
    exact ⟨rfl, HB.out⟩
  · rw [hf] at K16
    have hB := hs.beds hf
    have HB := Lib.hid hB
    obtain ⟨hl20, hr20⟩ := few_false hf
    have hbl := hB.len
    have HR := Lib.hid hr20
    have K17 := Lib.hid (f17_any w ht)
    have K35 := Lib.hid (f35_any A n c b w hB ht)
    have HRC : Hid (∀ W, Beds W A n c b → Calls Tryd.prog 36 #[.slice A n c] W fun e w' => e = .returned (.tuple #[.int .i64 (cntN b : Int), .int .i64 (cntE b)]) ∧ Below W.heap.size W w') := Lib.hid fun W h => f36_any A n c b W h (fun j => by have := HR.out j; omega) (by omega)
    clear hs hf ht hB hr20
    generalize cntN b = N at *
    generalize cntE b = E at *
    have h3 : ((N : Int) == (N : Int)) = true := by simp
    have h4 : (E == E) = true := by simp
    go_enter Tryd.func9, Tryd.ntmps9
    go_wp2_with fail
    refine K16.out.mono ?_
    rintro e w1 ⟨rfl, rfl⟩
    go_wp2
    go_loop [4, 3] (fun i v => ∃ (r : Nat) (t : Bool), r ≤ n ∧ i = .int .i64 (r : Int) ∧ v = .bool t) (fun i _ => n - (intOf i).toNat)
    case atStart => exact ⟨0, _, by omega, rfl, rfl⟩
    case round => as_aux_lemma =>
      obtain ⟨r, t, hr, rfl, rfl⟩ := hrel
      by_cases hrn : r < n
      · obtain ⟨g, o, rfl, B, d, hc, _, _, hi⟩ := HB.out.at_ hrn
        have HI := Lib.hid hi
        have hml := HR.out r
        obtain ⟨m, hm⟩ : ∃ z, z = (b.getD r []).length := ⟨_, rfl⟩
        rw [← hm] at hc HI hml
        generalize b.getD r [] = l at *
        have r0 : (0 : Int) ≤ (r : Int) := by omega
        have rn : (r : Int) < (n : Int) := by omega
        clear hi hm
        go_wp2
        go_loop [5, 3] (fun i v => ∃ (k : Nat) (t : Bool), k ≤ m ∧ i = .int .i64 (k : Int) ∧ v = .bool t) (fun i _ => m - (intOf i).toNat)
        case atStart => exact ⟨0, _, by omega, rfl, rfl⟩
        case round => as_aux_lemma =>
          obtain ⟨k, t, hk, rfl, rfl⟩ := hrel
          by_cases hkm : k < m
          · obtain ⟨g2, o2, rfl, hc2⟩ := HI.out.at_ hkm
            generalize l.getD k 0 = u at *
            have k0 : (0 : Int) ≤ (k : Int) := by omega
            have kn : (k : Int) < (m : Int) := by omega
            cases t
            · go_wp2
              go_round
              case rel => exact ⟨k + 1, _, by omega, by go_num, rfl⟩
              case measure => simp [intOf]; omega
            · go_wp2
              go_round
              case rel => exact ⟨k + 1, _, by omega, by go_num, rfl⟩
              case measure => simp [intOf]; omega
          · obtain rfl : k = m := by omega
            go_wp2
            go_round
            case rel => exact ⟨r + 1, _, by omega, by go_num, rfl⟩
            case measure => simp [intOf]; omega
      · obtain rfl : r = n := by omega
        cases t
        · go_wp2_with fail
          refine K17.out.mono ?_
          rintro e w2 ⟨rfl, hb⟩
          have HB2 := Lib.hid hb
          clear hb
          go_wp2
          go_ret
          exact ⟨rfl, HB2.out⟩
        · go_wp2_with fail
          refine K35.out.mono ?_
          rintro e w2 ⟨rfl, hb2⟩
          have HB2 := Lib.hid hb2
          clear hb2
          go_wp2_with fail
          refine (HRC.out w2 (HB.out.below HB2.out)).mono ?_
          rintro e w3 ⟨rfl, hb3⟩
          have HB3 := Lib.hid (below_step HB2.out hb3)
          clear hb3
          go_wp2_with fail
          refine (f17_any w3 (HT.out.below HB3.out)).mono ?_
          rintro e w4 ⟨rfl, hb4⟩
          have HB4 := Lib.hid (below_step HB3.out hb4)
          clear hb4
          go_wp2
          go_ret
          exact ⟨rfl, HB4.out⟩
end Go.Proofs.YtiodednhadnekaaDoor
