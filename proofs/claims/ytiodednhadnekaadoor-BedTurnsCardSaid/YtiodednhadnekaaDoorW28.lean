/- Walks: Mate. -/
import Derived.Test.YtiodednhadnekaaDoorW27
namespace Go.Proofs.YtiodednhadnekaaDoor
open Go.RowKit Go.Deep
attribute [local go_sem ↓] Go.wp_at_zero Go.wp_at_succ
attribute [local go_sem] run_store_func
theorem eql_nil' (w : World) (A : Option Addr) (n c : Nat) : (binOp .eql 22 (.slice A n c) (.slice none 0 0)).run Tryd.prog w = .ok (.bool A.isNone) w := Go.Lib.run_eql_slice_nil w 22 29 A n c 0 0 Tryd.underlying22
attribute [local go_sem] eql_nil'

def mateOk (b : List (List Int)) : Prop := fullB b = true ∧ b.length ≤ 5
instance (b : List (List Int)) : Decidable (mateOk b) := by unfold mateOk; infer_instance
/-- The least mate with the first row 0, 1 and so on; none, if there is none. -/
def mateL (b : List (List Int)) : List (List Int) := if mateOk b then mtF b.length (trans b b.length) b.length 0 (fun _ _ => -1) [] else []
def mateE (b : List (List Int)) : Int := if mateOk b then (if mateL b = [] then 10 else 0) else 2
theorem OwnW.sown {w : World} {n gS i : Nat} (h : OwnW w gS (List.replicate n (Value.slice none 0 0))) (hi : SOwn gS w i) : i = gS := by
  rcases hi with e | ⟨j, u, hu, hbk⟩
  · exact e
  · rw [h.cell] at hu
    have := List.mem_of_getElem? hu
    rw [List.mem_replicate] at this
    rw [this.2] at hbk
    simp [Value.ownBlock] at hbk
theorem mate_new (w : World) (n : Nat) : ∃ wz, wz = (((w.alloc (.cells #[.int .i64 (n : Int)] 3)).alloc (.cells (List.replicate n (Value.slice none 0 0)).toArray 22)).alloc (.cells #[.slice (some ⟨w.heap.size + 1, 0, none⟩) n n] 49)) ∧ Below w.heap.size w wz ∧
    wz.cell? ⟨w.heap.size, 0, none⟩ = some (.int .i64 (n : Int)) ∧ OwnW wz (w.heap.size + 1) (List.replicate n (Value.slice none 0 0)) ∧ wz.cell? ⟨w.heap.size + 1 + 1, 0, none⟩ = some (.slice (some ⟨w.heap.size + 1, 0, none⟩) n n) := by
  have s1 : (w.alloc (.cells #[.int .i64 (n : Int)] 3)).heap.size = w.heap.size + 1 := by simp
  have a1 : (w.alloc (.cells #[.int .i64 (n : Int)] 3)).heap[w.heap.size]? = some (.cells #[.int .i64 (n : Int)] 3 (0, 0)) := heap_alloc_new w _
  obtain ⟨w1, hw1⟩ : ∃ z, z = w.alloc (.cells #[.int .i64 (n : Int)] 3) := ⟨_, rfl⟩
  have b1 : Below w.heap.size w w1 := by rw [hw1]; exact below_alloc w _
  rw [← hw1] at s1 a1 ⊢
  have s2 : (w1.alloc (.cells (List.replicate n (Value.slice none 0 0)).toArray 22)).heap.size = w.heap.size + 1 + 1 := by simp [s1]
  have a2 : OwnW (w1.alloc (.cells (List.replicate n (Value.slice none 0 0)).toArray 22)) (w.heap.size + 1) (List.replicate n (Value.slice none 0 0)) := by rw [← s1]; exact OwnW.made w1 n
  have a12 := (Below.heap_alloc w1 (.cells (List.replicate n (Value.slice none 0 0)).toArray 22) w.heap.size (by omega)).trans a1
  obtain ⟨w2, hw2⟩ : ∃ z, z = w1.alloc (.cells (List.replicate n (Value.slice none 0 0)).toArray 22) := ⟨_, rfl⟩
  have b2 : Below w.heap.size w w2 := by rw [hw2]; exact b1.alloc (by omega) _
  rw [← hw2] at s2 a2 a12 ⊢
  have a3 : (w2.alloc (.cells #[.slice (some ⟨w.heap.size + 1, 0, none⟩) n n] 49)).heap[w.heap.size + 1 + 1]? = some (.cells #[.slice (some ⟨w.heap.size + 1, 0, none⟩) n n] 49 (0, 0)) := by rw [← s2]; exact heap_alloc_new w2 _
  have a13 := (Below.heap_alloc w2 (.cells #[.slice (some ⟨w.heap.size + 1, 0, none⟩) n n] 49) w.heap.size (by omega)).trans a12
  have a23 := a2.below (below_alloc w2 (.cells #[.slice (some ⟨w.heap.size + 1, 0, none⟩) n n] 49))
  refine ⟨_, rfl, b2.alloc (by omega) _, ?_, a23, ?_⟩
  · rw [cell_of_row _ _ 0 _ _ _ a13]; rfl
  · rw [cell_of_row _ _ 0 _ _ _ a3]; rfl
theorem mate_ctx {w3 wr ws : World} {base n s gO : Nat} {G : List Nat} {T : List (List Nat)} (hI : SetsI n base (s + 1 + 1) (s + 1) T w3) (cN : w3.cell? ⟨s, 0, none⟩ = some (.int .i64 (n : Int))) (cS : w3.cell? ⟨s + 1 + 1, 0, none⟩ = some (.slice (some ⟨s + 1, 0, none⟩) n n)) (hgO : gO = w3.heap.size) (hO : OutI wr gO n n G) (hB : Below gO w3 wr) (hcO : wr.cell? ⟨gO + 1, 0, none⟩ = some (.slice (some ⟨gO, 0, none⟩) n n)) (hn : 0 < n)
    (hT : ∀ l ∈ T, l.length = n ∧ ∀ i, i < n → l.getD i 0 < n) (hTm : T.length ≤ 1000000)
    (hws : ws = (wr.alloc (.cells #[.slice none 0 0] 22)).alloc (.cells #[.func (.func 64) #[] #[.pointer (some ⟨s, 0, none⟩), .pointer (some ⟨wr.heap.size, 0, none⟩), .pointer (some ⟨gO + 1, 0, none⟩), .pointer (some ⟨s + 1 + 1, 0, none⟩), .pointer (some ⟨wr.heap.size + 1, 0, none⟩)]] 70)) :
    MCtx ws n s wr.heap.size (gO + 1) (s + 1 + 1) (wr.heap.size + 1) gO (s + 1) (fun r => G.getD r 0) T ∧ MI ws n wr.heap.size (fun r => G.getD r 0) (fun _ _ => -1) (.slice none 0 0) [] ws ∧ Below wr.heap.size wr ws := by
  have hbs : Below wr.heap.size wr ws := by rw [hws]; exact below_alloc2 wr _ _
  have hh := heap_alloc_new (wr.alloc (.cells #[.slice none 0 0] 22)) (.cells #[.func (.func 64) #[] #[.pointer (some ⟨s, 0, none⟩), .pointer (some ⟨wr.heap.size, 0, none⟩), .pointer (some ⟨gO + 1, 0, none⟩), .pointer (some ⟨s + 1 + 1, 0, none⟩), .pointer (some ⟨wr.heap.size + 1, 0, none⟩)]] 70)
  have s1 : (wr.alloc (.cells #[.slice none 0 0] 22)).heap.size = wr.heap.size + 1 := by simp
  have hv := (Below.heap_alloc (wr.alloc (.cells #[.slice none 0 0] 22)) (.cells #[.func (.func 64) #[] #[.pointer (some ⟨s, 0, none⟩), .pointer (some ⟨wr.heap.size, 0, none⟩), .pointer (some ⟨gO + 1, 0, none⟩), .pointer (some ⟨s + 1 + 1, 0, none⟩), .pointer (some ⟨wr.heap.size + 1, 0, none⟩)]] 70) wr.heap.size (by omega)).trans (heap_alloc_new wr _)
  rw [← hws] at hh hv
  rw [s1] at hh
  have hsz : ws.heap.size = wr.heap.size + 1 + 1 := by rw [hws]; simp
  have hgl : ∀ r, r < n → G.getD r 0 < wr.heap.size := fun r hr => (hO.2.2.1 r hr).lt
  have hgg : ∀ r, r < n → gO < G.getD r 0 := hO.2.2.2.1
  have hg3 : w3.heap.size ≤ wr.heap.size := hB.size
  have hOc : ∀ r, r < n → G.getD r 0 ≠ gO + 1 := fun r hr e => by
    have h1 := (hO.2.2.1 r hr).cell 0 (by simp; exact hn)
    rw [e, hcO] at h1
    cases h1
  have low : ∀ (p q : Nat) (x : Value), wr.cell? ⟨p, q, none⟩ = some x → (∀ r, r < n → p ≠ G.getD r 0) → CellR ws n wr.heap.size (fun r => G.getD r 0) p q x := fun p q x hx hp => by
    have hlt : p < wr.heap.size := lt_of_cell hx
    refine ⟨(hbs.cell (p := ⟨p, q, none⟩) hlt).trans hx, ?_⟩
    rintro (e | ⟨r, hr, e⟩)
    · omega
    · exact hp r hr e
  have low3 : ∀ (p q : Nat) (x : Value), w3.cell? ⟨p, q, none⟩ = some x → CellR ws n wr.heap.size (fun r => G.getD r 0) p q x := fun p q x hx => by
    have hlt : p < w3.heap.size := lt_of_cell hx
    refine low p q x ((hB.cell (p := ⟨p, q, none⟩) (by rw [hgO]; exact hlt)).trans hx) (fun r hr e => ?_)
    have h1 := hgg r hr
    have h2 : p = G.getD r 0 := e
    omega
  refine ⟨⟨low3 _ _ _ cN, low _ _ _ hcO (fun r hr e => hOc r hr e.symm), low3 _ _ _ cS, ⟨?_, ?_⟩, fun r hr => low _ _ _ (hO.cell hr) (fun q hq e => by have h1 := hgg q hq; have h2 : gO = G.getD q 0 := e; omega), fun r q hr hq e => ?_, fun r hr => ?_, fun r hr e => ?_, by omega, fun k hk => ?_, hT, hTm⟩, ⟨Kept.refl _ _, fun r hr => ?_, hv, BRow.nil _ _⟩, hbs⟩
  · rw [cell_of_row _ _ 0 _ _ _ hh]; rfl
  · rintro (e | ⟨r, hr, e⟩)
    · omega
    · have h1 := hgl r hr; have h2 : wr.heap.size + 1 = G.getD r 0 := e; omega
  · rcases Nat.lt_trichotomy r q with h | h | h
    · have := hO.2.2.2.2 r q h hq; have e : G.getD r 0 = G.getD q 0 := e; omega
    · exact h
    · have := hO.2.2.2.2 q r h hr; have e : G.getD r 0 = G.getD q 0 := e; omega
  · have := hgl r hr; show G.getD r 0 < _; omega
  · have := hgl r hr; have e : G.getD r 0 = wr.heap.size := e; omega
  · exact hI.mctx ((hB.trans (hbs.mono (by omega))).mono (by omega)) hg3 (fun r hr => by have := hgg r hr; show _ ≤ G.getD r 0; omega) hn hk
  · have h1 := (hO.2.2.1 r hr).below' hbs
    have e : lineM n (fun _ _ => -1) r = List.replicate n (-1) := by
      apply List.ext_getElem (by simp [lineM])
      intro i _ _
      simp [lineM]
    rw [e]
    exact h1
set_option maxRecDepth 100000 in
set_option maxHeartbeats 8000000 in
/-- bed.Mate -/
theorem f22_any (A : Option Addr) (n c : Nat) (b : List (List Int)) (w : World) (hs : Beds w A n c b) :
    Calls Tryd.prog 22 #[.slice A n c] w fun e w' => ∃ A' k c', e = .returned (.tuple #[.slice A' k c', .int .i64 (mateE b)]) ∧ BedsN w' w.heap.size A' k c' (mateL b) ∧ Below w.heap.size w w' := by
  have K60 := Lib.hid (f60_any A n c b w hs)
  have hbl := hs.len
  have hsm := hs.small
  cases hf : fullB b
  · rw [hf] at K60
    have hno : ¬ mateOk b := fun h => by rw [h.1] at hf; cases hf
    have HE : Hid (mateE b = 2 ∧ mateL b = []) := by unfold mateE mateL; rw [if_neg hno, if_neg hno]; exact ⟨rfl, rfl⟩
    clear hs hf hno
    go_enter Tryd.func22, Tryd.ntmps22
    go_wp2_with fail
    refine K60.out.mono ?_
    rintro e w1 ⟨rfl, hb⟩
    have HB := Lib.hid hb
    clear hb
    go_wp2
    go_ret2
    exact ⟨none, 0, 0, by rw [HE.out.1]; rfl, by rw [HE.out.2]; exact BedsN.nil _ _, HB.out⟩
  rw [hf] at K60
  by_cases h5 : 5 < n
  · have hno : ¬ mateOk b := fun h => by have := h.2; omega
    have HE : Hid (mateE b = 2 ∧ mateL b = []) := by unfold mateE mateL; rw [if_neg hno, if_neg hno]; exact ⟨rfl, rfl⟩
    clear hs hf hno
    go_enter Tryd.func22, Tryd.ntmps22
    go_wp2_with fail
    refine K60.out.mono ?_
    rintro e w1 ⟨rfl, hb⟩
    have HB := Lib.hid hb
    clear hb
    go_wp2
    go_ret2
    exact ⟨none, 0, 0, by rw [HE.out.1]; rfl, by rw [HE.out.2]; exact BedsN.nil _ _, HB.out⟩
  obtain ⟨hn1, hn7, hfull⟩ := fullB_iff.1 hf
  rw [hbl] at hn1 hn7 hfull
  have hok : mateOk b := ⟨hf, by omega⟩
  have HL : Hid (mateL b = mtF n (trans b n) n 0 (fun _ _ => -1) []) := by
    show mateL b = _
    unfold mateL; rw [if_pos hok, hbl]
  have HE : Hid (mateE b = if mateL b = [] then 10 else 0) := by
    show mateE b = _
    unfold mateE; rw [if_pos hok]
  have HF := Lib.hid hfull
  have HS := Lib.hid hs
  have hmk := make_sets n (by omega)
  have hmk2 := make_slices n (by omega)
  have hmf : ∀ (fn : Fn) (first cap : Array Value) (w : World), (Instr.makeFunc fn first cap).run Tryd.prog w = .ok (.func fn first cap) w := fun _ _ _ _ => rfl
  have hen := enter62
  have hen2 := enter64
  clear hs hf hfull hok
  go_enter Tryd.func22, Tryd.ntmps22
  go_wp2_with fail
  refine K60.out.mono ?_
  rintro e w1 ⟨rfl, hb⟩
  obtain ⟨wz, hwz, hbz, cN, oW, cS⟩ := mate_new w1 n
  obtain ⟨s, hs⟩ : ∃ s, s = w1.heap.size := ⟨_, rfl⟩
  have hsz : w.heap.size ≤ s := by rw [hs]; exact hb.size
  have BZ : Hid (Below w.heap.size w wz) := Lib.hid (hb.trans (hbz.mono (by rw [← hs]; exact hsz)))
  have IZ : Hid (SetsI n w.heap.size (s + 1 + 1) (s + 1) [] wz) := Lib.hid (SetsI.new (by rw [hs]; exact oW) (by omega) (by rw [hs]; exact cS) (by omega))
  have hNS : ¬ SOwn (s + 1) wz s := fun h => by
    have := OwnW.sown (by rw [hs]; exact oW) h
    omega
  have cNz : wz.cell? ⟨s, 0, none⟩ = some (.int .i64 (n : Int)) := by rw [hs]; exact cN
  have K61 := Lib.hid (f61_any n w.heap.size 62 #[.pointer (some ⟨s + 1 + 1, 0, none⟩)] false (SOwn (s + 1)) (SetsI n w.heap.size (s + 1 + 1) (s + 1)) (visit62 n w.heap.size (s + 1 + 1) (s + 1) (by omega) hn7) b w A c wz HF.out HS.out rfl BZ.out hn7 IZ.out)
  have cN1 := cell_new w1 #[.int .i64 (n : Int)] 3 0
  rw [← hs] at hwz
  clear hb hbz cN oW cS K60
  go_wp2_with fail
  rw [← hs]
  simp only [List.toArray_replicate] at hwz
  rw [← hwz]
  clear hwz cN1
  have HNS := Lib.hid hNS
  clear hNS hs
  refine K61.out.mono ?_
  rintro e w3 ⟨rfl, hI, hk⟩
  have hcN3 : w3.cell? ⟨s, 0, none⟩ = some (.int .i64 (n : Int)) := (World.cell?_of_block (hk.block s (lt_of_cell cNz) HNS.out)).trans cNz
  have cN3 := Lib.hid hcN3
  have I3 : Hid (SetsI n w.heap.size (s + 1 + 1) (s + 1) (trans b n) w3) := hI
  have B3 : Hid (Below w.heap.size w w3) := hk.below BZ.out BZ.out.size (fun i hi => (IZ.out.lt hi).1)
  have cS3 : Hid (w3.cell? ⟨s + 1 + 1, 0, none⟩ = some (.slice (some ⟨s + 1, 0, none⟩) n n)) := by obtain ⟨us, _, _, _, h4, _⟩ := I3.out; exact h4
  clear hI hk K61 BZ IZ HNS cNz
  obtain ⟨gO, hgO⟩ : ∃ z, z = w3.heap.size := ⟨_, rfl⟩
  have hsl : s < gO := by rw [hgO]; exact lt_of_cell cN3.out
  have hsl2 : s + 1 + 1 < gO := by rw [hgO]; exact lt_of_cell cS3.out
  obtain ⟨wd, hwd⟩ : ∃ z, z = (w3.alloc (.cells (List.replicate n (Value.slice none 0 0)).toArray 29)).alloc (.cells #[.slice (some ⟨gO, 0, none⟩) n n] 22) := ⟨_, rfl⟩
  have O0 : Hid (OutI wd gO n 0 []) := by
    show OutI wd gO n 0 []
    rw [hwd, hgO]
    exact (OutI.start w3 n).below (below_alloc _ _)
  have D0 : Hid (Below gO w3 wd) := by
    show Below gO w3 wd
    rw [hwd, hgO]; exact below_alloc2 w3 _ _
  have hcOd : wd.cell? ⟨gO + 1, 0, none⟩ = some (.slice (some ⟨gO, 0, none⟩) n n) := by
    have h := cell_new (w3.alloc (.cells (List.replicate n (Value.slice none 0 0)).toArray 29)) #[.slice (some ⟨gO, 0, none⟩) n n] 22 0
    rw [← hwd] at h
    rw [hgO] at h ⊢
    simpa using h
  have cOd := Lib.hid hcOd
  simp only [List.toArray_replicate] at hwd
  clear hcOd
  go_wp2_with fail
  rw [← hgO, ← hwd]
  have HGO := Lib.hid hgO
  clear hwd hgO hcN3 hmk hmk2
  go_loopw [29] (fun i wr => ∃ r : Nat, r ≤ n ∧ i = .int .i64 (r : Int) ∧ ∃ G, OutI wr gO n r G ∧ Below gO w3 wr ∧ wr.cell? ⟨gO + 1, 0, none⟩ = some (.slice (some ⟨gO, 0, none⟩) n n)) (fun i _ => n - (intOf i).toNat)
  case atStart => exact ⟨0, by omega, rfl, [], O0.out, D0.out, cOd.out⟩
  case round => as_aux_lemma =>
    obtain ⟨r, hr, rfl, G, hO, hB, hcO⟩ := hrel
    have HO := Lib.hid hO
    have HB := Lib.hid hB
    have HCO := Lib.hid hcO
    by_cases hlt : r < n
    · have hsp := HO.out.spot hlt
      have cNr : wr.cell? ⟨s, 0, none⟩ = some (.int .i64 (n : Int)) := hB.cell hsl |>.trans cN3.out
      have S1 : Hid (∀ W, Below wr.heap.size wr W → W.cell? ⟨gO + 1, 0, none⟩ = some (.slice (some ⟨gO, 0, none⟩) n n) ∧ W.cell? ⟨s, 0, none⟩ = some (.int .i64 (n : Int))) := Lib.hid fun W h => ⟨(h.cell (lt_of_cell HCO.out)).trans HCO.out, (h.cell (lt_of_cell cNr)).trans cNr⟩
      have S2 : Hid (∀ (W : World) (u : Value), (W.cell? ⟨gO + 1, 0, none⟩ = some (.slice (some ⟨gO, 0, none⟩) n n) ∧ W.cell? ⟨s, 0, none⟩ = some (.int .i64 (n : Int))) → ((W.setCell ⟨gO, r, none⟩ u).cell? ⟨gO + 1, 0, none⟩ = some (.slice (some ⟨gO, 0, none⟩) n n) ∧ (W.setCell ⟨gO, r, none⟩ u).cell? ⟨s, 0, none⟩ = some (.int .i64 (n : Int)))) := Lib.hid fun W u h => ⟨(World.cell?_setCell_other W ⟨gO, r, none⟩ ⟨gO + 1, 0, none⟩ u (fun e => by injection e with e; omega)).trans h.1, (World.cell?_setCell_other W ⟨gO, r, none⟩ ⟨s, 0, none⟩ u (fun e => by injection e with e; omega)).trans h.2⟩
      have SP : Hid (∀ W, Below wr.heap.size wr W → (∃ u, W.cell? ⟨gO, r, none⟩ = some u) ∧ W.frozen? ⟨gO, r, none⟩ = false) := Lib.hid fun W h => (HO.out.below h).spot hlt
      have K63 : Hid (∀ W, W.heap = (wr.alloc (.cells #[.int .i64 (-1)] 3)).heap → Calls Tryd.prog 63 #[.slice (some ⟨wr.heap.size, 0, none⟩) 1 1, .int .i64 (n : Int)] W fun e w' => ∃ g, e = .returned (.slice (some ⟨g, 0, none⟩) n n) ∧ Own w' g (List.replicate n (-1)) ∧ W.heap.size ≤ g ∧ Below W.heap.size W w') := Lib.hid fun W e => f63_one wr.heap.size n (-1) hn1 hn7 W (by
        rw [World.cell?_of_block (congrArg (fun h => h[wr.heap.size]?) e), cell_of_row _ _ 0 _ _ _ (heap_alloc_new wr _)]; rfl)
      have HSZ : Hid (gO ≤ wr.heap.size) := Lib.hid (by have := hB.size; have := HGO.out; omega)
      have r0 : (0 : Int) ≤ (r : Int) := by omega
      have rn : (r : Int) < (n : Int) := by omega
      clear hO hB hcO hsp
      go_wp2_with fail
      refine wp_region_held_drew (S := fun W => W.cell? ⟨gO + 1, 0, none⟩ = some (.slice (some ⟨gO, 0, none⟩) n n) ∧ W.cell? ⟨s, 0, none⟩ = some (.int .i64 (n : Int))) (by kernel_rfl) (⟨HCO.out, cNr⟩) (fun hS => ?_)
      refine wpAnyH_take (i := 0) (oi := { dst := some 32, op := Op.load 22 (Operand.tmp 6), type := 22, pos := "mate.go:95", after := #[], guard := none }) (v := .slice (some ⟨gO, 0, none⟩) n n) rfl (by kernel_rfl) (by kernel_rfl) (by kernel_rfl) (fun _ _ _ h => h) (Or.inl ⟨by kernel_rfl, fun W hSW => by have h1 := hSW.1; go_simp⟩) hS ?_
      try simp only [Act.put, List.setIfInBounds_toArray, List.set_cons_zero, List.set_cons_succ]
      refine wpAnyH_take (i := 1) (oi := { dst := some 33, op := Op.move (Operand.tmp 7), type := 3, pos := "mate.go:95", after := #[], guard := none }) (v := .int .i64 (r : Int)) rfl (by kernel_rfl) (by kernel_rfl) (by kernel_rfl) (fun _ _ _ h => h) (Or.inl ⟨by kernel_rfl, fun W hSW => by kernel_rfl⟩) hS ?_
      try simp only [Act.put, List.setIfInBounds_toArray, List.set_cons_zero, List.set_cons_succ]
      refine wpAnyH_take (i := 3) (oi := { dst := some 35, op := Op.load 3 (Operand.tmp 4), type := 3, pos := "mate.go:95", after := #[], guard := none }) (v := .int .i64 (n : Int)) rfl (by kernel_rfl) (by kernel_rfl) (by kernel_rfl) (fun _ _ _ h => h) (Or.inl ⟨by kernel_rfl, fun W hSW => by have h1 := hSW.2; go_simp⟩) hS ?_
      try simp only [Act.put, List.setIfInBounds_toArray, List.set_cons_zero, List.set_cons_succ]
      refine wpAnyH_ready (rs := [2]) (by kernel_rfl) (by simp) ?_
      refine AllReadyH.cons (o := { dst := some 34, op := Op.buildSlice 29 1 #[(0, Operand.const (Value.int IntKind.i64 (-1)))], type := 29, pos := "mate.go:95", after := #[], guard := none }) rfl (fun K hK => ?_) AllReadyH.nil
      go_simp
      refine hK.out _ _ (S1.out _ (by first | exact below_alloc wr _ | exact (below_alloc wr _).drew)) (fun hS => ?_)
      clear hK K
      try simp only [Act.put, List.setIfInBounds_toArray, List.set_cons_zero, List.set_cons_succ]
      refine wpAnyH_ready (rs := [4]) (by kernel_rfl) (by simp) ?_
      refine AllReadyH.cons (o := { dst := some 36, op := Op.call { callee := Callee.value (Operand.func 63), args := #[Operand.tmp 34, Operand.tmp 35], argTypes := #[29, 3] }, type := 29, pos := "mate.go:95", after := #[{ on := 2, ground := Ground.data }, { on := 3, ground := Ground.data }], guard := none }) rfl (fun K hK => ?_) AllReadyH.nil
      go_simp
      refine (K63.out _ (by rfl)).mono ?_
      rintro e w4 ⟨g, rfl, hg4, hge, hb4⟩
      have hq1 : Below wr.heap.size wr w4 := (by first | exact below_step (below_alloc wr _) hb4 | exact below_step (below_alloc wr _).drew hb4)
      have hge2 : wr.heap.size ≤ g := Nat.le_trans (Below.size (by first | exact below_alloc wr _ | exact (below_alloc wr _).drew)) hge
      have HQ1 := Lib.hid hq1
      have HG4 := Lib.hid hg4
      have HGE := Lib.hid hge2
      obtain ⟨⟨u4, hu4⟩, hz4⟩ := SP.out _ hq1
      clear hg4 hge hge2 hb4 hq1
      refine hK.out _ _ (S1.out _ HQ1.out) (fun hS => ?_)
      clear hK K
      try simp only [Act.put, List.setIfInBounds_toArray, List.set_cons_zero, List.set_cons_succ]
      refine wpAnyH_ready (rs := [5]) (by kernel_rfl) (by simp) ?_
      refine AllReadyH.cons (o := { dst := some 37, op := Op.indexAddr 22 (Operand.tmp 32) (Operand.tmp 33), type := 0, pos := "mate.go:95", after := #[{ on := 0, ground := Ground.data }, { on := 1, ground := Ground.data }, { on := 0, ground := Ground.phase }, { on := 1, ground := Ground.phase }, { on := 2, ground := Ground.phase }, { on := 3, ground := Ground.phase }, { on := 4, ground := Ground.phase }], guard := none }) rfl (fun K hK => ?_) AllReadyH.nil
      go_simp
      refine hK.out _ _ (hS) (fun hS => ?_)
      clear hK K
      try simp only [Act.put, List.setIfInBounds_toArray, List.set_cons_zero, List.set_cons_succ]
      refine wpAnyH_ready (rs := [6]) (by kernel_rfl) (by simp) ?_
      refine AllReadyH.cons (o := { dst := none, op := Op.store 29 (Operand.tmp 37) (Operand.tmp 36), type := 0, pos := "mate.go:95", after := #[{ on := 5, ground := Ground.data }, { on := 4, ground := Ground.data }, { on := 4, ground := Ground.chain }, { on := 0, ground := Ground.phase }, { on := 1, ground := Ground.phase }, { on := 2, ground := Ground.phase }, { on := 3, ground := Ground.phase }, { on := 4, ground := Ground.phase }], guard := none }) rfl (fun K hK => ?_) AllReadyH.nil
      go_simp
      refine hK.out _ _ (S2.out _ _ hS) (fun hS => ?_)
      clear hK K
      try simp only [Act.put, List.setIfInBounds_toArray, List.set_cons_zero, List.set_cons_succ]
      refine wpAnyH_done (by kernel_rfl) ?_ _
      have HO5 := Lib.hid (HO.out.next hlt HQ1.out HG4.out HGE.out)
      have HB5 : Hid (Below gO w3 (w4.setCell ⟨gO, r, none⟩ (.slice (some ⟨g, 0, none⟩) n n))) := Lib.hid ((HB.out.trans (HQ1.out.mono HSZ.out)).setCell (Nat.le_refl _) _)
      have HS5 := Lib.hid hS.1
      clear hS hu4 hz4
      go_wp2
      go_roundw
      case rel => exact ⟨r + 1, by omega, by go_num, _, HO5.out, HB5.out, HS5.out⟩
      case measure => simp [intOf]; omega
    · obtain rfl : r = n := by omega
      obtain ⟨ws, hws⟩ : ∃ z, z = (wr.alloc (.cells #[.slice none 0 0] 22)).alloc (.cells #[.func (.func 64) #[] #[.pointer (some ⟨s, 0, none⟩), .pointer (some ⟨wr.heap.size, 0, none⟩), .pointer (some ⟨gO + 1, 0, none⟩), .pointer (some ⟨s + 1 + 1, 0, none⟩), .pointer (some ⟨wr.heap.size + 1, 0, none⟩)]] 70) := ⟨_, rfl⟩
      obtain ⟨hMC, hMI, hbs⟩ := mate_ctx I3.out cN3.out cS3.out HGO.out hO hB hcO hn1 trans_mem (trans_many hn7) hws
      have K64 := Lib.hid (f64_any ws r s wr.heap.size (gO + 1) (s + 1 + 1) (wr.heap.size + 1) gO (s + 1) (fun r => G.getD r 0) (trans b r) hMC hn1 (by omega) r 0 (by omega) (fun _ _ => -1) (.slice none 0 0) [] ws hMI (.inl rfl) (fun _ => rfl) (fun _ _ => .inl rfl))
      have hBW : Below w.heap.size w ws := by
        have h1 := B3.out.size
        have h2 := hB.size
        have h3 := HGO.out
        exact (B3.out.trans (hB.mono (by omega))).trans (hbs.mono (by omega))
      have HBW : Hid (∀ w', Kept (fun _ i => OwnM r wr.heap.size (fun r => G.getD r 0) i) ws w' → Below w.heap.size w w') := Lib.hid fun w' k => k.below hBW hBW.size (fun i hi => by
        have h1 := B3.out.size
        have h2 := hB.size
        have h3 := HGO.out
        rcases hi with e | ⟨q, hq, e⟩
        · omega
        · have := hO.2.2.2.1 q hq
          have e : i = G.getD q 0 := e
          omega)
      have HSW : Hid (w.heap.size ≤ ws.heap.size) := Lib.hid hBW.size
      have HMG : Hid (MG r (mateL b)) := Lib.hid (by rw [HL.out]; exact mtF_shape r 0 _ [] (.inl rfl))
      rw [← HL.out] at K64
      have hF64 : ws.cell? ⟨wr.heap.size + 1, 0, none⟩ = some (.func (.func 64) #[] #[.pointer (some ⟨s, 0, none⟩), .pointer (some ⟨wr.heap.size, 0, none⟩), .pointer (some ⟨gO + 1, 0, none⟩), .pointer (some ⟨s + 1 + 1, 0, none⟩), .pointer (some ⟨wr.heap.size + 1, 0, none⟩)]) := hMC.cF.1
      clear hO hB hcO hMC hMI hbs hBW hF64
      go_wp2_with fail
      rw [← hws]
      clear hws
      refine K64.out.mono ?_
      rintro e w4 ⟨rfl, v4, hM4, hN4⟩
      have HM4 := Lib.hid hM4
      have cB4 := hM4.var
      cases hml : mateL b with
      | nil =>
        have hv4 := hN4 hml
        subst hv4
        have HML := Lib.hid hml
        have HEE : Hid (mateE b = 10) := Lib.hid (by rw [HE.out, if_pos hml])
        clear hM4 hN4 hml
        go_wp2
        go_ret2
        exact ⟨none, 0, 0, by rw [HEE.out]; rfl, by rw [HML.out]; exact BedsN.nil _ _, HBW.out _ HM4.out.1⟩
      | cons x xs =>
        have hne : mateL b ≠ [] := by rw [hml]; simp
        have HEE : Hid (mateE b = 0) := Lib.hid (by rw [HE.out, if_neg hne])
        have hsq : sqShape r (mateL b) := HMG.out.resolve_left hne
        obtain ⟨A4, c4, hv4, hN⟩ := hM4.2.2.2.bedsN (by have := hsq.1; omega) (fun j => by have := HMG.out.rows j; omega)
        rw [hsq.1] at hv4 hN
        subst hv4
        obtain ⟨g4, o4, hA4, _⟩ := hN.2.2.2.2 (by omega)
        subst hA4
        have HN := Lib.hid (hN.mono HSW.out)
        clear hM4 hN4 hne hN hml hsq
        go_wp2
        go_ret2
        exact ⟨_, _, _, by rw [HEE.out]; rfl, HN.out, HBW.out _ HM4.out.1⟩
end Go.Proofs.YtiodednhadnekaaDoor
