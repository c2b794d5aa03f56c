/- Walks: Mate$2. -/
import Derived.Test.YtiodednhadnekaaDoorW25
namespace Go.Proofs.YtiodednhadnekaaDoor
open Go.RowKit Go.Deep
attribute [local go_sem ↓] Go.wp_at_zero Go.wp_at_succ

section
variable (w0 : World) (n pN pB pO pS pOn gO gS : Nat) (gr : Nat → Nat) (T : List (List Nat))
/-- What lies at a place that is tried. -/
theorem MI.spot {w0 w : World} {n pN pB pO pS pOn gO gS : Nat} {gr : Nat → Nat} {T : List (List Nat)} {o : Nat → Nat → Int} {v : Value} {best : List (List Int)} (h : MI w0 n pB gr o v best w) (hC : MCtx w0 n pN pB pO pS pOn gO gS gr T) {r c : Nat} (hr : r < n) (hc : c < n) :
    w.cell? ⟨pO, 0, none⟩ = some (.slice (some ⟨gO, 0, none⟩) n n) ∧ w.cell? ⟨gO, r, none⟩ = some (.slice (some ⟨gr r, 0, none⟩) n n) ∧ w.cell? ⟨gr r, c, none⟩ = some (.int .i64 (o r c)) ∧ w.frozen? ⟨gr r, c, none⟩ = false := by
  have ho := h.2.1 r hr
  refine ⟨h.read hC.cO, h.read (hC.out r hr), ?_, ho.frozen c⟩
  rw [ho.cell c (by rw [lineM_len]; exact hc), lineM_get o r hc]
set_option maxRecDepth 100000 in
set_option maxHeartbeats 8000000 in
theorem f64_step (hC : MCtx w0 n pN pB pO pS pOn gO gS gr T) (hn : 0 < n) (hn5 : n ≤ 5) (f k : Nat) (hk : k < n) (ih : OnM w0 n pN pB pO pS pOn gr T f (k + 1)) : OnM w0 n pN pB pO pS pOn gr T (f + 1) k := by
  intro o v best w hM hG hnil ho
  have HM := Lib.hid hM
  have HC := Lib.hid hC
  have HIH := Lib.hid ih
  have HO := Lib.hid ho
  have HG := Lib.hid hG
  have HNIL := Lib.hid hnil
  obtain ⟨B, m, c, hsc, hm, hent⟩ := hC.sets k hk
  have HENT := Lib.hid hent
  have HSUC : Hid (mtF n T (f + 1) k o best = mtTo n T f k o best m) := by rw [hm]; exact mtF_succ n T f k o best
  have HT : Hid (∀ i, i < m → mtTo n T f k o best (i + 1) = mtStep n T f k o (mtTo n T f k o best i) ((byCol T k).getD i [])) := fun i hi => mtTo_succ (by rw [← hm]; exact hi)
  have HLT : Hid (∀ i, i < m → (((byCol T k).getD i []).length = n ∧ ∀ j, j < n → ((byCol T k).getD i []).getD j 0 < n)) := fun i hi => hC.lens _ (byCol_mem (by rw [← hm]; exact hi))
  have hmm : m ≤ 1000000 := by rw [hm]; exact Nat.le_trans (List.length_filter_le _ _) hC.many
  have cN := hM.read hC.cN
  have cS := hM.read hC.cS
  have cSk := hM.read hsc
  have k0 : (0 : Int) ≤ (k : Int) := by omega
  have kn : (k : Int) < (n : Int) := by omega
  have hq : ((k : Int) == (n : Int)) = false := by simp; omega
  have hen := enter64
  clear hM hC hG hnil ho ih hm hent hsc
  go_enter Tryd.func64, Tryd.ntmps64
  go_wp2
  go_loopw [46] (fun i wr => ∃ q : Nat, q ≤ m ∧ i = .int .i64 (q : Int) ∧ ∃ v', MI w0 n pB gr o v' (mtTo n T f k o best q) wr ∧ (mtTo n T f k o best q = [] → v' = .slice none 0 0)) (fun i _ => m - (intOf i).toNat)
  case atStart => exact ⟨0, by omega, rfl, v, HM.out, HNIL.out⟩
  case round => as_aux_lemma =>
    obtain ⟨q, hqm, rfl, v', hm, hnil⟩ := hrel
    have HMq := Lib.hid hm
    have HNq := Lib.hid hnil
    have HGq := Lib.hid (mtTo_shape (T := T) (f := f) (k := k) (o := o) HG.out q)
    by_cases hlt : q < m
    · obtain ⟨b, ob, rfl, b', o', c', hcb, hcl⟩ := HENT.out q hlt
      obtain ⟨hl1, hl2⟩ := HLT.out q hlt
      have HNX := HT.out q hlt
      obtain ⟨bst, hbst⟩ : ∃ z, z = mtTo n T f k o best q := ⟨_, rfl⟩
      obtain ⟨l, hl⟩ : ∃ z, z = (byCol T k).getD q [] := ⟨_, rfl⟩
      rw [← hbst] at HMq HNq HGq HNX
      rw [← hl] at hcl hl1 hl2 HNX
      have HL2 := Lib.hid hl2
      have HCL : Hid (∀ (o2 : Nat → Nat → Int) (v2 : Value) (b2 : List (List Int)) (W : World) (j : Nat), MI w0 n pB gr o2 v2 b2 W → j < n → W.cell? ⟨b', o' + j, none⟩ = some (.int .i64 (l.getD j 0 : Nat))) := fun o2 v2 b2 W j h hj => h.read (hcl j hj)
      have HNX' := Lib.hid HNX
      have cb := hm.read hcb
      have q0 : (0 : Int) ≤ (q : Int) := by omega
      have qm : (q : Int) < (m : Int) := by omega
      clear hm hnil hcb hcl hl2 HNX hbst hl
      go_wp2
      go_loop [52, 11] (fun i t => ∃ r : Nat, r ≤ n ∧ i = .int .i64 (r : Int) ∧ t = .bool (freeTo r l o)) (fun i _ => n - (intOf i).toNat)
      case atStart => exact ⟨0, by omega, rfl, rfl⟩
      case round => as_aux_lemma =>
        obtain ⟨r, hr, rfl, rfl⟩ := hrel
        by_cases hrn : r < n
        · have cl := HCL.out _ _ _ _ r HMq.out hrn
          have hx := HL2.out r hrn
          have HFS := Lib.hid (freeTo_succ r l o)
          obtain ⟨s1, s2, s3, _⟩ := HMq.out.spot HC.out hrn hx
          generalize l.getD r 0 = x at *
          have r0 : (0 : Int) ≤ (r : Int) := by omega
          have rn : (r : Int) < (n : Int) := by omega
          have x0 : (0 : Int) ≤ (x : Int) := by omega
          have xn : (x : Int) < (n : Int) := by omega
          generalize o r x = y at *
          cases hf : freeTo r l o
          · rw [hf, Bool.false_and] at HFS
            have HFS' := Lib.hid HFS.out.symm
            clear hf HFS
            go_wp2
            go_round
            case rel => exact ⟨r + 1, by omega, by go_num, by rw [← HFS'.out]⟩
            case measure => simp [intOf]; omega
          · rw [hf, Bool.true_and] at HFS
            have HFS' := Lib.hid HFS.out.symm
            clear hf HFS
            go_wp2
            go_round
            case rel => exact ⟨r + 1, by omega, by go_num, by rw [← HFS'.out]⟩
            case measure => simp [intOf]; omega
        · obtain rfl : r = n := by omega
          cases hf : freeTo r l o
          · have HE : Hid (mtTo r T f k o best (q + 1) = bst) := by
              show mtTo r T f k o best (q + 1) = bst
              rw [HNX'.out]; unfold mtStep; rw [hf]; rfl
            clear hf
            go_wp2
            go_roundw
            case rel => exact ⟨q + 1, by omega, by go_num, v', by rw [HE.out]; exact ⟨HMq.out, HNq.out⟩⟩
            case measure => simp [intOf]; omega
          · have HE : Hid (mtTo r T f k o best (q + 1) = mtF r T f (k + 1) (layTo r l k o) bst) := by
              show mtTo r T f k o best (q + 1) = mtF r T f (k + 1) (layTo r l k o) bst
              rw [HNX'.out]; unfold mtStep; rw [hf]; rfl
            have HUN : Hid (layTo r l (-1) (layTo r l k o) = o) := unlay hf HO.out k
            have HLO := Lib.hid (lay_ok (n := r) (l := l) HO.out k)
            clear hf
            go_wp2
            go_loopw [73] (fun i ws => ∃ s : Nat, s ≤ r ∧ i = .int .i64 (s : Int) ∧ MI w0 r pB gr (layTo s l k o) v' bst ws) (fun i _ => r - (intOf i).toNat)
            case atStart => exact ⟨0, by omega, rfl, by rw [layTo_zero]; exact HMq.out⟩
            case round => as_aux_lemma =>
              obtain ⟨s, hs, rfl, hms⟩ := hrel
              have HMs := Lib.hid hms
              clear hms
              by_cases hsn : s < r
              · have cl := HCL.out _ _ _ _ s HMs.out hsn
                have hx := HL2.out s hsn
                have HFS := Lib.hid (layTo_succ s l k o)
                obtain ⟨s1, s2, s3, s4⟩ := HMs.out.spot HC.out hsn hx
                have HMn := Lib.hid (HMs.out.lay HC.out hsn k HFS.out)
                generalize l.getD s 0 = x at *
                have r0 : (0 : Int) ≤ (s : Int) := by omega
                have rn : (s : Int) < (r : Int) := by omega
                have x0 : (0 : Int) ≤ (x : Int) := by omega
                have xn : (x : Int) < (r : Int) := by omega
                clear HFS
                go_wp2
                go_roundw
                case rel => exact ⟨s + 1, by omega, by go_num, HMn.out⟩
                case measure => simp [intOf]; omega
              · obtain rfl : s = r := by omega
                have cF := HMs.out.read HC.out.cF
                have K64 := Lib.hid (HIH.out (layTo s l k o) v' bst wr HMs.out HGq.out HNq.out HLO.out)
                go_wp2_with fail
                refine K64.out.mono ?_
                rintro e w2 ⟨rfl, v2, h1, h2⟩
                have HM2 := Lib.hid h1
                have HN2 := Lib.hid h2
                clear h1 h2
                go_wp2
                go_loopw [92] (fun i ws => ∃ t : Nat, t ≤ s ∧ i = .int .i64 (t : Int) ∧ MI w0 s pB gr (layTo t l (-1) (layTo s l k o)) v2 (mtF s T f (k + 1) (layTo s l k o) bst) ws) (fun i _ => s - (intOf i).toNat)
                case atStart => exact ⟨0, by omega, rfl, by rw [layTo_zero]; exact HM2.out⟩
                case round => as_aux_lemma =>
                  obtain ⟨t, ht, rfl, hmt⟩ := hrel
                  have HMt := Lib.hid hmt
                  clear hmt
                  by_cases hts : t < s
                  · have cl := HCL.out _ _ _ _ t HMt.out hts
                    have hx := HL2.out t hts
                    have HFS := Lib.hid (layTo_succ t l (-1) (layTo s l k o))
                    obtain ⟨s1, s2, s3, s4⟩ := HMt.out.spot HC.out hts hx
                    have HMn := Lib.hid (HMt.out.lay HC.out hts (-1) HFS.out)
                    generalize l.getD t 0 = x at *
                    have r0 : (0 : Int) ≤ (t : Int) := by omega
                    have rn : (t : Int) < (s : Int) := by omega
                    have x0 : (0 : Int) ≤ (x : Int) := by omega
                    have xn : (x : Int) < (s : Int) := by omega
                    clear HFS
                    go_wp2
                    go_roundw
                    case rel => exact ⟨t + 1, by omega, by go_num, HMn.out⟩
                    case measure => simp [intOf]; omega
                  · obtain rfl : t = s := by omega
                    have HME : Hid (MI w0 t pB gr o v2 (mtTo t T f k o best (q + 1)) wr ∧ (mtTo t T f k o best (q + 1) = [] → v2 = .slice none 0 0)) := by
                      have h := HMt.out
                      rw [HUN.out] at h
                      show MI w0 t pB gr o v2 (mtTo t T f k o best (q + 1)) wr ∧ (mtTo t T f k o best (q + 1) = [] → v2 = .slice none 0 0)
                      rw [HE.out]
                      exact ⟨h, HN2.out⟩
                    clear HMt
                    go_wp2
                    go_roundw
                    case rel => exact ⟨q + 1, by omega, by go_num, v2, HME.out⟩
                    case measure => simp [intOf]; omega
    · obtain rfl : q = m := by omega
      have HF : Hid (MI w0 n pB gr o v' (mtF n T (f + 1) k o best) wr ∧ (mtF n T (f + 1) k o best = [] → v' = .slice none 0 0)) := by rw [HSUC.out]; exact ⟨HMq.out, HNq.out⟩
      clear hm hnil HMq HNq HGq
      go_wp2
      go_end0
      exact ⟨rfl, v', HF.out⟩
/-- bed.Mate$2 -/
theorem f64_any (hC : MCtx w0 n pN pB pO pS pOn gO gS gr T) (hn : 0 < n) (hn5 : n ≤ 5) : ∀ (f k : Nat), k + f = n → OnM w0 n pN pB pO pS pOn gr T f k
  | 0, k, h => by
    obtain rfl : k = n := by omega
    exact f64_end w0 k pN pB pO pS pOn gO gS gr T hC hn hn5
  | f + 1, k, h => f64_step w0 n pN pB pO pS pOn gO gS gr T hC hn hn5 f k (by omega) (f64_any hC hn hn5 f (k + 1) (by omega))
end
end Go.Proofs.YtiodednhadnekaaDoor
