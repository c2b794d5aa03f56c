/- Walks: slices.Clone; the filler: filled. -/
import Derived.Test.YtiodednhadnekaaDoorW10
namespace Go.Proofs.YtiodednhadnekaaDoor
open Go.RowKit Go.Deep

set_option maxRecDepth 100000 in
set_option maxHeartbeats 1000000 in
/-- slices.Clone at ints -/
theorem f68_any (B : Option Addr) (m d : Nat) (xs : List Int) (w : World) (hs : Ints w B m xs) (hnil : B = none → m = 0 ∧ d = 0) (hm : m ≤ 100000) :
    Calls Tryd.prog 68 #[.slice B m d] w fun e w' => ∃ v, e = .returned v ∧ Row w' w.heap.size v xs ∧ Below w.heap.size w w' := by
  cases B with
  | none =>
    obtain ⟨rfl, rfl⟩ := hnil rfl
    have hx : xs = [] := List.eq_nil_of_length_eq_zero hs.len
    subst hx
    have e0 := Lib.run_eql_slice_nil (P := Tryd.prog) w 29 3 none 0 0 0 0 Tryd.underlying29
    clear hs hnil
    go_enter Tryd.func68, Tryd.ntmps68
    go_wp2
    go_ret
    exact ⟨_, rfl, Row.nil _ _, Below.refl _ _⟩
  | some a =>
    have e0 := Lib.run_eql_slice_nil (P := Tryd.prog) w 29 3 (some a) m d 0 0 Tryd.underlying29
    have HS := Lib.hid hs
    have hl := Lib.hid hs.len
    clear hs hnil
    go_enter Tryd.func68, Tryd.ntmps68
    go_wp2_with (at_builtin; refine wpList_pushAll rfl (.tmp 5) (.tmp 6) rfl w.heap.size _ [] rfl (Row.empty w w.heap.size (Nat.le_refl _)) (some a) m d xs rfl ?hn ?hi ?hl ?hb ?hr)
    case hn => exact fun h => by cases h
    case hi => exact HS.out.below (below_alloc _ _)
    case hl => simp; omega
    case hb => simp
    case hr =>
      intro v' w' hr hg
      have HR := Lib.hid hr
      have HB : Hid (Below w.heap.size w w') := below_grown (below_alloc w _) hg (by simp) (Row.empty w w.heap.size (Nat.le_refl _)) (Nat.le_refl _)
      clear hr hg
      go_wp2
      go_ret
      exact ⟨_, rfl, by simpa using HR.out, HB.out⟩
/-! ### a filler that is being laid -/
def atP (n : Nat) (b : List (List Int)) (r c i j : Nat) : Int := if (i < n ∧ j < n) ∧ (i < r ∨ (i = r ∧ j < c)) then gAt b i j else 0
def rowP (n : Nat) (b : List (List Int)) (r c i : Nat) : Nat := orN (fun j => bit1 (gAt b i j)) (if i < r then n else if i = r then c else 0)
def colP (n : Nat) (b : List (List Int)) (r c j : Nat) : Nat := if j < n then orN (fun i => bit1 (gAt b i j)) (if j < c then r + 1 else r) else 0
def FilP (w : World) (p n : Nat) (b : List (List Int)) (r c : Nat) : Prop := Fil w p n (atP n b r c) (rowP n b r c) (colP n b r c)
section
variable {w : World} {p n : Nat} {b : List (List Int)}
theorem FilP.done (h : FilP w p n b n 0) : FilB w p n b := Fil.congr h (fun i j _ _ => by
    unfold atF atP
    by_cases e : i < n ∧ j < n
    · rw [if_pos e, if_pos ⟨e, .inl e.1⟩]
    · rw [if_neg e, if_neg (fun h => e h.1)])
  (fun i _ => by
    unfold rowF rowP
    by_cases e : i < n
    · rw [if_pos e, if_pos e]; rfl
    · rw [if_neg e, if_neg e]; split <;> rfl)
  (fun j _ => by
    unfold colF colP
    by_cases e : j < n
    · rw [if_pos e, if_pos e, if_neg (by omega)]; rfl
    · rw [if_neg e, if_neg e])
theorem FilP.next {r : Nat} (h : FilP w p n b r n) : FilP w p n b (r + 1) 0 := Fil.congr h (fun i j _ _ => by
    unfold atP
    by_cases e : i < n ∧ j < n
    · by_cases e2 : i < r ∨ (i = r ∧ j < n)
      · rw [if_pos ⟨e, by omega⟩, if_pos ⟨e, e2⟩]
      · rw [if_neg (by omega), if_neg (by omega)]
    · rw [if_neg (by omega), if_neg (by omega)])
  (fun i _ => by
    unfold rowP
    by_cases e : i < r
    · rw [if_pos (by omega), if_pos e]
    · by_cases e2 : i = r
      · rw [if_pos (by omega), if_neg e, if_pos e2]
      · rw [if_neg (by omega), if_neg e, if_neg e2]; split <;> rfl)
  (fun j _ => by
    unfold colP
    by_cases e : j < n
    · rw [if_pos e, if_pos e, if_neg (by omega), if_pos e]
    · rw [if_neg e, if_neg e])
theorem or_bit1 (R : Nat) (x : Int) (h : ¬ 0 ≤ x) : R ||| bit1 x = R := by unfold bit1; rw [if_neg h, Nat.or_zero]
theorem bit1_pos (x : Nat) : bit1 (x : Int) = 2 ^ x := by unfold bit1; rw [if_pos (by omega), Int.toNat_natCast]
/-- One place more. -/
theorem FilP.step {r c : Nat} (hr : r < n) (hc : c < n)
    (h : Fil w p n (fun i j => if i = r ∧ j = c then gAt b r c else atP n b r c i j) (fun i => if i = r then rowP n b r c r ||| bit1 (gAt b r c) else rowP n b r c i) (fun j => if j = c then colP n b r c c ||| bit1 (gAt b r c) else colP n b r c j)) : FilP w p n b r (c + 1) := by
  show Fil w p n (atP n b r (c + 1)) (rowP n b r (c + 1)) (colP n b r (c + 1))
  refine Fil.congr h (fun i j _ _ => ?_) (fun i _ => ?_) (fun j _ => ?_)
  · unfold atP
    by_cases e1 : i = r ∧ j = c
    · rw [if_pos e1, e1.1, e1.2, if_pos ⟨⟨hr, hc⟩, by omega⟩]
    · rw [if_neg e1]
      by_cases e : (i < n ∧ j < n) ∧ (i < r ∨ (i = r ∧ j < c))
      · rw [if_pos e, if_pos ⟨e.1, by omega⟩]
      · rw [if_neg e, if_neg (by omega)]
  · unfold rowP
    by_cases e : i = r
    · subst e; simp only [Nat.lt_irrefl, if_true, if_false]; rfl
    · simp only [if_neg e]
  · unfold colP
    by_cases e : j = c
    · subst e; rw [if_pos rfl, if_pos hc, if_pos hc, if_pos (by omega), if_neg (by omega)]; rfl
    · rw [if_neg e]
      by_cases e2 : j < n
      · rw [if_pos e2, if_pos e2]
        by_cases e3 : j < c
        · rw [if_pos e3, if_pos (by omega)]
        · rw [if_neg e3, if_neg (by omega)]
      · rw [if_neg e2, if_neg e2]
theorem rowP_lt (h : IsBed n b) {r c : Nat} (hr : r < n) (hc : c ≤ n) : rowP n b r c r < 2 ^ n := by
  unfold rowP
  rw [if_neg (by omega), if_pos rfl]
  exact orN_lt fun j hj => bit1_lt (h.lo r j hr (by omega)).2
theorem colP_lt (h : IsBed n b) {r c : Nat} (hr : r < n) (hc : c < n) : colP n b r c c < 2 ^ n := by
  unfold colP
  rw [if_pos hc, if_neg (by omega)]
  exact orN_lt fun i hi => bit1_lt (h.lo i c (by omega) hc).2
end
/-- A filler as it is made. -/
theorem fil_new (w : World) (n : Nat) (b : List (List Int)) : ∃ w0, w0 = w.alloc (.cells #[.int .i64 (n : Int), .int .i64 0, .int .i64 0, .int .i64 0, .int .i64 0, .int .i64 0, .int .i64 0, .int .i64 0, .int .i64 0, .int .i64 0, .int .i64 0, .int .i64 0, .int .i64 0, .int .i64 0, .int .i64 0, .int .i64 0, .int .i64 0, .int .i64 0, .int .i64 0, .int .i64 0, .int .i64 0, .int .i64 0, .int .i64 0, .int .i64 0, .int .i64 0, .int .i64 0, .int .i64 0, .int .i64 0, .int .i64 0, .int .i64 0, .int .i64 0, .int .i64 0, .int .i64 0, .int .i64 0, .int .i64 0, .int .i64 0, .int .i64 0, .int .i64 0, .int .i64 0, .int .i64 0, .int .i64 0, .int .i64 0, .int .i64 0, .int .i64 0, .int .i64 0, .int .i64 0, .int .i64 0, .int .i64 0, .int .i64 0, .int .i64 0, .int .i64 0, .int .i64 0, .int .i64 0, .int .i64 0, .int .i64 0, .int .i64 0, .int .i64 0, .int .i64 0, .int .i64 0, .int .i64 0, .int .i64 0, .int .i64 0, .int .i64 0, .int .i64 0] 62) ∧ FilP w0 w.heap.size n b 0 0 ∧ Below w.heap.size w w0 := by
  refine ⟨_, rfl, ?_, below_alloc _ _⟩
  have h : Fil (w.alloc (.cells #[.int .i64 (n : Int), .int .i64 0, .int .i64 0, .int .i64 0, .int .i64 0, .int .i64 0, .int .i64 0, .int .i64 0, .int .i64 0, .int .i64 0, .int .i64 0, .int .i64 0, .int .i64 0, .int .i64 0, .int .i64 0, .int .i64 0, .int .i64 0, .int .i64 0, .int .i64 0, .int .i64 0, .int .i64 0, .int .i64 0, .int .i64 0, .int .i64 0, .int .i64 0, .int .i64 0, .int .i64 0, .int .i64 0, .int .i64 0, .int .i64 0, .int .i64 0, .int .i64 0, .int .i64 0, .int .i64 0, .int .i64 0, .int .i64 0, .int .i64 0, .int .i64 0, .int .i64 0, .int .i64 0, .int .i64 0, .int .i64 0, .int .i64 0, .int .i64 0, .int .i64 0, .int .i64 0, .int .i64 0, .int .i64 0, .int .i64 0, .int .i64 0, .int .i64 0, .int .i64 0, .int .i64 0, .int .i64 0, .int .i64 0, .int .i64 0, .int .i64 0, .int .i64 0, .int .i64 0, .int .i64 0, .int .i64 0, .int .i64 0, .int .i64 0, .int .i64 0] 62)) w.heap.size n (fun _ _ => 0) (fun _ => 0) (fun _ => 0) := by
    unfold Fil
    exact heap_alloc_new w _
  exact Fil.congr h (fun i j _ _ => by unfold atP; rw [if_neg (by omega)]) (fun i _ => by unfold rowP; rw [if_neg (by omega)]; split <;> rfl) (fun j _ => by unfold colP; rw [if_neg (show ¬ j < 0 by omega)]; split <;> rfl)
set_option maxRecDepth 100000 in
set_option maxHeartbeats 4000000 in
/-- bed.filled -/
theorem f54_any (A : Option Addr) (n c : Nat) (b : List (List Int)) (w : World) (hs : Beds w A n c b) (hb : IsBed n b) (hn : n ≤ 7) :
    Calls Tryd.prog 54 #[.slice A n c] w fun e w' => e = .returned (.pointer (some ⟨w.heap.size, 0, none⟩)) ∧ FilB w' w.heap.size n b ∧ Below w.heap.size w w' := by
  have HS := Lib.hid hs
  have HB := Lib.hid hb
  have HROW : Hid (∀ i, i < n → (b.getD i []).length = n) := hb.shape.2
  have h128 := two_pow_128 hn
  clear hs hb
  obtain ⟨w0, hw0, hF, hbel⟩ := fil_new w n b
  have F0 := Lib.hid hF
  have B0 := Lib.hid hbel
  clear hF hbel
  go_enter Tryd.func54, Tryd.ntmps54
  go_wp2
  rw [← hw0]
  clear hw0
  obtain ⟨p, hp⟩ : ∃ p, p = w.heap.size := ⟨_, rfl⟩
  rw [← hp] at F0 B0
  have HP := Lib.hid hp
  rw [← hp]
  clear hp
  go_loopw [14] (fun i wr => ∃ r : Nat, r ≤ n ∧ i = .int .i64 (r : Int) ∧ FilP wr p n b r 0 ∧ Below p w wr) (fun i _ => n - (intOf i).toNat)
  case atStart => exact ⟨0, by omega, rfl, F0.out, B0.out⟩
  case round => as_aux_lemma =>
    obtain ⟨r, hr, rfl, hf, hbel⟩ := hrel
    have HF := Lib.hid hf
    have HBL := Lib.hid hbel
    clear hf hbel
    by_cases hlt : r < n
    · obtain ⟨g, o, rfl, B, d, hc, _, _, hi⟩ := (HS.out.below (by rw [← HP.out]; exact HBL.out)).at_ hlt
      rw [HROW.out r hlt] at hc hi
      have HI : Hid (∀ W, Below p w W → Ints W B n (b.getD r [])) := fun W hb => by
        obtain ⟨g2, o2, e2, B2, d2, hc2, _, _, hi2⟩ := (HS.out.below (by rw [← HP.out]; exact hb)).at_ hlt
        injection e2 with e2
        injection e2 with e3 e4
        subst e3 e4
        obtain ⟨g3, o3, e5, B3, d3, hc3, _, _, hi3⟩ := HS.out.at_ hlt
        injection e5 with e5
        injection e5 with e6 e7
        subst e6 e7
        have hz := lt_of_cell hc3
        rw [← HP.out] at hz
        have h1 : wr.cell? ⟨g, o + r, none⟩ = w.cell? ⟨g, o + r, none⟩ := HBL.out.cell hz
        have h2 : W.cell? ⟨g, o + r, none⟩ = w.cell? ⟨g, o + r, none⟩ := hb.cell hz
        rw [h1] at hc
        rw [h2, hc] at hc2
        injection hc2 with hc2
        injection hc2 with e8 e9 e10
        rw [e8]
        rw [HROW.out r hlt] at hi2
        exact hi2
      have r0 : (0 : Int) ≤ (r : Int) := by omega
      have r7 : (r : Int) < 7 := by omega
      clear hi
      go_wp2
      go_loopw [21] (fun i wr => ∃ k : Nat, k ≤ n ∧ i = .int .i64 (k : Int) ∧ FilP wr p n b r k ∧ Below p w wr) (fun i _ => n - (intOf i).toNat)
      case atStart => exact ⟨0, by omega, rfl, HF.out, HBL.out⟩
      case round => as_aux_lemma =>
        obtain ⟨k, hk, rfl, hf, hbel⟩ := hrel
        have HBL := Lib.hid hbel
        by_cases hlk : k < n
        · obtain ⟨g2, o2, rfl, hc2⟩ := (HI.out _ HBL.out).at_ hlk
          have hlo := HB.out.lo r k hlt hlk
          have l1 := rowP_lt HB.out hlt hk
          have l2 := colP_lt HB.out hlt hlk
          have F1 := hf.setAt (show r < 7 by omega) (show k < 7 by omega) (gAt b r k)
          have g1 := hf.at_ (show r < 7 by omega) (show k < 7 by omega)
          have g3 := hf.frozen (1 + r * 7 + k)
          obtain ⟨w1, hw1⟩ : ∃ z, z = wr.setCell ⟨p, 1 + r * 7 + k, none⟩ (.int .i64 (gAt b r k)) := ⟨_, rfl⟩
          rw [← hw1] at F1
          have B1 : Hid (Below p w w1) := by rw [hw1]; exact hbel.setCell (Nat.le_refl _) _
          have hcc : wr.cell? ⟨g2, o2 + k, none⟩ = some (.int .i64 (gAt b r k)) := hc2
          have hst := Lib.hid (fun W => FilP.step (w := W) (p := p) (n := n) (b := b) hlt hlk)
          have k0 : (0 : Int) ≤ (k : Int) := by omega
          have k7 : (k : Int) < 7 := by omega
          clear hc2
          by_cases hx0 : 0 ≤ gAt b r k
          · obtain ⟨x, hx⟩ := nat_of _ hx0
            rw [hx] at hw1 hcc hlo F1
            have hx7 : x < 7 := by omega
            obtain ⟨N, hN, hshl⟩ := shl_one x (by omega)
            have hN2 : N ≤ 128 := by rw [hN]; exact Nat.le_trans (Nat.pow_le_pow_right (by omega) (show x ≤ 7 by omega)) (by decide)
            have hbx : Hid (bit1 (gAt b r k) = N) := by rw [hx, bit1_pos, hN]; rfl
            have HX := Lib.hid hx
            have c1 := F1.row (show r < 7 by omega)
            have z1 := F1.frozen (50 + r)
            have hb1 := bits_or_nat (rowP n b r k r) N (by omega) (by omega)
            obtain ⟨w2, hw2⟩ : ∃ z, z = (w1.setCell ⟨p, 50 + r, none⟩ (.int .i64 ((rowP n b r k r ||| N : Nat) : Int))).drew := ⟨_, rfl⟩
            have F2 := (F1.setRow (show r < 7 by omega) (rowP n b r k r ||| N)).drew
            rw [← hw2] at F2
            have B2 : Hid (Below p w w2) := by rw [hw2]; exact (B1.out.setCell (Nat.le_refl _) _).drew
            have c2 := F2.col (show k < 7 by omega)
            have z2 := F2.frozen (57 + k)
            have hb2 := bits_or_nat (colP n b r k k) N (by omega) (by omega)
            have F3 := (F2.setCol (show k < 7 by omega) (colP n b r k k ||| N)).drew
            have B3 : Hid (Below p w (w2.setCell ⟨p, 57 + k, none⟩ (.int .i64 ((colP n b r k k ||| N : Nat) : Int))).drew) := (B2.out.setCell (Nat.le_refl _) _).drew
            have HF3 : Hid (FilP (w2.setCell ⟨p, 57 + k, none⟩ (.int .i64 ((colP n b r k k ||| N : Nat) : Int))).drew p n b r (k + 1)) := hst.out _ (by rw [hbx.out, HX.out]; exact F3)
            generalize rowP n b r k r ||| N = V1 at *
            generalize colP n b r k k ||| N = V2 at *
            generalize rowP n b r k r = R at *
            generalize colP n b r k k = C at *
            clear hf F1 F2 F3 hst hx hx0 hbel hN
            go_wp2
            rw [← hw1]
            clear hw1
            go_still_tail 12, (by kernel_rfl)
            change wpList _ _ _ _ _ w1.drew
            go_wp2_with fail
            rw [← hw2]
            clear hw2
            go_still_tail 12, (by kernel_rfl)
            change wpList _ _ _ _ _ w2.drew
            go_wp2_with fail
            go_roundw
            case rel => exact ⟨k + 1, by omega, by go_num, HF3.out, B3.out⟩
            case measure => simp [intOf]; omega
          · have HF3 : Hid (FilP w1 p n b r (k + 1)) := hst.out _ (Fil.congr F1 (fun i j _ _ => rfl) (fun i _ => by
              by_cases e : i = r
              · subst e; rw [if_pos rfl, or_bit1 _ _ hx0]
              · rw [if_neg e]) (fun j _ => by
              by_cases e : j = k
              · subst e; rw [if_pos rfl, or_bit1 _ _ hx0]
              · rw [if_neg e]))
            generalize gAt b r k = x at *
            clear hf F1 hst hbel
            go_wp2
            go_roundw
            case rel => exact ⟨k + 1, by omega, by go_num, by rw [← hw1]; exact HF3.out, by rw [← hw1]; exact B1.out⟩
            case measure => simp [intOf]; omega
        · obtain rfl : k = n := by omega
          have HF := Lib.hid hf.next
          clear hf hbel
          go_wp2
          go_roundw
          case rel => exact ⟨r + 1, by omega, by go_num, HF.out, HBL.out⟩
          case measure => simp [intOf]; omega
    · obtain rfl : r = n := by omega
      have HF2 := Lib.hid HF.out.done
      go_wp2
      go_ret
      exact ⟨by rw [← HP.out]; rfl, by rw [← HP.out]; exact HF2.out, by rw [← HP.out]; exact HBL.out⟩
end Go.Proofs.YtiodednhadnekaaDoor
