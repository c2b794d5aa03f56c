/- Walks: digits of great numbers: trim, of, small, compare. -/
import Derived.Test.YtfaenbaaadjbbaaW11
import Derived.Test.YtfaenbaaadjbbaaPlain7
namespace Go.Proofs.Ytfaenbaaadjbbaa
open Go.RowKit

/-- A slice of digits. -/
def Words (w : World) (A : Option Addr) (n : Nat) (ds : List Nat) : Prop :=
  ds.length = n ∧ n ≤ 10000 ∧ Small ds ∧ (0 < n → ∃ b off cs, A = some ⟨b, off, none⟩ ∧ w.heap[b]? = some (.cells cs 108 (0, 0)) ∧ ∀ j, j < n → cs[off + j]? = some (.int .u32 (ds.getD j 0 : Nat)))
section
variable {w w' : World} {A : Option Addr} {n k : Nat} {ds : List Nat}
theorem Words.len (h : Words w A n ds) : ds.length = n := h.1
theorem Words.few (h : Words w A n ds) : n ≤ 10000 := h.2.1
theorem Words.small (h : Words w A n ds) : Small ds := h.2.2.1
theorem Words.at_ (h : Words w A n ds) (hk : k < n) : ∃ b off, A = some ⟨b, off, none⟩ ∧ w.cell? ⟨b, off + k, none⟩ = some (.int .u32 (ds.getD k 0 : Nat)) := by
  obtain ⟨b, off, cs, e, hh, hc⟩ := h.2.2.2 (by omega)
  exact ⟨b, off, e, by rw [cell_of_row w b (off + k) cs 108 (0, 0) hh]; exact hc k hk⟩
theorem Words.ad (h : Words w A n ds) (hn : 0 < n) : ∃ b off, A = some ⟨b, off, none⟩ ∧ ∀ j, j < n → w.cell? ⟨b, off + j, none⟩ = some (.int .u32 (ds.getD j 0 : Nat)) := by
  obtain ⟨b, off, cs, e, hh, hc⟩ := h.2.2.2 hn
  exact ⟨b, off, e, fun j hj => by rw [cell_of_row w b (off + j) cs 108 (0, 0) hh]; exact hc j hj⟩
theorem Words.keep (h : Words w A n ds) (hk : ∀ (b : Nat) (cs : Array Value), w.heap[b]? = some (Obj.cells cs 108 (0, 0)) → w'.heap[b]? = some (Obj.cells cs 108 (0, 0))) : Words w' A n ds :=
  ⟨h.1, h.2.1, h.2.2.1, fun hn => by
    obtain ⟨b, off, cs, e, hh, hc⟩ := h.2.2.2 hn
    exact ⟨b, off, cs, e, hk b cs hh, hc⟩⟩
theorem heap_lt {b : Nat} {o : Obj} (h : w.heap[b]? = some o) : b < w.heap.size := by
  rcases Nat.lt_or_ge b w.heap.size with hlt | hge
  · exact hlt
  · rw [Array.getElem?_eq_none hge] at h; cases h
theorem Words.below (h : Words w A n ds) (hb : Below w.heap.size w w') : Words w' A n ds := h.keep fun b _ hh => (hb.block b (heap_lt hh)).trans hh
theorem Words.drewN (h : Words w A n ds) (m : Nat) : Words (w.drewN m) A n ds := h
theorem Words.take_ (h : Words w A n ds) (hk : k ≤ n) : Words w A k (ds.take k) :=
  ⟨by rw [List.length_take]; have := h.1; omega, by have := h.2.1; omega, small_take h.small k, fun hp => by
    obtain ⟨b, off, cs, e, hh, hc⟩ := h.2.2.2 (by omega)
    exact ⟨b, off, cs, e, hh, fun j hj => by
      rw [hc j (by omega)]
      simp [List.getD_eq_getElem?_getD, List.getElem?_take_of_lt hj]⟩⟩
/-- A block of digits that the call made, known whole. -/
def OwnW (w : World) (g : Nat) (ds : List Nat) : Prop := w.heap[g]? = some (.cells (ds.map fun (d : Nat) => Value.int .u32 (d : Int)).toArray 108 (0, 0))
variable {g : Nat}
theorem OwnW.lt (h : OwnW w g ds) : g < w.heap.size := heap_lt h
theorem OwnW.cell (h : OwnW w g ds) (j : Nat) (hj : j < ds.length) : w.cell? ⟨g, j, none⟩ = some (.int .u32 (ds.getD j 0 : Nat)) := by
  rw [cell_of_row w g j _ 108 (0, 0) h]
  simp [hj]
theorem OwnW.frozen (h : OwnW w g ds) (j : Nat) : w.frozen? ⟨g, j, none⟩ = false := by
  unfold OwnW at h
  simp [World.frozen?, h]
theorem OwnW.drewN (h : OwnW w g ds) (m : Nat) : OwnW (w.drewN m) g ds := h
theorem OwnW.set_ (h : OwnW w g ds) (j v : Nat) : OwnW (w.setCell ⟨g, j, none⟩ (.int .u32 (v : Int))) g (ds.set j v) := by
  unfold OwnW at h ⊢
  simp [World.setCell, Array.getElem?_modify, h, List.map_set]
theorem OwnW.words (h : OwnW w g ds) (hn : ds.length ≤ 10000) (hs : Small ds) : Words w (some ⟨g, 0, none⟩) ds.length ds :=
  ⟨rfl, hn, hs, fun _ => ⟨g, 0, _, rfl, h, fun j hj => by rw [Nat.zero_add]; simp [hj]⟩⟩
theorem OwnW.lit (w : World) (ds : List Nat) : OwnW (w.alloc (.cells (ds.map fun (d : Nat) => Value.int .u32 (d : Int)).toArray 108)) w.heap.size ds := heap_alloc_new w _
end
theorem make_words (n : Nat) (hn : n ≤ 1000000) (W : World) : (Instr.makeSlice 131 (.int .i64 (n : Int)) (.int .i64 (n : Int))).run Try.prog W =
    .ok (.slice (some ⟨W.heap.size, 0, none⟩) n n) (W.alloc (.cells ((List.replicate n (0 : Nat)).map fun (d : Nat) => Value.int .u32 (d : Int)).toArray 108)) := by
  obtain ⟨i0, hi, hz0, hz1, hz2⟩ := info_parts (show (Try.prog.info? 108).map (fun i => (i.zero, i.size, i.bytes)) = some (some (.int .u32 0), 1, 4) from by kernel_rfl)
  have hr := run_make (P := Try.prog) W 131 108 i0 (.int .u32 0) Try.underlying131 hi hz0 .i64 .i64 n n (by omega) (by omega) (by rw [hz2]; omega) (by omega)
  have e : madeCells (Value.int .u32 0).cells ((n : Int).toNat * i0.size) = ((List.replicate n (0 : Nat)).map fun (d : Nat) => Value.int .u32 (d : Int)).toArray := by
    rw [hz1, Nat.mul_one, Int.toNat_natCast]
    apply Array.toList_inj.1
    exact (toList_madeCells_one _ _).trans (by simp)
  exact hr.trans (by rw [e, Int.toNat_natCast])
/-- A number in digits, the last of which is not 0. -/
def Num (w : World) (A : Option Addr) (n v : Nat) : Prop := ∃ ds, Words w A n ds ∧ Norm ds ∧ valW ds = v
theorem Num.below {w w' : World} {A : Option Addr} {n v : Nat} (h : Num w A n v) (hb : Below w.heap.size w w') : Num w' A n v := by
  obtain ⟨ds, h1, h2⟩ := h
  exact ⟨ds, h1.below hb, h2⟩
theorem Num.drewN {w : World} {A : Option Addr} {n v : Nat} (h : Num w A n v) (m : Nat) : Num (w.drewN m) A n v := h

set_option maxHeartbeats 1000000 in
/-- big.trim -/
theorem f119_any (A : Option Addr) (n c : Nat) (ds : List Nat) (w : World) (hs : Words w A n ds) (hc : n ≤ c) :
    Calls Try.prog 119 #[.slice A n c] w fun e w' => ∃ k, e = .returned (.slice A k c) ∧ Num w A k (valW ds) ∧ k ≤ n ∧ w = w' := by
  have hsm := hs.few
  have HL := Lib.hid hs.len
  have HS := Lib.hid hs
  clear hs
  go_enter Try.func119, Try.ntmps119
  go_wp2
  go_loop [3] (fun i => ∃ k : Nat, k ≤ n ∧ i = .int .i64 (k : Int) ∧ (∀ j, k ≤ j → j < n → ds.getD j 0 = 0)) (fun i => (intOf i).toNat)
  case atStart => exact ⟨n, by omega, rfl, fun j h1 h2 => absurd h1 (by omega)⟩
  case round =>
    obtain ⟨k, hk, rfl, hz⟩ := hrel
    have HZ := Lib.hid hz
    clear hz
    have hfin : Hid (k = 0 ∨ ds.getD (k - 1) 0 ≠ 0 → Num w A k (valW ds)) := fun h =>
      ⟨ds.take k, HS.out.take_ hk, trim_norm (by rw [HL.out]; exact hk) h, trim_val (by rw [HL.out]; exact hk) (by rw [HL.out]; exact HZ.out)⟩
    by_cases h0 : k = 0
    · subst h0
      have HF := Lib.hid (hfin.out (.inl rfl))
      clear hfin
      go_wp2
      go_ret
      exact ⟨0, rfl, HF.out, by omega, rfl⟩
    · obtain ⟨q, rfl⟩ : ∃ q, k = q + 1 := ⟨k - 1, by omega⟩
      obtain ⟨b, off, rfl, hcell⟩ := HS.out.at_ (show q < n by omega)
      have hd := HS.out.small q
      generalize hx : ds.getD q 0 = x at *
      have HX := Lib.hid hx
      clear hx
      by_cases hx0 : x = 0
      · subst hx0
        clear hfin
        go_wp2
        go_round
        case rel => exact ⟨q, by omega, rfl, fun j h1 h2 => by
          rcases Nat.lt_or_ge q j with h | h
          · exact HZ.out j h h2
          · obtain rfl : j = q := by omega
            exact HX.out⟩
        case measure => simp [intOf]
      · have hq : ((x : Int) == 0) = false := by simp; omega
        have HF : Hid (Num w (some ⟨b, off, none⟩) (q + 1) (valW ds)) := hfin.out (.inr (by rw [Nat.add_sub_cancel, HX.out]; exact hx0))
        clear hfin hx0
        go_wp2
        go_ret
        exact ⟨q + 1, rfl, HF.out, by omega, rfl⟩
theorem hi32 (n : Nat) : ((n : Int) / 4294967296) = ((n / W32 : Nat) : Int) := by unfold W32; omega
theorem lo32 (n : Nat) : ((n : Int) % 4294967296) = ((n % W32 : Nat) : Int) := by unfold W32; omega
theorem mod32 (n : Nat) (h : n < W32) : ((n : Int) % 4294967296) = (n : Int) := by unfold W32 at h; omega
set_option maxHeartbeats 1000000 in
/-- big.of -/
theorem f112_any (n : Nat) (w : World) (hn : n < W32 * W32) :
    Calls Try.prog 112 #[.int .u64 (n : Int)] w fun e w' => ∃ A k c, e = .returned (.slice A k c) ∧ Num w' A k n ∧ k ≤ c ∧ Below w.heap.size w w' := by
  have h1 : n / W32 < W32 := Nat.div_lt_of_lt_mul hn
  have h2 : n % W32 < W32 := Nat.mod_lt _ W32_pos
  have hv : Hid (valW [n % W32, n / W32] = n) := by
    have e : valW [n % W32, n / W32] = 0 + n % W32 * W32 ^ 0 + n / W32 * W32 ^ 1 := rfl
    rw [e, Nat.pow_zero, Nat.pow_one]
    have := Nat.div_add_mod n W32
    rw [Nat.mul_comm] at this
    unfold Hid; omega
  have r1 := lo32 n
  have r2 := hi32 n
  have r3 := mod32 (n / W32) h1
  generalize n % W32 = lo at *
  generalize n / W32 = hi at *
  have hsm : Hid (Small [lo, hi]) := fun j => by
    match j with
    | 0 => exact h2
    | 1 => exact h1
    | j + 2 => exact W32_pos
  have hl : Hid (Words (w.alloc (.cells #[.int .u32 (lo : Int), .int .u32 (hi : Int)] 108)) (some ⟨w.heap.size, 0, none⟩) 2 [lo, hi]) := (OwnW.lit w [lo, hi]).words (by simp) hsm.out
  have k119 := Lib.hid (f119_any (some ⟨w.heap.size, 0, none⟩) 2 2 [lo, hi] _ hl.out (Nat.le_refl _))
  rw [hv.out] at k119
  have b0 := Lib.hid (below_alloc w (.cells #[.int .u32 (lo : Int), .int .u32 (hi : Int)] 108))
  have hn2 : (n : Int) < 18446744073709551616 := by unfold W32 at hn; omega
  clear hn hv hl hsm h1 h2
  go_enter Try.func112, Try.ntmps112
  go_wp2_with fail
  refine k119.out.mono ?_
  rintro e w1 ⟨k, rfl, hnum, hk, rfl⟩
  have HN := Lib.hid hnum
  clear hnum
  go_wp2
  go_ret
  exact ⟨_, _, _, rfl, HN.out, hk, b0.out⟩
theorem or_u64 (x y : Nat) (hx : x < 4294967296) (hy : y < 4294967296) : bits .or .u64 ((y : Int) * 4294967296) (x : Int) = ((x + y * 4294967296 : Nat) : Int) := by
  have e0 : ((y : Int) * 4294967296) = ((4294967296 * y : Nat) : Int) := by omega
  have e1 : BitVec.ofInt 64 (((4294967296 * y : Nat) : Int)) = BitVec.ofNat 64 (4294967296 * y) := by rw [BitVec.ofInt_natCast]
  have e2 : BitVec.ofInt 64 (x : Int) = BitVec.ofNat 64 x := by rw [BitVec.ofInt_natCast]
  have h1 : 4294967296 * y % 18446744073709551616 = 4294967296 * y := Nat.mod_eq_of_lt (by omega)
  have h2 : x % 18446744073709551616 = x := Nat.mod_eq_of_lt (by omega)
  have h3 : 4294967296 * y ||| x = 4294967296 * y + x := (Nat.two_pow_add_eq_or_of_lt (i := 32) hx y).symm
  rw [e0]
  show IntKind.u64.wrap (((BitVec.ofInt 64 (((4294967296 * y : Nat) : Int))) ||| (BitVec.ofInt 64 (x : Int))).toNat : Int) = _
  rw [e1, e2, BitVec.toNat_or, BitVec.toNat_ofNat, BitVec.toNat_ofNat]
  simp only [Nat.reducePow, h1, h2, h3]
  rw [IntWalk.u64_in _ (by omega)]
  omega
theorem and_u64 (x : Nat) (hx : x < 18446744073709551616) : bits .and .u64 (x : Int) 4294967295 = ((x % W32 : Nat) : Int) := by
  have e2 : BitVec.ofInt 64 (x : Int) = BitVec.ofNat 64 x := by rw [BitVec.ofInt_natCast]
  have e1 : BitVec.ofInt 64 4294967295 = BitVec.ofNat 64 4294967295 := rfl
  have h2 : x % 18446744073709551616 = x := Nat.mod_eq_of_lt hx
  have h3 : x &&& 4294967295 = x % W32 := Nat.and_two_pow_sub_one_eq_mod x 32
  have h4 : x % W32 < W32 := Nat.mod_lt _ W32_pos
  show IntKind.u64.wrap (((BitVec.ofInt 64 (x : Int)) &&& (BitVec.ofInt 64 4294967295)).toNat : Int) = _
  rw [e1, e2, BitVec.toNat_and, BitVec.toNat_ofNat, BitVec.toNat_ofNat]
  simp only [Nat.reducePow, Nat.reduceMod, h2, h3]
  unfold W32 at *
  rw [IntWalk.u64_in _ (by omega)]
set_option maxHeartbeats 1000000 in
/-- words.small -/
theorem f122_any (A : Option Addr) (n c v : Nat) (w : World) (hs : Num w A n v) :
    Calls Try.prog 122 #[.slice A n c] w fun e w' => e = .returned (.tuple #[.int .u64 ((if n ≤ 2 then v else 0 : Nat) : Int), .bool (decide (n ≤ 2))]) ∧ ∃ m, w' = w.drewN m := by
  obtain ⟨ds, hw, hnorm, hv⟩ := hs
  have hl := hw.len
  have hfew := hw.few
  by_cases h2 : n ≤ 2
  · rw [if_pos h2, decide_eq_true h2]
    match n, h2 with
    | 0, _ =>
      have hv0 : Hid (v = 0) := by rw [← hv]; unfold valW; rw [hl]; rfl
      clear hw hnorm hv hl
      rw [hv0.out]
      go_enter Try.func122, Try.ntmps122
      go_wp2
      go_ret2
      exact ⟨rfl, 0, rfl⟩
    | 1, _ =>
      have hv0 : Hid (v = ds.getD 0 0) := by rw [← hv]; unfold valW; rw [hl]; simp [valTo, Hid]
      have hd := hw.small 0
      have hd2 : ds.getD 0 0 < 4294967296 := hd
      obtain ⟨b, off, rfl, hc⟩ := hw.at_ (show 0 < 1 by omega)
      rw [hv0.out]
      generalize ds.getD 0 0 = x at *
      simp only [Nat.add_zero] at hc
      clear hw hnorm hv hl hv0 hd
      go_enter Try.func122, Try.ntmps122
      go_wp2
      go_ret2
      exact ⟨rfl, 0, rfl⟩
    | 2, _ =>
      have hv0 : Hid (v = ds.getD 0 0 + ds.getD 1 0 * 4294967296) := by rw [← hv]; unfold valW; rw [hl]; simp [valTo, Hid, W32]
      have hd0 : ds.getD 0 0 < 4294967296 := hw.small 0
      have hd1 : ds.getD 1 0 < 4294967296 := hw.small 1
      obtain ⟨b, off, rfl, hc⟩ := hw.ad (show 0 < 2 by omega)
      have hc0 := hc 0 (by omega)
      have hc1 := hc 1 (by omega)
      rw [hv0.out]
      generalize ds.getD 0 0 = x at *
      generalize ds.getD 1 0 = y at *
      simp only [Nat.add_zero] at hc0
      clear hw hnorm hv hl hv0 hc
      go_enter Try.func122, Try.ntmps122
      have hor := or_u64 x y hd0 hd1
      have hz : x + y * 4294967296 < 18446744073709551616 := by omega
      generalize x + y * 4294967296 = z at *
      go_wp2
      go_quiet (fail)
      go_wp2
      go_ret2
      exact ⟨rfl, _, rfl⟩
  · have hq0 : ((n : Int) == 0) = false := by simp; omega
    have hq1 : ((n : Int) == 1) = false := by simp; omega
    have hq2 : ((n : Int) == 2) = false := by simp; omega
    rw [if_neg h2, decide_eq_false h2]
    clear hw hnorm hv hl h2
    go_enter Try.func122, Try.ntmps122
    go_wp2
    go_ret2
    exact ⟨rfl, 0, rfl⟩
theorem drew3 (w : World) (a b c : Nat) : ((w.drewN a).drewN b).drewN c = w.drewN (a + b + c) := by rw [World.drewN_drewN, World.drewN_drewN, Nat.add_assoc]
theorem quiet_add_left {P : Program} {f : FuncId} {args : Array Value} {w : World} {a n : Nat} {v : Value}
    (h : Calls P f args (w.drewN (a + n)) fun e w' => e = .returned v ∧ w.drewN (a + n) = w') :
    Calls P f args (w.drewN (a + n)) fun e w'' => e = .returned v ∧ ∃ m, w'' = w.drewN (a + m) :=
  h.mono fun _ _ ⟨he, hm⟩ => ⟨he, n, hm.symm⟩
theorem quiet_left {P : Program} {f : FuncId} {args : Array Value} {w : World} {n : Nat} {v : Value}
    (h : Calls P f args (w.drewN n) fun e w' => e = .returned v ∧ w.drewN n = w') : Calls P f args (w.drewN n) fun e w'' => e = .returned v ∧ ∃ m, w'' = w.drewN m :=
  h.mono fun _ _ ⟨he, hm⟩ => ⟨he, n, hm.symm⟩
theorem quiet_m {P : Program} {f : FuncId} {args : Array Value} {w : World} {n : Nat} {v : Value} (h : Calls P f args (w.drewN n) fun e w' => e = .returned v ∧ ∃ m, w' = (w.drewN n).drewN m) :
    Calls P f args (w.drewN n) fun e w'' => e = .returned v ∧ ∃ m, w'' = w.drewN m :=
  h.mono fun _ _ ⟨he, m, hm⟩ => ⟨he, n + m, by rw [hm, World.drewN_drewN]⟩
def cmp3 (u v : Int) : Int := if u < v then -1 else if v < u then 1 else 0
theorem f123_any (x : Int) (w : World) : Calls Try.prog 123 #[.int .i64 x] w fun e w' => e = .returned (.bool false) ∧ w = w' := by
  have hq : (x != x) = false := by simp
  go_enter Try.func123, Try.ntmps123
  go_wp2
  go_ret
  exact ⟨rfl, rfl⟩
theorem f124_any (x : Int) (w : World) : Calls Try.prog 124 #[.int .u32 x] w fun e w' => e = .returned (.bool false) ∧ w = w' := by
  have hq : (x != x) = false := by simp
  go_enter Try.func124, Try.ntmps124
  go_wp2
  go_ret
  exact ⟨rfl, rfl⟩
set_option maxHeartbeats 1000000 in
/-- cmp.Compare at int -/
theorem f120_any (x y : Int) (w : World) : Calls Try.prog 120 #[.int .i64 x, .int .i64 y] w fun e w' => e = .returned (.int .i64 (cmp3 x y)) ∧ w = w' := by
  have k1 := Lib.hid (f123_any x w)
  have k2 := Lib.hid (f123_any y w)
  rcases Int.lt_trichotomy x y with h | h | h
  · have hf : Hid (cmp3 x y = -1) := by unfold cmp3; rw [if_pos h]; rfl
    go_enter Try.func120, Try.ntmps120
    go_wp2_with fail
    refine k1.out.mono ?_
    rintro e w' ⟨rfl, rfl⟩
    go_wp2_with fail
    refine k2.out.mono ?_
    rintro e w' ⟨rfl, rfl⟩
    go_wp2
    go_ret
    exact ⟨ret_int hf.out.symm, rfl⟩
  · subst h
    have hf : Hid (cmp3 x x = 0) := by unfold cmp3; rw [if_neg (by omega), if_neg (by omega)]; rfl
    go_enter Try.func120, Try.ntmps120
    go_wp2_with fail
    refine k1.out.mono ?_
    rintro e w' ⟨rfl, rfl⟩
    go_wp2_with fail
    refine k2.out.mono ?_
    rintro e w' ⟨rfl, rfl⟩
    go_wp2
    go_ret
    exact ⟨ret_int hf.out.symm, rfl⟩
  · have hf : Hid (cmp3 x y = 1) := by unfold cmp3; rw [if_neg (by omega), if_pos h]; rfl
    go_enter Try.func120, Try.ntmps120
    go_wp2_with fail
    refine k1.out.mono ?_
    rintro e w' ⟨rfl, rfl⟩
    go_wp2_with fail
    refine k2.out.mono ?_
    rintro e w' ⟨rfl, rfl⟩
    go_wp2
    go_ret
    exact ⟨ret_int hf.out.symm, rfl⟩
set_option maxHeartbeats 1000000 in
/-- cmp.Compare at uint32, of two that differ -/
theorem f121_any (x y : Int) (w : World) (hne : x ≠ y) : Calls Try.prog 121 #[.int .u32 x, .int .u32 y] w fun e w' => e = .returned (.int .i64 (cmp3 x y)) ∧ w = w' := by
  have k1 := Lib.hid (f124_any x w)
  have k2 := Lib.hid (f124_any y w)
  rcases Int.lt_or_gt_of_ne hne with h | h
  · have hf : Hid (cmp3 x y = -1) := by unfold cmp3; rw [if_pos h]; rfl
    go_enter Try.func121, Try.ntmps121
    go_wp2_with fail
    refine k1.out.mono ?_
    rintro e w' ⟨rfl, rfl⟩
    go_wp2_with fail
    refine k2.out.mono ?_
    rintro e w' ⟨rfl, rfl⟩
    go_wp2
    go_ret
    exact ⟨ret_int hf.out.symm, rfl⟩
  · have hf : Hid (cmp3 x y = 1) := by unfold cmp3; rw [if_neg (by omega), if_pos (by omega)]; rfl
    have h2 : y < x := h
    clear h
    go_enter Try.func121, Try.ntmps121
    go_wp2_with fail
    refine k1.out.mono ?_
    rintro e w' ⟨rfl, rfl⟩
    go_wp2_with fail
    refine k2.out.mono ?_
    rintro e w' ⟨rfl, rfl⟩
    go_wp2
    go_ret
    exact ⟨ret_int hf.out.symm, rfl⟩
set_option maxRecDepth 100000 in
set_option maxHeartbeats 2000000 in
/-- big.compare -/
theorem f115_any (A B : Option Addr) (n c m d u v : Nat) (w : World) (hs : Num w A n u) (ho : Num w B m v) :
    Calls Try.prog 115 #[.slice A n c, .slice B m d] w fun e w' => e = .returned (.int .i64 (cmp3 u v)) ∧ ∃ q, w' = w.drewN q := by
  obtain ⟨xs, hx, hxn, hxv⟩ := hs
  obtain ⟨ys, hy, hyn, hyv⟩ := ho
  have hl1 := hx.len
  have hl2 := hy.len
  have hf1 := hx.few
  have hf2 := hy.few
  have k120 := Lib.hid (f120_any n m w)
  rcases Nat.lt_trichotomy n m with h | h | h
  · have h1 : u < v := by rw [← hxv, ← hyv]; exact shorter_lt hx.small hyn (by omega)
    have hf : Hid (cmp3 u v = -1) := by unfold cmp3; rw [if_pos (by omega)]; rfl
    have hg : cmp3 n m = -1 := by unfold cmp3; rw [if_pos (by omega)]
    rw [hg] at k120
    clear hx hy hxn hyn hxv hyv hg h1 hl1 hl2
    go_enter Try.func115, Try.ntmps115
    go_wp2_with fail
    refine k120.out.mono ?_
    rintro e w' ⟨rfl, rfl⟩
    go_wp2
    go_ret
    exact ⟨ret_int hf.out.symm, 0, rfl⟩
  · subst h
    have hg : cmp3 n n = 0 := by unfold cmp3; rw [if_neg (by omega), if_neg (by omega)]
    rw [hg] at k120
    have hlo : Hid (∀ i, i < n → (∀ j, i < j → j < n → xs.getD j 0 = ys.getD j 0) → xs.getD i 0 ≠ ys.getD i 0 → cmp3 (xs.getD i 0 : Nat) (ys.getD i 0 : Nat) = cmp3 u v) := fun i hi hs hne => by
      have e1 : valTo xs n = u := by rw [← hxv]; unfold valW; rw [hl1]
      have e2 : valTo ys n = v := by rw [← hyv]; unfold valW; rw [hl2]
      rcases Nat.lt_or_gt_of_ne hne with h | h
      · have := digit_lt hx.small hi hs h
        unfold cmp3; rw [if_pos (by omega), if_pos (by omega)]
      · have := digit_lt hy.small hi (fun j h1 h2 => (hs j h1 h2).symm) h
        unfold cmp3; rw [if_neg (by omega), if_pos (by omega), if_neg (by omega), if_pos (by omega)]
    have hall : Hid ((∀ j, j < n → xs.getD j 0 = ys.getD j 0) → cmp3 u v = 0) := fun h => by
      have e1 : valTo xs n = u := by rw [← hxv]; unfold valW; rw [hl1]
      have e2 : valTo ys n = v := by rw [← hyv]; unfold valW; rw [hl2]
      have := valTo_congr h
      unfold cmp3; rw [if_neg (by omega), if_neg (by omega)]
    have HX := Lib.hid hx
    have HY := Lib.hid hy
    clear hx hy hxn hyn hxv hyv hg hl1 hl2
    go_enter Try.func115, Try.ntmps115
    go_wp2_with fail
    refine k120.out.mono ?_
    rintro e w' ⟨rfl, rfl⟩
    go_wp2
    go_loopw [6] (fun i wr => ∃ k : Nat, k ≤ n ∧ i = .int .i64 ((k : Int) - 1) ∧ (∀ j, k ≤ j → j < n → xs.getD j 0 = ys.getD j 0) ∧ ∃ q, wr = w.drewN q) (fun i _ => (intOf i + 1).toNat)
    case atStart => exact ⟨n, by omega, rfl, fun j h1 h2 => absurd h1 (by omega), 0, rfl⟩
    case round =>
      obtain ⟨k, hk, rfl, hbef, q, hq⟩ := hrel
      have HB := Lib.hid hbef
      have HQ := Lib.hid hq
      have HX1 : Hid (Words wr A n xs) := by rw [hq]; exact HX.out.drewN q
      have HY1 : Hid (Words wr B n ys) := by rw [hq]; exact HY.out.drewN q
      clear hbef hq
      by_cases h0 : k = 0
      · subst h0
        have HF := Lib.hid (hall.out fun j hj => HB.out j (by omega) hj)
        go_wp2
        go_ret
        exact ⟨ret_int HF.out.symm, q, HQ.out⟩
      · obtain ⟨i, rfl⟩ : ∃ i, k = i + 1 := ⟨k - 1, by omega⟩
        obtain ⟨b1, o1, rfl, hc1⟩ := HX1.out.at_ (show i < n by omega)
        obtain ⟨b2, o2, rfl, hc2⟩ := HY1.out.at_ (show i < n by omega)
        have hl := Lib.hid (hlo.out i (by omega) (fun j h1 h2 => HB.out j h1 h2))
        have ei : (((i + 1 : Nat) : Int) - 1) = (i : Int) := by omega
        rw [ei]
        generalize hxx : xs.getD i 0 = x at *
        generalize hyy : ys.getD i 0 = y at *
        have HXX := Lib.hid hxx
        have HYY := Lib.hid hyy
        clear hxx hyy ei
        by_cases he : x = y
        · have hq : ((x : Int) != (y : Int)) = false := by simp; omega
          have HE := Lib.hid he
          clear he hl
          go_wp2
          go_quiet (fail)
          go_wp2
          go_roundw
          case rel => exact ⟨i, by omega, rfl, fun j h1 h2 => by
            rcases Nat.lt_or_ge i j with h | h
            · exact HB.out j h h2
            · obtain rfl : j = i := by omega
              rw [HXX.out, HYY.out, HE.out], by rw [HQ.out]; exact ⟨_, World.drewN_drewN _ _ _⟩⟩
          case measure => simp [intOf]
        · have hq : ((x : Int) != (y : Int)) = true := by simp; omega
          have hl2 := Lib.hid (hl.out he)
          have k121 := Lib.hid (fun w => f121_any x y w (by omega))
          clear he hl
          go_wp2
          go_quiet (fail)
          go_wp2
          go_quiet ((go_at_call 121; exact quiet_add_left (k121.out _)))
          go_wp2
          go_ret
          exact ⟨ret_int hl2.out, by rw [HQ.out]; exact ⟨_, drew3 _ _ _ _⟩⟩
  · have h1 : v < u := by rw [← hxv, ← hyv]; exact shorter_lt hy.small hxn (by omega)
    have hf : Hid (cmp3 u v = 1) := by unfold cmp3; rw [if_neg (by omega), if_pos (by omega)]; rfl
    have hg : cmp3 n m = 1 := by unfold cmp3; rw [if_neg (by omega), if_pos (by omega)]
    rw [hg] at k120
    clear hx hy hxn hyn hxv hyv hg h1 hl1 hl2
    go_enter Try.func115, Try.ntmps115
    go_wp2_with fail
    refine k120.out.mono ?_
    rintro e w' ⟨rfl, rfl⟩
    go_wp2
    go_ret
    exact ⟨ret_int hf.out.symm, 0, rfl⟩
end Go.Proofs.Ytfaenbaaadjbbaa
