/- Walks: over, fair, Fair (both), Proves (both). -/
import Derived.Test.YtpehhbiodmgjeaaW24
namespace Go.Proofs.Ytpehhbiodmgjeaa
open Go.RowKit

theorem quietly {P : Program} {f : FuncId} {args : Array Value} {w : World} {n : Nat} {v : Value} (h : Calls P f args (w.drewN n) fun e w' => e = .returned v ∧ w.drewN n = w') :
    Calls P f args (w.drewN n) fun e w'' => e = .returned v ∧ ∃ m, w'' = w.drewN m :=
  h.mono fun _ _ ⟨he, hm⟩ => ⟨he, n, hm.symm⟩
theorem quietly_m {P : Program} {f : FuncId} {args : Array Value} {w : World} {n : Nat} {v : Value} (h : Calls P f args (w.drewN n) fun e w' => e = .returned v ∧ ∃ m, w' = (w.drewN n).drewN m) :
    Calls P f args (w.drewN n) fun e w'' => e = .returned v ∧ ∃ m, w'' = w.drewN m :=
  h.mono fun _ _ ⟨he, m, hm⟩ => ⟨he, n + m, by rw [hm, World.drewN_drewN]⟩

set_option maxHeartbeats 2000000 in
/-- (*costs).over -/
theorem f60_any (p : Nat) (A B : Option Addr) (n len c m d : Nat) (xs l : List Int) (w : World) (hp : Costs w p n A len c) (hs : Ints w A len xs) (ho : Ints w B m l) (hm : m ≤ 6) (hl64 : len ≤ 64)
    (hb : ∀ j, -6000000 ≤ l.getD j 0 ∧ l.getD j 0 ≤ 6000000) :
    Calls Try.prog 60 #[.pointer (some ⟨p, 0, none⟩), .slice B m d] w fun e w' => e = .returned (.int .i64 (overI xs l)) ∧ ∃ q, w' = w.drewN q := by
  have HS := Lib.hid hs
  have HP := Lib.hid hp
  have HL := Lib.hid hs.len
  have k61 : Hid (∀ g, g < 64 → ∀ W, Ints W B m l → _) := fun g hg W h => f61_any B m d g l W h hm hg hb
  have HO := Lib.hid ho
  obtain ⟨hp0, hp1⟩ := hp
  clear hs ho hb
  go_enter Try.func60, Try.ntmps60
  go_wp2
  go_loopw [5, 11] (fun _ i wr => ∃ k : Nat, k ≤ len ∧ i = .int .i64 k ∧ (∀ j, j < k → pay l j ≤ xs.getD j 0) ∧ ∃ q, wr = w.drewN q) (fun _ i _ => len - (intOf i).toNat)
  case atStart => exact ⟨0, by omega, rfl, fun j hj => absurd hj (by omega), 0, rfl⟩
  case round =>
    obtain ⟨k, hk, rfl, hbef, q, hq⟩ := hrel
    have HB := Lib.hid hbef
    clear hbef
    by_cases hlt : k < len
    · have hI : Ints wr A len xs := by rw [hq]; exact HS.out.drewN q
      have hC : Costs wr p n A len c := by rw [hq]; exact HP.out.drewN q
      have K61 : Hid (∀ a, _) := fun a => k61.out k (by omega) (wr.drewN a) (by rw [hq]; exact (HO.out.drewN q).drewN a)
      have HQ := Lib.hid hq
      have hc1 := hC.2
      obtain ⟨b, off, rfl, hcx⟩ := hI.at_ hlt
      have hhit : Hid (xs.getD k 0 < pay l k → overI xs l = k) := fun h => overI_hit (by rw [HL.out]; exact hlt) h (fun j hj => by have := HB.out j hj; omega)
      generalize hx : xs.getD k 0 = x at *
      generalize hy : pay l k = y at *
      have HX := Lib.hid hx
      have HY := Lib.hid hy
      clear hx hy hq hI hC hp0 hp1
      by_cases ht : x < y
      · have hf := Lib.hid (hhit.out ht)
        go_wp2
        go_quiet ((go_at_call 61; exact quietly (K61.out _)))
        go_wp2
        go_ret
        exact ⟨ret_int hf.out.symm, by rw [HQ.out]; exact ⟨_, World.drewN_drewN _ _ _⟩⟩
      · go_wp2
        go_quiet ((go_at_call 61; exact quietly (K61.out _)))
        go_wp2
        go_roundw
        case rel => exact ⟨k + 1, by omega, by go_num, fun j hj => by
          rcases Nat.lt_or_ge j k with h | h
          · exact HB.out j h
          · obtain rfl : j = k := by omega
            rw [HX.out, HY.out]; omega, by rw [HQ.out]; exact ⟨_, World.drewN_drewN _ _ _⟩⟩
        case measure => simp [intOf]; omega
    · obtain rfl : k = len := by omega
      have hfin := Lib.hid (overI_miss (xs := xs) (l := l) (fun j hj => by have := HB.out j (by rw [HL.out] at hj; exact hj); omega))
      have HQ := Lib.hid hq
      clear hq
      go_wp2
      go_ret
      exact ⟨ret_int hfin.out.symm, q, HQ.out⟩

def fairI (xs l : List Int) : Int := if overI xs l < 0 then (xs.length : Int) - 1 else overI xs l
set_option maxHeartbeats 2000000 in
/-- dibberref08.fair -/
theorem f63_any (A B : Option Addr) (len c m d : Nat) (xs l : List Int) (w : World) (hs : Ints w A len xs) (ho : Ints w B m l) (hm : m ≤ 6) (hl64 : len ≤ 64) (hpos : 0 < len)
    (hb : ∀ j, -6000000 ≤ l.getD j 0 ∧ l.getD j 0 ≤ 6000000) :
    Calls Try.prog 63 #[.slice A len c, .slice B m d] w fun e w' => e = .returned (.tuple #[.int .i64 (fairI xs l), .bool (isFair xs l)]) ∧ ∃ q, w' = w.drewN q := by
  have HS := Lib.hid hs
  have HL := Lib.hid hs.len
  have k86 : Hid (∀ g, g < 64 → ∀ W, Ints W B m l → _) := fun g hg W h => f86_any B m d g l W h hm hg hb
  have HO := Lib.hid ho
  obtain ⟨bA, oA, rfl, _⟩ := hs.ad hpos
  clear hs ho hb
  go_enter Try.func63, Try.ntmps63
  go_wp2
  go_loopw [6] (fun i wr => ∃ k : Nat, k ≤ len ∧ i = .int .i64 k ∧ (∀ j, j < k → pay l j ≤ xs.getD j 0) ∧ ∃ q, wr = w.drewN q) (fun i _ => len - (intOf i).toNat)
  case atStart => exact ⟨0, by omega, rfl, fun j hj => absurd hj (by omega), 0, rfl⟩
  case round =>
    obtain ⟨k, hk, rfl, hbef, q, hq⟩ := hrel
    have HB := Lib.hid hbef
    clear hbef
    have hI : Ints wr (some ⟨bA, oA, none⟩) len xs := by rw [hq]; exact HS.out.drewN q
    obtain ⟨_, _, e, hcall⟩ := hI.ad hpos
    cases e
    by_cases hlt : k < len
    · have K86 : Hid (∀ a, _) := fun a => k86.out k (by omega) (wr.drewN a) (by rw [hq]; exact (HO.out.drewN q).drewN a)
      have HQ := Lib.hid hq
      have hcx := hcall k hlt
      clear hcall
      have hhit : Hid (xs.getD k 0 < pay l k → overI xs l = k) := fun h => overI_hit (by rw [HL.out]; exact hlt) h (fun j hj => by have := HB.out j hj; omega)
      generalize hx : xs.getD k 0 = x at *
      generalize hy : pay l k = y at *
      have HX := Lib.hid hx
      have HY := Lib.hid hy
      clear hx hy hq hI
      by_cases ht : x < y
      · have ho := hhit.out ht
        have hf : Hid (fairI xs l = k) := by unfold fairI Hid; rw [ho, if_neg (by omega)]
        have hg : Hid (isFair xs l = false) := by unfold isFair Hid; rw [ho, decide_eq_false (by omega)]; rfl
        clear ho
        go_wp2
        go_quiet ((go_at_call 86; exact quietly (K86.out _)))
        go_wp2
        go_ret2
        exact ⟨by rw [hf.out, hg.out]; rfl, by rw [HQ.out]; exact ⟨_, World.drewN_drewN _ _ _⟩⟩
      · go_wp2
        go_quiet ((go_at_call 86; exact quietly (K86.out _)))
        go_wp2
        go_roundw
        case rel => exact ⟨k + 1, by omega, by go_num, fun j hj => by
          rcases Nat.lt_or_ge j k with h | h
          · exact HB.out j h
          · obtain rfl : j = k := by omega
            rw [HX.out, HY.out]; omega, by rw [HQ.out]; exact ⟨_, World.drewN_drewN _ _ _⟩⟩
        case measure => simp [intOf]; omega
    · obtain rfl : k = len := by omega
      have ho := overI_miss (xs := xs) (l := l) (fun j hj => by have := HB.out j (by rw [HL.out] at hj; exact hj); omega)
      have hf : Hid (fairI xs l = (k : Int) - 1) := by unfold fairI Hid; rw [ho, HL.out]; rfl
      have hg : Hid (isFair xs l = (pay l (k - 1) == xs.getD (k - 1) 0)) := by unfold isFair Hid; rw [ho, HL.out]; rfl
      have K86 : Hid (∀ a, _) := fun a => k86.out (k - 1) (by omega) (wr.drewN a) (by rw [hq]; exact (HO.out.drewN q).drewN a)
      have hcx := hcall (k - 1) (by omega)
      clear hcall
      have HQ := Lib.hid hq
      have en : (k : Int) - 1 = ((k - 1 : Nat) : Int) := by omega
      rw [en] at hf
      generalize k - 1 = M at *
      generalize xs.getD M 0 = x at *
      generalize pay l M = y at *
      clear ho hq hI
      go_wp2
      go_quiet ((go_at_call 86; exact quietly (K86.out _)))
      go_wp2
      go_ret2
      exact ⟨by rw [hf.out, hg.out]; rfl, by rw [HQ.out]; exact ⟨_, World.drewN_drewN _ _ _⟩⟩
end Go.Proofs.Ytpehhbiodmgjeaa
