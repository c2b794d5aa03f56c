/- What a law's opening gives: fences that came in as a list. -/
import Derived.Test.YtmepndnckcpgjaaGreatF1
import Derived.OpenShut
import Derived.Deep.SlicePairs
import Derived.Conc.LeavingOf
import Derived.Leaving
import Derived.Handed
namespace Go.Proofs.YtmepndnckcpgjaaGreat
open Go.RowKit
section
variable {H : Type} {enc : TypeId × Value → H} {w : World} {base : Nat} {spare : Nat → Bool} {held : Bool}
theorem fens_of {fuel : Nat} {a : Option Addr} {len cap : Nat} {x : DataW H × List MemPlace} (h : DataW.trod enc Tryz.prog w base spare held fuel 22 [.slice a len cap] = some x) : ∃ fs, Fens w a len fs ∧ len ≤ 9223372036854775807 := by
  rcases Go.Deep.open_slice_pairs Tryz.underlying22 Tryz.underlying37 (by kernel_rfl) rfl rfl (by kernel_rfl) (by kernel_rfl) h with ⟨e, _⟩ | ⟨ad, l, c, m, n, V0, V1, D0, D1, P0, P1, e, _, hl, hc, hm, _, hi⟩
  · simp only [List.cons.injEq, Value.slice.injEq, and_true] at e
    obtain ⟨rfl, rfl, rfl⟩ := e
    exact ⟨[], Fens.nil _ _, by omega⟩
  · simp only [List.cons.injEq, Value.slice.injEq, and_true] at e
    obtain ⟨rfl, rfl, rfl⟩ := e
    have hlm : len ≤ m := by rw [hm]; split <;> omega
    have each : ∀ i, i < len → ∃ q : Int × Int, V0 i = .int .i64 q.1 ∧ V1 i = .int .i64 q.2 := fun i hi' => by
      obtain ⟨_, _, t0, t1⟩ := hi i (by omega)
      obtain ⟨z0, e0, _⟩ := DataW.trod_int Tryz.underlying3 t0
      obtain ⟨z1, e1, _⟩ := DataW.trod_int Tryz.underlying3 t1
      exact ⟨(z0, z1), by simpa using e0, by simpa using e1⟩
    obtain ⟨q, hq⟩ := Go.Deep.choose_lt each
    refine ⟨(List.range len).map q, ⟨by simp, fun h0 => ?_⟩, by unfold maxLen at hc; omega⟩
    obtain ⟨b, off, rfl, _⟩ := Go.ints_at (zs := [(q 0).1]) (a := ad) (k := .i64) (fun j hj => by
      obtain rfl : j = 0 := by simpa using hj
      have := (hi 0 (by omega)).1
      rw [(hq 0 h0).1] at this
      simpa using this) (by simp)
    refine ⟨b, off, rfl, fun j hj => ?_⟩
    have e1 := (hi j (by omega)).1
    have e2 := (hi j (by omega)).2.1
    rw [(hq j hj).1, Addr.add_lit] at e1
    rw [(hq j hj).2, Addr.add_lit] at e2
    have e3 : ((List.range len).map q).getD j (0, 0) = q j := by simp [List.getD_eq_getElem?_getD, hj]
    rw [e3]
    exact ⟨e1, by rw [Nat.add_assoc]; exact e2⟩
end
theorem leaving_of_handed {a : Assume} {C : Checked} {os : Os} {f : FuncId} {r : Reach} {Pre : World → Array Value → Prop} {Post : World → Array Value → Value → World → Prop}
    (h : ReturnsInHanded a C os f r Pre Post) : ReturnsInLeavingWide a C os f r Pre Post := fun enter =>
  ReturnsInOpen.mono (fun _ _ _ x => ⟨x.2.1, onlyLeaving_of_quiet x.1, x.2.2⟩) (fun _ x => x) (h enter)
end Go.Proofs.YtmepndnckcpgjaaGreat
