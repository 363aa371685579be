/- What a slice of integers that came in reads as. No condition. -/
import Derived.Test.YthfoaehjnoiniaaBase
import Derived.ProofKit
namespace Go.Proofs.Ythfoaehjnoiniaa
open Go.RowKit
theorem row_sl {k : IntKind} {w : World} {a : Option Addr} {len cap : Nat} {zs : List Int}
    (h : (a = none ∧ len = 0 ∧ cap = 0 ∧ zs = []) ∨ ∃ x, a = some x ∧ len ≤ cap ∧ cap ≤ maxLen ∧ zs.length = cap ∧ (∀ i, i < zs.length → w.cell? (x.add i) = some (.int k (zs.getD i 0))) ∧ ∀ n ∈ zs, (Lit.int k n).wf = true) :
    (zs.take len).length = len ∧ len ≤ maxLen ∧ Sl (rInt k) w (fun b => b < w.heap.size) a (zs.take len) ∧ ∀ x ∈ zs.take len, (Lit.int k x).wf = true := by
  rcases h with ⟨rfl, rfl, rfl, rfl⟩ | ⟨x, rfl, h1, h2, h3, h4, h5⟩
  · exact ⟨rfl, Nat.zero_le _, Sl.nil _, fun x h => by simp at h⟩
  · refine ⟨by rw [List.length_take]; omega, by omega, fun i z hz => ?_, fun z hz => h5 z (List.mem_of_mem_take hz)⟩
    rw [List.getElem?_take] at hz
    split at hz
    · obtain ⟨hi, rfl⟩ := List.getElem?_eq_some_iff.1 hz
      have hc := h4 i hi
      rw [List.getD_eq_getElem?_getD, List.getElem?_eq_getElem hi] at hc
      have hlt := World.block_lt_of_cell? w _ hc
      rw [add_block] at hlt
      refine ⟨x, [.int k zs[i]], rfl, hlt, rfl, fun j u hu => ?_⟩
      match j, hu with
      | 0, hu =>
        simp at hu
        subst hu
        show w.cell? (x.add (i * 1 + 0)) = _
        rw [Nat.mul_one, Nat.add_zero]
        exact hc
    · cases hz
theorem u8_wf {n : Int} (h : (Lit.int .u8 n).wf = true) : 0 ≤ n ∧ n ≤ 255 := by
  simp [Lit.wf, IntKind.min, IntKind.max, IntKind.signed, IntKind.bits] at h
  exact h
end Go.Proofs.Ythfoaehjnoiniaa
