/- The document's example of label.Read, reckoned. -/
import Derived.Test.YthfoaehjnoiniaaLatN
import Derived.Test.YthfoaehjnoiniaaLexP
namespace Go.Proofs.Ythfoaehjnoiniaa
open Go.RowKit
def readS (s : ByteArray) : Lat × Int × Nat := match labelsOf s with
  | .bad e a => (Lat.zero, e, a)
  | .ok l => ((makeS l).1, (makeS l).2, 0)
def exS : ByteArray := ⟨#[108, 97, 98, 101, 108, 115, 32, 108, 111, 119, 32, 60, 32, 104, 105, 103, 104, 59]⟩
def bLow : ByteArray := ⟨#[108, 111, 119]⟩
def bHigh : ByteArray := ⟨#[104, 105, 103, 104]⟩
def listOf : PR (List Prm) → Option (List Prm)
  | .ok l => some l
  | .bad _ _ => none
theorem ex_labels : listOf (labelsOf exS) = some [(bLow, bHigh, 13)] := by decide +kernel
theorem ex_nm : nmS [(bLow, bHigh, 13)] = [bHigh, bLow] := by
  have h : ([bs bLow, bs bHigh].mergeSort fun x y => decide (x ≤ y)) = [bs bHigh, bs bLow] := by
    simp [List.mergeSort, List.MergeSort.Internal.splitInTwo, bs, bLow, bHigh, List.merge]
    decide
  have h2 : nmAll [(bLow, bHigh, 13)] = [bLow, bHigh] := by decide +kernel
  unfold nmS srt
  rw [h2]
  show cmp (List.map sb ([bs bLow, bs bHigh].mergeSort fun x y => decide (x ≤ y))) = _
  rw [h]
  decide +kernel
theorem ex_make : (makeS [(bLow, bHigh, 13)]).2 = 0 ∧ (makeS [(bLow, bHigh, 13)]).1.names = [bHigh, bLow] ∧ (makeS [(bLow, bHigh, 13)]).1.join = [[0, 0], [0, 1]] ∧ (makeS [(bLow, bHigh, 13)]).1.low = 1 ∧ (makeS [(bLow, bHigh, 13)]).1.high = 0 := by
  unfold makeS
  rw [ex_nm]
  decide +kernel
theorem ex_idx : Lib.idxOfS [bHigh, bLow] bLow = 1 ∧ Lib.idxOfS [bHigh, bLow] bHigh = 0 := by decide +kernel
theorem ex_read : ∃ L : Lat, readS exS = (L, 0, 0) ∧ L.names = [bHigh, bLow] ∧ L.join = [[0, 0], [0, 1]] ∧ L.low = 1 ∧ L.high = 0 := by
  have h := ex_labels
  obtain ⟨h0, h1, h2, h3, h4⟩ := ex_make
  unfold readS
  cases hl : labelsOf exS with
  | bad e a => rw [hl] at h; cases h
  | ok l =>
    rw [hl] at h
    injection h with h
    subst h
    exact ⟨_, by simp only [h0], h1, h2, h3, h4⟩
end Go.Proofs.Ythfoaehjnoiniaa
