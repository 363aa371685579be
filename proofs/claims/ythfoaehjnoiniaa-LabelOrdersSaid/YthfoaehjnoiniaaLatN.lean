/- What Make answers, in plain words. No condition. -/
import Derived.Test.YthfoaehjnoiniaaLatS
import Derived.Test.YthfoaehjnoiniaaLabP
import Derived.Test.YthfoaehjnoiniaaLabS
namespace Go.Proofs.Ythfoaehjnoiniaa
open Go.RowKit
theorem nil_yes {y : ByteArray} (h : y.size = 0) : (y.toList == []) = true := by
  rw [ByteArray.toList_eq]
  have : y.data.toList = [] := by
    apply List.eq_nil_of_length_eq_zero
    simpa using h
  rw [this]; rfl
theorem nil_no {y : ByteArray} (h : ¬ y.size = 0) : (y.toList == []) = false := by
  have : ¬ y.toList = [] := fun e => h (by
    rw [ByteArray.toList_eq] at e
    have := congrArg List.length e
    simpa using this)
  simpa using this
def nmOf (p : Prm) : List ByteArray := if p.2.1.size = 0 then [p.1] else [p.1, p.2.1]
def nmAll (l : List Prm) : List ByteArray := l.flatMap nmOf
def nmS (l : List Prm) : List ByteArray := cmp (srt (nmAll l))
theorem nmAll_snoc (l : List Prm) (p : Prm) : nmAll (l ++ [p]) = nmAll l ++ nmOf p := by unfold nmAll; simp
theorem nmOf_len (p : Prm) : (nmOf p).length ≤ 2 := by unfold nmOf; split <;> simp
theorem nmAll_len (l : List Prm) : (nmAll l).length ≤ 2 * l.length := by
  unfold nmAll
  induction l with
  | nil => simp
  | cons p l ih =>
    rw [List.flatMap_cons, List.length_append, List.length_cons]
    have := nmOf_len p
    omega
/-- p stands below q, by their places. -/
def setBy (names : List ByteArray) (p : Prm) : Tab := fun a b => !decide (p.2.1.size = 0) && decide (Lib.idxOfS names p.1 = (a : Int)) && decide (Lib.idxOfS names p.2.1 = (b : Int))
def M0 (names : List ByteArray) (l : List Prm) : Tab := fun a b => decide (a = b) || l.any fun p => setBy names p a b
def latE : Option Lat → Lat × Int
  | none => (Lat.zero, 13)
  | some L => (L, 0)
def makeS (l : List Prm) : Lat × Int :=
  if (nmS l).length = 0 then (Lat.zero, 13) else if 12 < (nmS l).length then (Lat.zero, 14)
  else latE (latS (nmS l) (warsh (nmS l).length (M0 (nmS l) l)))
theorem mem_compactUpTo {zs : List (List UInt8)} {x : List UInt8} (h : x ∈ Lib.compact zs) : x ∈ zs := by
  unfold Lib.compact Lib.compactUpTo at h
  obtain ⟨i, hi, rfl⟩ := List.mem_map.1 h
  have := List.mem_range.1 (List.mem_filter.1 hi).1
  have e : zs.toArray[i]! = zs[i] := by simp [this]
  rw [e]
  exact List.getElem_mem _
theorem mem_compact {zs : List (List UInt8)} {x : List UInt8} (h : x ∈ zs) : x ∈ Lib.compact zs := by
  obtain ⟨i, hi, rfl⟩ := List.getElem_of_mem h
  unfold Lib.compact Lib.compactUpTo
  induction i with
  | zero =>
    refine List.mem_map.2 ⟨0, List.mem_filter.2 ⟨List.mem_range.2 hi, Lib.keeps_lt_one _ 0 (by omega)⟩, by simp [hi]⟩
  | succ i ih =>
    by_cases hne : zs.toArray[i + 1]! = zs.toArray[i + 1 - 1]!
    · have e : zs[i + 1] = zs[i] := by
        have h1 : zs.toArray[i + 1]! = zs[i + 1] := by simp [hi]
        have h2 : zs.toArray[i + 1 - 1]! = zs[i] := by simp [show i < zs.length by omega]
        rw [← h1, hne, h2]
      rw [e]
      exact ih (by omega) (List.getElem_mem _)
    · exact List.mem_map.2 ⟨i + 1, List.mem_filter.2 ⟨List.mem_range.2 hi, Lib.keeps_pos hne⟩, by simp [hi]⟩
theorem mem_cmp {xs : List ByteArray} {x : ByteArray} : x ∈ cmp xs ↔ x ∈ xs := by
  unfold cmp
  constructor
  · intro h
    obtain ⟨y, hy, rfl⟩ := List.mem_map.1 h
    obtain ⟨z, hz, rfl⟩ := List.mem_map.1 (mem_compactUpTo hy)
    rw [sb_bs]; exact hz
  · intro h
    exact List.mem_map.2 ⟨bs x, mem_compact (List.mem_map_of_mem h), sb_bs x⟩
theorem mem_nmS {l : List Prm} {x : ByteArray} : x ∈ nmS l ↔ x ∈ nmAll l := by
  unfold nmS
  rw [mem_cmp]
  exact (srt_perm _).mem_iff
theorem nmS_of {l : List Prm} {p : Prm} (h : p ∈ l) : p.1 ∈ nmS l ∧ (p.2.1.size ≠ 0 → p.2.1 ∈ nmS l) := by
  have hm : ∀ x, x ∈ nmOf p → x ∈ nmS l := fun x hx => mem_nmS.2 (List.mem_flatMap.2 ⟨p, h, hx⟩)
  refine ⟨hm _ (by unfold nmOf; split <;> simp), fun h0 => hm _ (by unfold nmOf; rw [if_neg h0]; simp)⟩
end Go.Proofs.Ythfoaehjnoiniaa
