/- Lattices, in plain words: the least of those that are so; what Make answers. No condition. -/
import Derived.Test.YthfoaehjnoiniaaMat
namespace Go.Proofs.Ythfoaehjnoiniaa
open Go.RowKit
/-- The first that is so and is at most all that are so. -/
def isLeast (n : Nat) (M : Tab) (C : Nat → Bool) (c : Nat) : Bool := C c && (List.range n).all fun d => !(C d && !(M c d))
def leastF (n : Nat) (M : Tab) (C : Nat → Bool) : Option Nat := (List.range n).find? (isLeast n M C)
theorem find_range_none {n : Nat} {p : Nat → Bool} (h : ∀ i, i < n → p i = false) : (List.range n).find? p = none := by
  rw [List.find?_eq_none]
  intro x hx
  rw [h x (List.mem_range.1 hx)]
  decide
theorem find_range_some {n : Nat} {p : Nat → Bool} {i : Nat} (hi : i < n) (hp : p i = true) (h : ∀ j, j < i → p j = false) : (List.range n).find? p = some i := by
  rw [List.find?_eq_some_iff_getElem]
  refine ⟨hp, i, by simpa using hi, by simp, fun j hj => ?_⟩
  rw [List.getElem_range, h j hj]; rfl
theorem all_range {n : Nat} {p : Nat → Bool} : (List.range n).all p = true ↔ ∀ i, i < n → p i = true := by
  rw [List.all_eq_true]
  exact ⟨fun h i hi => h i (List.mem_range.2 hi), fun h i hi => h i (List.mem_range.1 hi)⟩
theorem all_range_false {n : Nat} {p : Nat → Bool} {i : Nat} (hi : i < n) (hp : p i = false) : (List.range n).all p = false := by
  rw [Bool.eq_false_iff]
  intro h
  rw [all_range.1 h i hi] at hp
  cases hp
section
variable {n : Nat} {M : Tab} {C : Nat → Bool} {c d : Nat}
theorem isLeast_no (h : C c = false) : isLeast n M C c = false := by unfold isLeast; rw [h]; rfl
theorem isLeast_not (hd : d < n) (h1 : C d = true) (h2 : M c d = false) : isLeast n M C c = false := by
  unfold isLeast
  rw [all_range_false hd (by rw [h1, h2]; rfl), Bool.and_false]
theorem isLeast_yes (h : C c = true) (h2 : ∀ d, d < n → C d = true → M c d = true) : isLeast n M C c = true := by
  unfold isLeast
  rw [h, Bool.true_and, all_range]
  intro d hd
  cases hc : C d with
  | false => rfl
  | true => rw [h2 d hd hc]; rfl
end
/-! ### joins, meets -/
def flipT (M : Tab) : Tab := fun a b => M b a
def jF (n : Nat) (M : Tab) (a b : Nat) : Option Nat := leastF n M fun c => M a c && M b c
def mF (n : Nat) (M : Tab) (a b : Nat) : Option Nat := leastF n (flipT M) fun c => M c a && M c b
def badP (n : Nat) (M : Tab) (a b : Nat) : Bool := (!decide (a = b) && (M a b && M b a)) || !((jF n M a b).isSome && (mF n M a b).isSome)
def rowOf (F : Nat → Nat → Option Nat) (a b : Nat) : List Int := (List.range b).map fun y => (((F a y).getD 0 : Nat) : Int)
def tabOf (F : Nat → Nat → Option Nat) (n a : Nat) : List (List Int) := (List.range a).map fun x => rowOf F x n
theorem rowOf_succ (F : Nat → Nat → Option Nat) (a b : Nat) : rowOf F a (b + 1) = rowOf F a b ++ [(((F a b).getD 0 : Nat) : Int)] := by
  unfold rowOf; rw [List.range_succ, List.map_append]; rfl
theorem tabOf_succ (F : Nat → Nat → Option Nat) (n a : Nat) : tabOf F n (a + 1) = tabOf F n a ++ [rowOf F a n] := by
  unfold tabOf; rw [List.range_succ, List.map_append]; rfl
theorem rowOf_len (F : Nat → Nat → Option Nat) (a b : Nat) : (rowOf F a b).length = b := by simp [rowOf]
theorem tabOf_len (F : Nat → Nat → Option Nat) (n a : Nat) : (tabOf F n a).length = a := by simp [tabOf]
/-- Is it a lattice, of all pairs? -/
def okT (n : Nat) (M : Tab) : Bool := (List.range n).all fun a => (List.range n).all fun b => !badP n M a b
theorem okT_no {n : Nat} {M : Tab} {a b : Nat} (ha : a < n) (hb : b < n) (h : badP n M a b = true) : okT n M = false :=
  all_range_false ha (all_range_false hb (by rw [h]; rfl))
theorem okT_yes {n : Nat} {M : Tab} (h : ∀ a b, a < n → b < n → badP n M a b = false) : okT n M = true :=
  all_range.2 fun a ha => all_range.2 fun b hb => by rw [h a b ha hb]; rfl
def lowF (n : Nat) (M : Tab) : Option Nat := leastF n M fun _ => true
def highF (n : Nat) (M : Tab) : Option Nat := leastF n (flipT M) fun _ => true
/-- A lattice. -/
structure Lat where
  names : List ByteArray
  le : List (List Bool)
  join : List (List Int)
  meet : List (List Int)
  low : Int
  high : Int
def Lat.zero : Lat := ⟨[], [], [], [], 0, 0⟩
/-- Of names and a closed order. -/
def latS (names : List ByteArray) (M : Tab) : Option Lat :=
  if okT names.length M = true ∧ (lowF names.length M).isSome = true ∧ (highF names.length M).isSome = true then
    some ⟨names, tabB names.length M, tabOf (jF names.length M) names.length names.length, tabOf (mF names.length M) names.length names.length, ((lowF names.length M).getD 0 : Nat), ((highF names.length M).getD 0 : Nat)⟩
  else none
end Go.Proofs.Ythfoaehjnoiniaa
