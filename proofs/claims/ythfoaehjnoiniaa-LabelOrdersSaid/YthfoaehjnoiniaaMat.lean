/- A square table of bools in memory, rows in blocks of their own; Warshall's step in place. No condition. -/
import Derived.Test.YthfoaehjnoiniaaProg
import Derived.Test.YthfoaehjnoiniaaBase
namespace Go.Proofs.Ythfoaehjnoiniaa
open Go.RowKit
abbrev Tab := Nat → Nat → Bool
/-- Behind w: what lies outside of X is as it was. -/
structure Upto (X : Nat → Prop) (w w' : World) : Prop where
  os : w'.os = w.os
  tape : w'.tape = w.tape
  output : w'.output = w.output
  size : w.heap.size ≤ w'.heap.size
  block : ∀ k, k < w.heap.size → ¬ X k → w'.heap[k]? = w.heap[k]?
section
variable {X Y : Nat → Prop} {w w' w'' : World}
theorem Upto.refl (X : Nat → Prop) (w : World) : Upto X w w := ⟨rfl, rfl, rfl, Nat.le_refl _, fun _ _ _ => rfl⟩
theorem Upto.trans (h : Upto X w w') (k : Upto X w' w'') : Upto X w w'' :=
  ⟨k.os.trans h.os, k.tape.trans h.tape, k.output.trans h.output, Nat.le_trans h.size k.size, fun i hi hx => (k.block i (Nat.lt_of_lt_of_le hi h.size) hx).trans (h.block i hi hx)⟩
theorem Upto.mono (h : Upto X w w') (hm : ∀ k, k < w.heap.size → X k → Y k) : Upto Y w w' := ⟨h.os, h.tape, h.output, h.size, fun i hi hx => h.block i hi (fun hxx => hx (hm i hi hxx))⟩
theorem Upto.of_below (h : Below w.heap.size w w') : Upto X w w' := ⟨h.os, h.tape, h.output, h.size, fun i hi _ => h.block i hi⟩
theorem Upto.of_grown {row : Option Nat} (h : w.grownBy w' row) (hm : ∀ k, row = some k → X k) : Upto X w w' := ⟨h.os, h.tape, h.output, h.size, fun i hi hx => h.block i hi (fun e => hx (hm i e.symm))⟩
theorem Upto.drewN (h : Upto X w w') (n : Nat) : Upto X w (w'.drewN n) := ⟨h.os, h.tape, h.output, h.size, h.block⟩
theorem Upto.call (h : Upto X w w') (k : Below w'.heap.size w' w'') : Upto X w w'' := h.trans (Upto.of_below k)
theorem Upto.alloc (h : Upto X w w') (o : Obj) : Upto X w (w'.alloc o) := h.call ((Below.refl _ _).alloc (Nat.le_refl _) o)
theorem Upto.set (h : Upto X w w') {p : Addr} (hp : X p.block ∨ w.heap.size ≤ p.block) (u : Value) : Upto X w (w'.setCell p u) :=
  ⟨h.os, h.tape, h.output, by simpa [World.setCell] using h.size, fun i hi hx => (Below.heap_setCell w' p u i (by
    rintro rfl
    rcases hp with hp | hp
    · exact hx hp
    · omega)).trans (h.block i hi hx)⟩
theorem Upto.below {B : Nat} (h : Upto X w w') (hx : ∀ k, X k → B ≤ k) (hB : B ≤ w.heap.size) : Below B w w' :=
  ⟨h.os, h.tape, h.output, h.size, fun i hi => h.block i (Nat.lt_of_lt_of_le hi hB) (fun hxx => by have := hx i hxx; omega)⟩
theorem Upto.below_trans {B : Nat} (hb : Below B w w') (h : Upto X w' w'') (hx : ∀ k, X k → B ≤ k) (hB : B ≤ w'.heap.size) : Below B w w'' := hb.trans (h.below hx hB)
theorem Sl.upto {α : Type} {r : Rep α} {S : Nat → Prop} {A : Option Addr} {xs : List α} (h : Sl r w S A xs) (hu : Upto X w w') (hS : ∀ b, S b → b < w.heap.size ∧ ¬ X b) : Sl r w' S A xs := h.keep fun b hs => hu.block b (hS b hs).1 (hS b hs).2
theorem Blk.upto {g : Nat} {t : TypeId} {cs : Array Value} (h : Blk w g t cs) (hu : Upto X w w') (hx : ¬ X g) : Blk w' g t cs := (hu.block g h.lt hx).trans h
end
def tabB (n : Nat) (M : Tab) : List (List Bool) := (List.range n).map fun a => (List.range n).map (M a)
theorem tabB_len (n : Nat) (M : Tab) : (tabB n M).length = n := by simp [tabB]
theorem tabB_row {n : Nat} {M : Tab} {a : Nat} (h : a < n) : (tabB n M)[a]? = some ((List.range n).map (M a)) := by
  simp [tabB, List.getElem?_range h]
theorem row_at {n : Nat} {f : Nat → Bool} {b : Nat} (h : b < n) : ((List.range n).map f)[b]? = some (f b) := by
  simp [List.getElem?_range h]
/-- The table M, n rows of n: the outer block ob, the rows' blocks gs. -/
structure BMat (w : World) (ob : Nat) (gs : Nat → Nat) (n : Nat) (M : Tab) : Prop where
  outer : ∃ C : Array Value, w.heap[ob]? = some (.cells C 60 (0, 0)) ∧ ∀ i, i < n → ∃ c, C[i]? = some (.slice (some ⟨gs i, 0, none⟩) n c) ∧ n ≤ c ∧ c ≤ maxLen
  row : ∀ i, i < n → ∃ R : Array Value, w.heap[gs i]? = some (.cells R 4 (0, 0)) ∧ ∀ j, j < n → R[j]? = some (.bool (M i j))
  inj : ∀ i j, i < n → j < n → gs i = gs j → i = j
section
variable {w w' : World} {ob : Nat} {gs : Nat → Nat} {n : Nat} {M M' : Tab}
theorem BMat.at_row (h : BMat w ob gs n M) {i : Nat} (hi : i < n) : ∃ c, w.cell? ⟨ob, i, none⟩ = some (.slice (some ⟨gs i, 0, none⟩) n c) ∧ n ≤ c := by
  obtain ⟨C, h1, h2⟩ := h.outer
  obtain ⟨c, hc, hn, _⟩ := h2 i hi
  exact ⟨c, by rw [cell_of_row w ob i C _ _ h1]; exact hc, hn⟩
theorem BMat.at_ (h : BMat w ob gs n M) {i j : Nat} (hi : i < n) (hj : j < n) : w.cell? ⟨gs i, j, none⟩ = some (.bool (M i j)) := by
  obtain ⟨R, h1, h2⟩ := h.row i hi
  rw [cell_of_row w (gs i) j R _ _ h1]
  exact h2 j hj
theorem BMat.free (h : BMat w ob gs n M) {i : Nat} (hi : i < n) (j : Nat) : w.frozen? ⟨gs i, j, none⟩ = false := by
  obtain ⟨R, h1, h2⟩ := h.row i hi
  simp [World.frozen?, h1]
theorem BMat.ne (h : BMat w ob gs n M) {i : Nat} (hi : i < n) : gs i ≠ ob := by
  obtain ⟨R, h1, _⟩ := h.row i hi
  obtain ⟨C, h2, _⟩ := h.outer
  intro e
  rw [e, h2] at h1
  injection h1 with h1
  injection h1 with _ ht
  exact absurd ht (by decide)
theorem BMat.lt (h : BMat w ob gs n M) {i : Nat} (hi : i < n) : gs i < w.heap.size := by
  obtain ⟨R, h1, _⟩ := h.row i hi
  exact (Array.getElem?_eq_some_iff.1 h1).1
theorem BMat.lto (h : BMat w ob gs n M) : ob < w.heap.size := by
  obtain ⟨C, h1, _⟩ := h.outer
  exact (Array.getElem?_eq_some_iff.1 h1).1
theorem BMat.keep (h : BMat w ob gs n M) (hk : w'.heap[ob]? = w.heap[ob]?) (hr : ∀ i, i < n → w'.heap[gs i]? = w.heap[gs i]?) : BMat w' ob gs n M := by
  obtain ⟨C, h1, h2⟩ := h.outer
  refine ⟨⟨C, hk.trans h1, h2⟩, fun i hi => ?_, h.inj⟩
  obtain ⟨R, h3, h4⟩ := h.row i hi
  exact ⟨R, (hr i hi).trans h3, h4⟩
theorem BMat.call (h : BMat w ob gs n M) (hb : Below w.heap.size w w') : BMat w' ob gs n M := h.keep (hb.block _ h.lto) (fun _ hi => hb.block _ (h.lt hi))
theorem BMat.drewN (h : BMat w ob gs n M) (k : Nat) : BMat (w.drewN k) ob gs n M := h.keep rfl (fun _ _ => rfl)
theorem BMat.alloc (h : BMat w ob gs n M) (o : Obj) : BMat (w.alloc o) ob gs n M := h.call ((Below.refl _ _).alloc (Nat.le_refl _) o)
theorem BMat.upto {X : Nat → Prop} (h : BMat w ob gs n M) (hu : Upto X w w') (ho : ¬ X ob) (hg : ∀ i, i < n → ¬ X (gs i)) : BMat w' ob gs n M := h.keep (hu.block _ h.lto ho) (fun i hi => hu.block _ (h.lt hi) (hg i hi))
theorem BMat.congr (h : BMat w ob gs n M) (hm : ∀ i j, i < n → j < n → M' i j = M i j) : BMat w ob gs n M' :=
  ⟨h.outer, fun i hi => by
    obtain ⟨R, h1, h2⟩ := h.row i hi
    exact ⟨R, h1, fun j hj => by rw [h2 j hj, hm i j hi hj]⟩, h.inj⟩
def upd2 (M : Tab) (a b : Nat) (v : Bool) : Tab := fun x y => if x = a ∧ y = b then v else M x y
theorem BMat.set (h : BMat w ob gs n M) {a b : Nat} (ha : a < n) (_hb : b < n) (v : Bool) : BMat (w.setCell ⟨gs a, b, none⟩ (.bool v)) ob gs n (upd2 M a b v) := by
  obtain ⟨C, h1, h2⟩ := h.outer
  refine ⟨⟨C, (Below.heap_setCell w ⟨gs a, b, none⟩ _ ob (fun e => h.ne ha e.symm)).trans h1, h2⟩, fun i hi => ?_, h.inj⟩
  obtain ⟨R, h3, h4⟩ := h.row i hi
  by_cases hia : i = a
  · subst hia
    refine ⟨R.setIfInBounds b (.bool v), by simp [World.setCell, Array.getElem?_modify, h3], fun j hj => ?_⟩
    rw [Array.getElem?_setIfInBounds]
    by_cases hjb : b = j
    · subst hjb
      have hlt : b < R.size := (Array.getElem?_eq_some_iff.1 (h4 b hj)).1
      rw [if_pos rfl, if_pos hlt]
      simp [upd2]
    · rw [if_neg hjb, h4 j hj]
      have : ¬ j = b := fun e => hjb e.symm
      simp [upd2, this]
  · refine ⟨R, (Below.heap_setCell w ⟨gs a, b, none⟩ _ (gs i) (fun e => hia (h.inj i a hi ha e))).trans h3, fun j hj => ?_⟩
    rw [h4 j hj]
    simp [upd2, hia]
/-- As it is read. -/
theorem BMat.sl (h : BMat w ob gs n M) (S : Nat → Prop) (hS : S ob) (hg : ∀ i, i < n → S (gs i)) : Sl (rSl rBool) w S (some ⟨ob, 0, none⟩) (tabB n M) := fun i x hx => by
  have hi : i < n := by
    have := (List.getElem?_eq_some_iff.1 hx).1
    rwa [tabB_len] at this
  rw [tabB_row hi] at hx
  injection hx with hx
  subst hx
  obtain ⟨C, h1, h2⟩ := h.outer
  obtain ⟨c, hc, hn, hcm⟩ := h2 i hi
  refine ⟨⟨ob, 0, none⟩, [.slice (some ⟨gs i, 0, none⟩) n c], rfl, hS, ⟨some ⟨gs i, 0, none⟩, c, by simp, by simpa using hn, hcm, fun j y hy => ?_⟩, fun j u hu => ?_⟩
  · have hj : j < n := by
      have := (List.getElem?_eq_some_iff.1 hy).1
      simpa using this
    rw [row_at hj] at hy
    injection hy with hy
    subst hy
    refine ⟨⟨gs i, 0, none⟩, [.bool (M i j)], rfl, hg i hi, rfl, fun q u hu => ?_⟩
    match q, hu with
    | 0, hu =>
      simp at hu
      subst hu
      show w.cell? ((⟨gs i, 0, none⟩ : Addr).add (j * 1 + 0)) = _
      rw [add_plain', Nat.mul_one, Nat.add_zero, Nat.zero_add]
      exact h.at_ hi hj
  · match j, hu with
    | 0, hu =>
      simp at hu
      subst hu
      show w.cell? ((⟨ob, 0, none⟩ : Addr).add (i * 1 + 0)) = _
      rw [add_plain', Nat.mul_one, Nat.add_zero, Nat.zero_add, cell_of_row w ob i C _ _ h1]
      exact hc
end
/-! ### ways of two steps are one -/
def wstep (k : Nat) (M : Tab) : Tab := fun a b => M a b || (M a k && M k b)
/-- The rows below a, and of row a what lies left of b, are turned. -/
def wmix (k a b : Nat) (M : Tab) : Tab := fun x y => if x < a ∨ (x = a ∧ y < b) then wstep k M x y else M x y
def warsh (n : Nat) (M : Tab) : Tab := (List.range n).foldl (fun M k => wstep k M) M
theorem wstep_col (k : Nat) (M : Tab) (a : Nat) : wstep k M a k = M a k := by unfold wstep; cases M a k <;> cases M k k <;> rfl
theorem wstep_row (k : Nat) (M : Tab) (b : Nat) : wstep k M k b = M k b := by unfold wstep; cases M k b <;> cases M k k <;> rfl
theorem wmix_col (k a b : Nat) (M : Tab) (x : Nat) : wmix k a b M x k = M x k := by
  unfold wmix; split
  · exact wstep_col k M x
  · rfl
theorem wmix_row (k a b : Nat) (M : Tab) (y : Nat) : wmix k a b M k y = M k y := by
  unfold wmix; split
  · exact wstep_row k M y
  · rfl
theorem wmix_here (k a b : Nat) (M : Tab) : wmix k a b M a b = M a b := by
  unfold wmix; rw [if_neg (by omega)]
theorem wmix_start (k : Nat) (M : Tab) : wmix k 0 0 M = M := by
  funext x y; unfold wmix; rw [if_neg (by omega)]
theorem wmix_next (k a b : Nat) (M : Tab) : upd2 (wmix k a b M) a b (wstep k M a b) = wmix k a (b + 1) M := by
  funext x y
  unfold upd2 wmix
  by_cases h : x = a ∧ y = b
  · obtain ⟨rfl, rfl⟩ := h
    rw [if_pos ⟨rfl, rfl⟩, if_pos (by omega)]
  · rw [if_neg h]
    by_cases h2 : x < a ∨ (x = a ∧ y < b)
    · rw [if_pos h2, if_pos (by omega)]
    · rw [if_neg h2, if_neg (by omega)]
theorem wmix_turn {n k a : Nat} {M : Tab} (x y : Nat) (_hx : x < n) (hy : y < n) : wmix k (a + 1) 0 M x y = wmix k a n M x y := by
  unfold wmix
  by_cases h : x < a + 1
  · rw [if_pos (by omega), if_pos (by omega)]
  · rw [if_neg (by omega), if_neg (by omega)]
theorem wmix_skip {k a : Nat} {M : Tab} (h : M a k = false) : wmix k (a + 1) 0 M = wmix k a 0 M := by
  funext x y
  unfold wmix
  by_cases h1 : x < a
  · rw [if_pos (by omega), if_pos (by omega)]
  · by_cases h2 : x = a
    · subst h2
      rw [if_pos (by omega), if_neg (by omega)]
      unfold wstep
      rw [h]
      simp
    · rw [if_neg (by omega), if_neg (by omega)]
theorem wmix_end {n k : Nat} {M : Tab} (x y : Nat) (hx : x < n) (_hy : y < n) : wstep k M x y = wmix k n 0 M x y := by
  unfold wmix; rw [if_pos (by omega)]
def warshK (k : Nat) (M : Tab) : Tab := (List.range k).foldl (fun M k => wstep k M) M
theorem warshK_succ (k : Nat) (M : Tab) : warshK (k + 1) M = wstep k (warshK k M) := by
  unfold warshK; rw [List.range_succ, List.foldl_append]; rfl
end Go.Proofs.Ythfoaehjnoiniaa
