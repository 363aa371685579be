/- The library's Sort, Delete, Clone over rows of strings, as the walks of this seat want them. No condition but Go's own bounds. -/
import Derived.Test.YthfoaehjnoiniaaMaps
import Derived.Test.YthfoaehjnoiniaaShelf
import Derived.Sort.OwnSorted
namespace Go.Proofs.Ythfoaehjnoiniaa
open Go.RowKit
open Go.Sort (Holds putRow putCells ahead)
abbrev NoB : Nat → Prop := fun _ => False
def bs (s : ByteArray) : List UInt8 := s.data.toList
def sb (l : List UInt8) : ByteArray := ⟨l.toArray⟩
theorem sb_bs (s : ByteArray) : sb (bs s) = s := by simp [sb, bs]
theorem bs_sb (l : List UInt8) : bs (sb l) = l := by simp [sb, bs]
theorem encStr_bs (s : ByteArray) : encStr (bs s) = .string s := by simp [encStr, bs]
theorem encStr_sb (l : List UInt8) : encStr l = .string (sb l) := rfl
/-- In rising order. -/
def srt (xs : List ByteArray) : List ByteArray := ((xs.map bs).mergeSort fun x y => decide (x ≤ y)).map sb
theorem srt_perm (xs : List ByteArray) : (srt xs).Perm xs := by
  unfold srt
  have h := (List.mergeSort_perm (xs.map bs) (fun x y => decide (x ≤ y))).map sb
  rw [List.map_map] at h
  have e : xs.map (sb ∘ bs) = xs := by
    conv => rhs; rw [← List.map_id xs]
    exact List.map_congr_left fun s _ => sb_bs s
  rw [e] at h
  exact h
theorem srt_length (xs : List ByteArray) : (srt xs).length = xs.length := (srt_perm xs).length_eq

section
variable {w w' : World} {S : Nat → Prop} {base n : Nat} {e : TypeId} {v : Value} {xs : List ByteArray}
theorem flat_strs {css : List (List Value)} (h : All2 (rStr.R w S) xs css) : css.flatten = xs.map Value.string := by
  induction h with
  | nil => rfl
  | @cons x cs xs css a _ ih =>
    have ha : cs = [.string x] := a
    subst ha
    simp [ih]
theorem all_strs (w : World) (S : Nat → Prop) : ∀ xs : List ByteArray, All2 (rStr.R w S) xs (xs.map fun s => [Value.string s])
  | [] => .nil
  | _ :: xs => .cons rfl (all_strs w S xs)
theorem Own.strs (h : Own rStr w S base e v n xs) : w.ownsRow base e 1 v n (xs.map Value.string) := by
  obtain ⟨css, h1, h2⟩ := h.row
  rw [flat_strs h1] at h2
  exact h2
theorem Own.of_strs (hn : xs.length = n) (h : w.ownsRow base e 1 v n (xs.map Value.string)) : Own rStr w NoB base e v n xs :=
  ⟨hn, fun _ hb => hb.elim, _, all_strs w NoB xs, by
    have : (xs.map fun s => [Value.string s]).flatten = xs.map Value.string := by
      clear h hn
      induction xs with
      | nil => rfl
      | cons x xs ih => simp [ih]
    rw [this]; exact h⟩
theorem own_lit1 (W : World) (base : Nat) (hb : base ≤ W.heap.size) (e : TypeId) (z : ByteArray) : Own rStr (W.alloc (.cells #[.string z] e)) NoB base e (.slice (some ⟨W.heap.size, 0, none⟩) 1 1) 1 [z] :=
  Own.of_strs rfl ⟨rfl, .inr ⟨W.heap.size, 1, #[.string z], rfl, hb, heap_alloc_new W _, Nat.le_refl _, by simp [maxLen], rfl, rfl⟩⟩
theorem map_enc (xs : List ByteArray) : (xs.map bs).map encStr = xs.map Value.string := by
  rw [List.map_map]
  exact List.map_congr_left fun s _ => encStr_bs s
theorem sort_any (h : Own rStr w NoB base e v n xs) (hn : n < 4611686018427387904) :
    Calls Try.prog 30 #[v] w fun en w' => en = .returned (.tuple #[]) ∧ Own rStr w' NoB base e v n (srt xs) ∧ w.grownBy w' v.ownBlock := by
  have hl := h.len
  have hrow := h.strs
  rcases hrow.2 with ⟨rfl, h0⟩ | ⟨g, cap, cur, rfl, hbase, hb, h1, h2, h3, h4⟩
  · subst h0
    have hx : xs = [] := List.eq_nil_of_length_eq_zero hl
    subst hx
    refine (Try.slices_Sort_string_none none 0 w).mono ?_
    rintro en w1 ⟨rfl, rfl⟩
    exact ⟨rfl, by simpa [srt] using h, World.grownBy.refl _ _⟩
  · rw [Nat.mul_one, ← map_enc] at h4
    have hl' : (xs.map bs).length = n := by simp [hl]
    have hH : Holds encStr w g 0 (xs.map bs).toArray := holds_of_block hb (by rw [hl']; exact h4)
    have hc := Try.slices_Sort_string g 0 cap (xs.map bs) w hH (Array.getElem?_eq_some_iff.1 hb).1 (by rw [hl']; exact hn)
    rw [hl'] at hc
    refine hc.mono ?_
    rintro en w1 ⟨rfl, q, os, rfl⟩
    refine ⟨rfl, ?_, grownBy_sorted _⟩
    have hs := ownsRow_sorted (w := w) (n := q) (os := os) (ss := xs.map bs) (ts := (xs.map bs).mergeSort fun x y => decide (x ≤ y)) (by simp) hbase hb (by rw [hl']; exact h1) h2 h3
    refine Own.of_strs (by rw [srt_length]; exact hl) ?_
    rw [hl'] at hs
    have e1 : (srt xs).map Value.string = ((xs.map bs).mergeSort fun x y => decide (x ≤ y)).map encStr := by
      unfold srt
      rw [List.map_map]
      rfl
    rw [e1]
    exact hs
theorem delete_any (h : Own rStr w NoB base e v n xs) {i : Nat} (hi : i < n) :
    Calls Try.prog 33 #[v, .int .i64 i, .int .i64 (i + 1)] w fun en w' => ∃ v', en = .returned v' ∧ Own rStr w' NoB base e v' (n - 1) (xs.eraseIdx i) ∧ w.grownBy w' v.ownBlock ∧ v'.ownBlock = v.ownBlock := by
  have hl := h.len
  have hrow := h.strs
  rcases hrow.2 with ⟨rfl, h0⟩ | ⟨g, cap, cur, rfl, hbase, hb, h1, h2, h3, h4⟩
  · omega
  · rw [Nat.mul_one, ← map_enc] at h4
    have hl' : (xs.map bs).length = n := by simp [hl]
    have hH : Holds encStr w g 0 (xs.map bs).toArray := holds_of_block hb (by rw [hl']; exact h4)
    have hc := Try.slices_Delete_string g 0 cap i (i + 1) (xs.map bs) w hH (by rw [hl']; exact h1) (by simpa [maxLen] using h2) (by omega) (by rw [hl']; omega)
    rw [hl', show i + 1 - i = 1 from by omega] at hc
    refine hc.mono ?_
    rintro en w1 ⟨rfl, q, rfl⟩
    generalize hts : (xs.map bs).take i ++ (xs.map bs).drop (i + 1) ++ List.replicate 1 [] = ts
    have hlt : ts.length = n := by rw [← hts]; simp; omega
    have hgr := grownBy_sorted (w := w) (g := g) (n := q) (os := #[]) ts.toArray
    simp only [Go.Sort.grow_empty] at hgr
    refine ⟨_, rfl, ?_, hgr, rfl⟩
    have hs := ownsRow_sorted (w := w) (n := q) (os := #[]) (ss := xs.map bs) (ts := ts) (by rw [hlt, hl']) hbase hb (by rw [hl']; exact h1) h2 h3
    simp only [Go.Sort.grow_empty] at hs
    rw [hl'] at hs
    rcases hs.2 with ⟨e1, _⟩ | ⟨g', cap', cur', e1, hb', hg', k1, k2, k3, k4⟩
    · cases e1
    · injection e1 with e1 _ e2
      injection e1 with e1
      injection e1 with e1 _
      subst e1 e2
      have hlen : (xs.eraseIdx i).length = n - 1 := by rw [List.length_eraseIdx_of_lt (by omega)]; omega
      refine Own.of_strs hlen ⟨by simp [hlen], .inr ⟨g, cap, cur', rfl, hb', hg', by omega, k2, k3, ?_⟩⟩
      have e2 : (xs.eraseIdx i).map Value.string = (ts.take (n - 1)).map encStr := by
        rw [← hts, List.take_append_of_le_length (by simp; omega), List.take_of_length_le (by simp; omega), ← map_enc, List.eraseIdx_eq_take_drop_succ]
        simp
      rw [e2, Nat.mul_one, List.map_take, ← k4, Nat.mul_one, List.take_take]
      congr 1
      omega
theorem clone_any {A : Option Addr} {c : Nat} (h : Sl rStr w S A xs) (hn : xs.length = n) (hbig : n * 16 ≤ 140737488355328) (hnil : xs = [] → A = none) :
    Calls Try.prog 52 #[.slice A n c] w fun en w' => ∃ v', en = .returned v' ∧ Own rStr w' NoB w.heap.size 9 v' n xs ∧ Below w.heap.size w w' := by
  cases xs with
  | nil =>
    have hA := hnil rfl
    subst hA
    refine (Try.slices_Clone_string_nil n c w).mono ?_
    rintro en w1 ⟨rfl, rfl⟩
    have h0 : n = 0 := by simpa using hn.symm
    subst h0
    exact ⟨_, rfl, Own.nil rStr _ (fun _ h => h.elim) _ _, Below.refl _ _⟩
  | cons x xs =>
    obtain ⟨ad, rfl, hs, hc⟩ := h.str (i := 0) (by simp)
    have had := plain_addr (by simpa [add_zero'] using hc)
    generalize ad.block = b at had
    generalize ad.off = off at had
    subst had
    have hcs : ∀ j, j < (x :: xs).length → w.cell? ⟨b, off + j, none⟩ = some (.string ((x :: xs).getD j ByteArray.empty)) := fun j hj => by
      obtain ⟨ad, e1, _, h1⟩ := h.str hj
      injection e1 with e1
      subst e1
      rw [add_plain'] at h1
      rw [h1, List.getD_eq_getElem?_getD, List.getElem?_eq_getElem hj]
      rfl
    refine (Try.slices_Clone_string b off n c (x :: xs) w (by omega) hbig hcs).mono ?_
    rintro en w1 ⟨v', rfl, hown, _, hb⟩
    rw [List.take_of_length_le (by omega)] at hown
    exact ⟨v', rfl, Own.of_strs hn hown, hb⟩
end
end Go.Proofs.Ythfoaehjnoiniaa
