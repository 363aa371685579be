/- What the lexers' lists of tokens have in common: an end, and a bound. -/
import Derived.Test.YthfoaehjnoiniaaLexE
import Derived.Test.YthfoaehjnoiniaaLabS
namespace Go.Proofs.Ythfoaehjnoiniaa
open Go.RowKit Go.PlainAid
theorem signOf_size (t : ByteArray) : (signOf t).size ≤ t.size := by
  unfold signOf
  split
  · rename_i p hp
    obtain ⟨h1, k, hk, he, _⟩ := List.find?_eq_some_iff_getElem.1 hp
    have h3 : p.data.toList.isPrefixOf t.data.toList = true := h1
    have h2 := (List.isPrefixOf_iff_prefix.1 h3).length_le
    simpa using h2
  · split
    · rename_i h
      rw [ByteArray.size_extract]
      omega
    · exact Nat.zero_le _
theorem lexF_end (s : ByteArray) : ∀ (f i : Nat) (out L : List Tk), i ≤ s.size → s.size < f + i → lexF s f i out = .ok L → ∃ l, L = l ++ [(0, ⟨#[]⟩, s.size)] ∧ l.length ≤ out.length + (s.size - i)
  | 0, i, out, L, hi, hf, h => by omega
  | f + 1, i, out, L, hi, hf, h => by
    unfold lexF at h
    by_cases h1 : i < s.size
    · rw [if_pos h1] at h
      by_cases h2 : isBlank (bt s i) = true
      · rw [if_pos h2] at h
        obtain ⟨l, e, hl⟩ := lexF_end s f _ _ _ (by omega) (by omega) h
        exact ⟨l, e, by omega⟩
      · rw [if_neg h2] at h
        by_cases h3 : bt s i = 35
        · rw [if_pos h3] at h
          have g1 := runE_gt h1 (p := isNl) (by rw [h3]; rfl)
          have g2 := runE_le s isNl (Nat.le_of_lt h1)
          obtain ⟨l, e, hl⟩ := lexF_end s f _ _ _ (by omega) (by omega) h
          exact ⟨l, e, by omega⟩
        · rw [if_neg h3] at h
          by_cases h4 : isSmall (bt s i) = true
          · rw [if_pos h4] at h
            have g1 := runE_gt h1 (p := isIn) (by unfold isIn; rw [h4]; rfl)
            have g2 := runE_le s isIn (Nat.le_of_lt h1)
            split at h
            · obtain ⟨l, e, hl⟩ := lexF_end s f _ _ _ (by omega) (by omega) h
              rw [List.length_append, List.length_singleton] at hl
              exact ⟨l, e, by omega⟩
            · cases h
          · rw [if_neg h4] at h
            by_cases h5 : isDig (bt s i) = true
            · rw [if_pos h5] at h
              have g1 := runE_gt h1 (p := isDig) h5
              have g2 := runE_le s isDig (Nat.le_of_lt h1)
              split at h
              · obtain ⟨l, e, hl⟩ := lexF_end s f _ _ _ (by omega) (by omega) h
                rw [List.length_append, List.length_singleton] at hl
                exact ⟨l, e, by omega⟩
              · cases h
            · rw [if_neg h5] at h
              split at h
              · cases h
              · rename_i hz
                have g2 : (signOf (s.extract i s.size)).size ≤ s.size - i := Nat.le_trans (signOf_size _) (by rw [ByteArray.size_extract]; omega)
                obtain ⟨l, e, hl⟩ := lexF_end s f _ _ _ (by omega) (by omega) h
                rw [List.length_append, List.length_singleton] at hl
                exact ⟨l, e, by omega⟩
    · rw [if_neg h1] at h
      injection h with h
      exact ⟨out, h.symm, by omega⟩
theorem lexF_bad (s : ByteArray) : ∀ (f i : Nat) (out : List Tk) (e : Int) (a : Nat), lexF s f i out = .bad e a → e ≠ 0
  | 0, i, out, e, a, h => by unfold lexF at h; cases h
  | f + 1, i, out, e, a, h => by
    unfold lexF at h
    split at h
    · split at h
      · exact lexF_bad s f _ _ _ _ h
      · split at h
        · exact lexF_bad s f _ _ _ _ h
        · split at h
          · split at h
            · exact lexF_bad s f _ _ _ _ h
            · rename_i hne
              injection h with h _
              rw [← h]; exact hne
          · split at h
            · split at h
              · exact lexF_bad s f _ _ _ _ h
              · rename_i hne
                injection h with h _
                rw [← h]; exact hne
            · split at h
              · injection h with h _
                rw [← h]; decide
              · exact lexF_bad s f _ _ _ _ h
    · cases h
theorem lexA_tok {s : ByteArray} {L : List Tk} (h : lexA s 0 [] = .ok L) : EndTk L ∧ L.length ≤ s.size + 1 := by
  obtain ⟨l, rfl, hl⟩ := lexF_end s _ 0 [] L (Nat.zero_le _) (by omega) h
  refine ⟨⟨⟨#[]⟩, s.size, ?_⟩, ?_⟩
  · rw [List.length_append, List.length_singleton, Nat.add_sub_cancel, List.getElem?_append_right (Nat.le_refl _), Nat.sub_self]
    rfl
  · rw [List.length_append, List.length_singleton]
    simp at hl
    omega
def labelsOf (s : ByteArray) : PR (List Prm) :=
  if 8192 < s.size then .bad 9 8192 else match lexA s 0 [] with
    | .bad e a => .bad e a
    | .ok L => labelsS L
end Go.Proofs.Ythfoaehjnoiniaa
