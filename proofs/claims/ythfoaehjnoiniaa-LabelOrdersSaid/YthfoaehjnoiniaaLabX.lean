/- Bounds of what the parsers of labels answer. -/
import Derived.Test.YthfoaehjnoiniaaLexP
namespace Go.Proofs.Ythfoaehjnoiniaa
open Go.RowKit
theorem labIn_len (L : List Tk) : ∀ (f i : Nat) (last : ByteArray) (alone : Bool) (out : List Prm), (∀ e a, labIn L f i last alone out = .bad e a → e = 11) ∧ ∀ j last' alone' out', labIn L f i last alone out = .ok (j, last', alone', out') → i ≤ j ∧ out'.length + i ≤ out.length + j
  | 0, i, last, alone, out => ⟨fun e a h => by simp [labIn] at h, fun j l' a' o' h => by simp only [labIn, PR.ok.injEq, Prod.mk.injEq] at h; obtain ⟨rfl, _, _, rfl⟩ := h; exact ⟨Nat.le_refl _, Nat.le_refl _⟩⟩
  | f + 1, i, last, alone, out => by
    by_cases h1 : isTk (tk L i) bLt = true
    · by_cases h2 : (tk L (i + 1)).1 = 1
      · rw [labIn_more h1 h2]
        obtain ⟨g1, g2⟩ := labIn_len L f (i + 2) (tk L (i + 1)).2.1 false (out ++ [(last, (tk L (i + 1)).2.1, (tk L (i + 1)).2.2)])
        refine ⟨g1, fun j l' a' o' h => ?_⟩
        have := g2 j l' a' o' h
        rw [List.length_append, List.length_singleton] at this
        omega
      · rw [labIn_bad h1 h2]
        exact ⟨fun e a h => by injection h with h _; exact h.symm, fun j l' a' o' h => by cases h⟩
    · rw [labIn_stop (Bool.eq_false_iff.2 h1)]
      exact ⟨fun e a h => (by cases h), fun j l' a' o' h => by simp only [PR.ok.injEq, Prod.mk.injEq] at h; obtain ⟨rfl, _, _, rfl⟩ := h; exact ⟨Nat.le_refl _, Nat.le_refl _⟩⟩
theorem tk_end {L : List Tk} {i : Nat} (h : L.length ≤ i) : (tk L i).1 = 0 := by
  unfold tk
  rw [List.getElem?_eq_none_iff.2 h]
  rfl
theorem labOut_len (L : List Tk) : ∀ (f i : Nat) (out : List Prm), (∀ e a, labOut L f i out = .bad e a → e = 11) ∧ ∀ out', labOut L f i out = .ok out' → out'.length ≤ out.length + (L.length - i)
  | 0, i, out => ⟨fun e a h => by simp [labOut] at h, fun o' h => by simp only [labOut, PR.ok.injEq] at h; rw [← h]; omega⟩
  | f + 1, i, out => by
    by_cases h0 : (tk L i).1 = 0
    · rw [labOut_end h0]
      exact ⟨fun e a h => (by cases h), fun o' h => by injection h with h; rw [← h]; omega⟩
    · have hi : i < L.length := by
        rcases Nat.lt_or_ge i L.length with h | h
        · exact h
        · exact absurd (tk_end h) h0
      by_cases h1 : (tk L i).1 = 1
      · rw [labOut_name h1]
        obtain ⟨g1, g2⟩ := labIn_len L f (i + 1) (tk L i).2.1 true out
        cases hin : labIn L f (i + 1) (tk L i).2.1 true out with
        | bad e a => exact ⟨fun e' a' h => by injection h with h _; rw [← h]; exact g1 e a hin, fun o' h => by cases h⟩
        | ok r =>
          obtain ⟨j, last, alone, o1⟩ := r
          obtain ⟨k1, k2⟩ := g2 j last alone o1 hin
          unfold labK
          by_cases hs : isTk (tk L j) bSemi = true
          · have hj : j < L.length := by
              rcases Nat.lt_or_ge j L.length with h | h
              · exact h
              · exact absurd (tk_end h) (isTk_kind hs)
            simp only [if_pos hs]
            obtain ⟨m1, m2⟩ := labOut_len L f (j + 1) (if alone = true then o1 ++ [(last, ⟨#[]⟩, (tk L i).2.2)] else o1)
            refine ⟨m1, fun o' h => ?_⟩
            have := m2 o' h
            have hle : (if alone = true then o1 ++ [(last, ⟨#[]⟩, (tk L i).2.2)] else o1).length ≤ o1.length + 1 := by split <;> simp
            omega
          · simp only [if_neg hs]
            exact ⟨fun e a h => by injection h with h _; exact h.symm, fun o' h => by cases h⟩
      · rw [labOut_bad h0 h1]
        exact ⟨fun e a h => by injection h with h _; exact h.symm, fun o' h => by cases h⟩
theorem labelsOf_len (s : ByteArray) : (∀ e a, labelsOf s = .bad e a → e ≠ 0) ∧ ∀ out, labelsOf s = .ok out → out.length ≤ 8193 := by
  unfold labelsOf
  by_cases h : 8192 < s.size
  · rw [if_pos h]
    exact ⟨fun e a h => by injection h with h _; rw [← h]; decide, fun o h => by cases h⟩
  · rw [if_neg h]
    cases hl : lexA s 0 [] with
    | bad e a => exact ⟨fun e' a' h => by injection h with h _; rw [← h]; exact lexF_bad s _ _ _ _ _ hl, fun o h => by cases h⟩
    | ok L =>
      obtain ⟨_, h2⟩ := lexA_tok hl
      simp only
      unfold labelsS
      by_cases h3 : isTk (tk L 0) bLabels = true
      · rw [if_pos h3]
        obtain ⟨g1, g2⟩ := labOut_len L L.length 1 []
        exact ⟨fun e a h => by rw [g1 e a h]; decide, fun o h => by have := g2 o h; simp at this; omega⟩
      · rw [if_neg h3]
        exact ⟨fun e a h => by injection h with h _; rw [← h]; decide, fun o h => by cases h⟩
end Go.Proofs.Ythfoaehjnoiniaa
