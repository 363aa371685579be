/- What the lexers answer, in plain words. No condition. -/
import Derived.Test.YthfoaehjnoiniaaLexD
import Derived.Test.YthfoaehjnoiniaaTok
namespace Go.Proofs.Ythfoaehjnoiniaa
open Go.RowKit Go.PlainAid
def isBlank (c : Int) : Bool := decide (c = 32) || decide (c = 9) || decide (c = 10) || decide (c = 13)
inductive LexR
  | ok (l : List Tk)
  | bad (e : Int) (at_ : Nat)
def lexF (s : ByteArray) : Nat → Nat → List Tk → LexR
  | 0, _, out => .ok (out ++ [(0, ⟨#[]⟩, s.size)])
  | f + 1, i, out =>
    if i < s.size then
      if isBlank (bt s i) then lexF s f (i + 1) out
      else if bt s i = 35 then lexF s f (runE s isNl i) out
      else if isSmall (bt s i) then
        if (wordOf (s.extract i (runE s isIn i))).2 = 0 then lexF s f (runE s isIn i) (out ++ [((wordOf (s.extract i (runE s isIn i))).1, s.extract i (runE s isIn i), i)])
        else .bad (wordOf (s.extract i (runE s isIn i))).2 i
      else if isDig (bt s i) then
        if (numberOf (s.extract i (runE s isDig i)) (s.extract (runE s isDig i) s.size)).2 = 0 then lexF s f (runE s isDig i) (out ++ [((numberOf (s.extract i (runE s isDig i)) (s.extract (runE s isDig i) s.size)).1, s.extract i (runE s isDig i), i)])
        else .bad (numberOf (s.extract i (runE s isDig i)) (s.extract (runE s isDig i) s.size)).2 i
      else if (signOf (s.extract i s.size)).size = 0 then .bad 10 i
      else lexF s f (i + (signOf (s.extract i s.size)).size) (out ++ [(4, signOf (s.extract i s.size), i)])
    else .ok (out ++ [(0, ⟨#[]⟩, s.size)])
theorem runE_gt {s : ByteArray} {p : Int → Bool} {i : Nat} (h : i < s.size) (hp : p (bt s i) = true) : i + 1 ≤ runE s p i := by
  rw [runE_step h hp]
  exact runE_ge _ _ _
theorem lexF_fuel (s : ByteArray) : ∀ (f g i : Nat) (out : List Tk), s.size < f + i → s.size < g + i → lexF s f i out = lexF s g i out
  | 0, 0, i, out, _, _ => rfl
  | 0, g + 1, i, out, h, _ => by
    unfold lexF; rw [if_neg (by omega)]
  | f + 1, 0, i, out, _, h => by
    unfold lexF; rw [if_neg (by omega)]
  | f + 1, g + 1, i, out, h1, h2 => by
    unfold lexF
    by_cases hi : i < s.size
    · rw [if_pos hi, if_pos hi]
      by_cases hb : isBlank (bt s i) = true
      · rw [if_pos hb, if_pos hb]; exact lexF_fuel s f g _ _ (by omega) (by omega)
      · rw [if_neg hb, if_neg hb]
        by_cases h3 : bt s i = 35
        · have := runE_gt hi (p := isNl) (by rw [h3]; rfl)
          rw [if_pos h3, if_pos h3]; exact lexF_fuel s f g _ _ (by omega) (by omega)
        · rw [if_neg h3, if_neg h3]
          by_cases h4 : isSmall (bt s i) = true
          · have := runE_gt hi (p := isIn) (by unfold isIn; rw [h4]; rfl)
            rw [if_pos h4, if_pos h4]
            split
            · exact lexF_fuel s f g _ _ (by omega) (by omega)
            · rfl
          · rw [if_neg h4, if_neg h4]
            by_cases h5 : isDig (bt s i) = true
            · have := runE_gt hi (p := isDig) h5
              rw [if_pos h5, if_pos h5]
              split
              · exact lexF_fuel s f g _ _ (by omega) (by omega)
              · rfl
            · rw [if_neg h5, if_neg h5]
              split
              · rfl
              · exact lexF_fuel s f g _ _ (by omega) (by omega)
    · rw [if_neg hi, if_neg hi]
/-- What is left to be told from i on. -/
def lexA (s : ByteArray) (i : Nat) (out : List Tk) : LexR := lexF s (s.size + 1) i out
theorem lexA_step {s : ByteArray} {i j : Nat} {out' : List Tk} (hij : i + 1 ≤ j) : lexF s s.size j out' = lexA s j out' := lexF_fuel s _ _ _ _ (by omega) (by omega)
section
variable {s : ByteArray} {i : Nat} {out : List Tk}
theorem lexA_end (h : ¬ i < s.size) : lexA s i out = .ok (out ++ [(0, ⟨#[]⟩, s.size)]) := by
  unfold lexA lexF
  rw [if_neg h]
theorem lexA_blank (h : i < s.size) (hb : isBlank (bt s i) = true) : lexA s i out = lexA s (i + 1) out := by
  conv => lhs; unfold lexA lexF
  rw [if_pos h, if_pos hb]
  exact lexA_step (i := i) (Nat.le_refl _)
theorem lexA_note (h : i < s.size) (hb : bt s i = 35) : lexA s i out = lexA s (runE s isNl i) out := by
  conv => lhs; unfold lexA lexF
  rw [if_pos h, if_neg (by rw [hb]; decide), if_pos hb]
  exact lexA_step (i := i) (runE_gt h (by rw [hb]; rfl))
theorem small_not {c : Int} (h : isSmall c = true) : isBlank c = false ∧ c ≠ 35 := by
  simp [isSmall, isBlank] at *
  omega
theorem lexA_word (h : i < s.size) (hb : isSmall (bt s i) = true) : lexA s i out = if (wordOf (s.extract i (runE s isIn i))).2 = 0 then lexA s (runE s isIn i) (out ++ [((wordOf (s.extract i (runE s isIn i))).1, s.extract i (runE s isIn i), i)]) else .bad (wordOf (s.extract i (runE s isIn i))).2 i := by
  conv => lhs; unfold lexA lexF
  obtain ⟨h1, h2⟩ := small_not hb
  rw [if_pos h, if_neg (by rw [h1]; decide), if_neg h2, if_pos hb, lexA_step (i := i) (runE_gt h (by unfold isIn; rw [hb]; rfl))]
theorem dig_not {c : Int} (h : isDig c = true) : isBlank c = false ∧ c ≠ 35 ∧ isSmall c = false := by
  simp [isDig, isSmall, isBlank] at *
  omega
theorem lexA_num (h : i < s.size) (hb : isDig (bt s i) = true) : lexA s i out = if (numberOf (s.extract i (runE s isDig i)) (s.extract (runE s isDig i) s.size)).2 = 0 then lexA s (runE s isDig i) (out ++ [((numberOf (s.extract i (runE s isDig i)) (s.extract (runE s isDig i) s.size)).1, s.extract i (runE s isDig i), i)]) else .bad (numberOf (s.extract i (runE s isDig i)) (s.extract (runE s isDig i) s.size)).2 i := by
  conv => lhs; unfold lexA lexF
  obtain ⟨h1, h2, h3⟩ := dig_not hb
  rw [if_pos h, if_neg (by rw [h1]; decide), if_neg h2, if_neg (by rw [h3]; decide), if_pos hb, lexA_step (i := i) (runE_gt h hb)]
theorem lexA_sign (h : i < s.size) (h1 : isBlank (bt s i) = false) (h2 : bt s i ≠ 35) (h3 : isSmall (bt s i) = false) (h4 : isDig (bt s i) = false) :
    lexA s i out = if (signOf (s.extract i s.size)).size = 0 then .bad 10 i else lexA s (i + (signOf (s.extract i s.size)).size) (out ++ [(4, signOf (s.extract i s.size), i)]) := by
  conv => lhs; unfold lexA lexF
  rw [if_pos h, if_neg (by rw [h1]; decide), if_neg h2, if_neg (by rw [h3]; decide), if_neg (by rw [h4]; decide)]
  by_cases hz : (signOf (s.extract i s.size)).size = 0
  · rw [if_pos hz, if_pos hz]
  · rw [if_neg hz, if_neg hz, lexA_step (i := i) (by omega)]
end
end Go.Proofs.Ythfoaehjnoiniaa
