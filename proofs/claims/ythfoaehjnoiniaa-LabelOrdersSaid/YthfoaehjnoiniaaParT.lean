/- parse.Labels by its contract. -/
import Derived.Test.YthfoaehjnoiniaaParS
namespace Go.Proofs.Ythfoaehjnoiniaa
open Go.RowKit
set_option maxHeartbeats 2000000 in
theorem parseLabels_any (s : ByteArray) (w : World) : Calls Try.prog 41 #[.string s] w (ReadPost (labelsOf s) w) := by
  have HL : Asd (Calls Try.prog 64 #[.string s] w (LexPost (if 8192 < s.size then .bad 9 8192 else lexA s 0 []) w)) := ⟨by
    by_cases h : 8192 < s.size
    · rw [if_pos h]; exact lex_big s w h
    · rw [if_neg h]; exact lex_any s w (by omega)⟩
  have hbad : ∀ e a, (if 8192 < s.size then LexR.bad 9 8192 else lexA s 0 []) = .bad e a → labelsOf s = .bad e a ∧ e ≠ 0 := by
    intro e a h
    by_cases h1 : 8192 < s.size
    · rw [if_pos h1] at h
      injection h with h h'
      subst h h'
      exact ⟨by unfold labelsOf; rw [if_pos h1], by decide⟩
    · rw [if_neg h1] at h
      exact ⟨by unfold labelsOf; rw [if_neg h1, h], lexF_bad s _ _ _ _ _ h⟩
  have hok : ∀ L, (if 8192 < s.size then LexR.bad 9 8192 else lexA s 0 []) = .ok L → labelsOf s = labelsS L ∧ EndTk L ∧ L.length ≤ 8193 := by
    intro L h
    by_cases h1 : 8192 < s.size
    · rw [if_pos h1] at h; cases h
    · rw [if_neg h1] at h
      have := lexA_tok h
      exact ⟨by unfold labelsOf; rw [if_neg h1, h], this.1, by omega⟩
  generalize (if 8192 < s.size then LexR.bad 9 8192 else lexA s 0 []) = res at *
  cases res with
  | bad e a =>
    obtain ⟨h1, h2⟩ := hbad e a rfl
    have H1 := Asd.mk h1
    have hne : (e != 0) = true := by simpa using h2
    clear hbad hok h1 h2
    go_enter Try.func41, Try.ntmps41
    go_wp2_with (go_at_call 64; refine HL.out.mono ?_; rintro e w1 ⟨rfl, hb⟩)
    go_ret3
    rw [H1.out]
    exact ⟨rfl, hb⟩
  | ok L =>
    obtain ⟨h1, h2, h3⟩ := hok L rfl
    rw [h1]
    obtain ⟨res, hres⟩ : ∃ r, r = labelsS L := ⟨_, rfl⟩
    rw [← hres]
    have H1 := Asd.mk hres; have H2 := Asd.mk h2; have H3 := Asd.mk h3
    clear hbad hok h1 h2 h3 hres
    go_enter Try.func41, Try.ntmps41
    go_wp2_with fail
    refine HL.out.mono ?_
    rintro e w1 ⟨v, rfl, hown, hb⟩
    obtain ⟨A, c, rfl, -, -, hsl⟩ := hown.sl
    have HR := Asd.mk (read_any A c L _ w1 hsl (fun b hb => by
      rcases hb with hb | hb
      · exact hb.elim
      · exact (hown.lt b hb.symm).2) H2.out (by have := H3.out; omega))
    clear hsl hown
    go_wp2_with fail
    refine HR.out.mono ?_
    rw [← H1.out]
    clear HR HL
    cases res with
    | bad e a =>
      rintro e w2 ⟨rfl, hb2⟩
      go_wp2_with fail
      go_ret3
      exact ⟨rfl, below_call hb hb2⟩
    | ok out =>
      rintro e w2 ⟨v, rfl, ho, hb2⟩
      go_wp2_with fail
      go_ret3
      exact ⟨v, rfl, ho.lower hb.size, below_call hb hb2⟩
end Go.Proofs.Ythfoaehjnoiniaa
