/- aquiferlaw17.awake by its contract: the document's example holds. -/
import Derived.Test.YthfoaehjnoiniaaGraphLetters
import Derived.Test.YthfoaehjnoiniaaTexts
namespace Go.Proofs.Ythfoaehjnoiniaa
open Go.RowKit
def bA : ByteArray := ⟨#[97]⟩
def bB : ByteArray := ⟨#[98]⟩
def lAwake : List GNode := [(bA, [bB]), (bB, [])]
theorem bA_ne : bA ≠ bB := by decide
theorem aw_to : toOf lAwake lAwake bA = [bB] ∧ toOf lAwake lAwake bB = [] := by decide
theorem aw_way (x y : ByteArray) : Way (toOf lAwake lAwake) x y ↔ x = bA ∧ y = bB := by
  have h0 : ∀ x, x ≠ bA → toOf lAwake lAwake x = [] := fun x hx => by
    by_cases e : x = bB
    · rw [e]; exact aw_to.2
    · refine toOf_none _ _ _ ?_
      simp [lAwake, hx, e]
  constructor
  · intro h
    induction h with
    | one hy =>
      by_cases e : x = bA
      · subst e; rw [aw_to.1] at hy; exact ⟨rfl, by simpa using hy⟩
      · rw [h0 x e] at hy; simp at hy
    | more _ hz ih =>
      obtain ⟨rfl, rfl⟩ := ih
      rw [aw_to.2] at hz; simp at hz
  · rintro ⟨rfl, rfl⟩
    exact .one (by rw [aw_to.1]; simp)
theorem aw_circ : circ (Way (toOf lAwake lAwake)) [bA, bB] = [] ∧ free (Way (toOf lAwake lAwake)) [bA, bB] = [bA, bB] := by
  have h1 : ¬ Way (toOf lAwake lAwake) bA bA := fun h => bA_ne ((aw_way _ _).1 h).2
  have h2 : ¬ Way (toOf lAwake lAwake) bB bB := fun h => bA_ne ((aw_way _ _).1 h).1.symm
  constructor
  · simp [circ, h1, h2]
  · simp [free, h1, h2]
theorem aw_srt : srt [bA, bB] = [bA, bB] ∧ srt [] = [] := by
  constructor
  · unfold srt
    rw [List.mergeSort_of_pairwise (by simp [bs, bA, bB]; decide)]
    rfl
  · simp [srt]
theorem aw_circle : circleOf (Way (toOf lAwake lAwake)) [bA, bB] = [] := by
  unfold circleOf
  rw [aw_circ.1]; exact aw_srt.2
theorem aw_order : orderOf (Way (toOf lAwake lAwake)) [bA, bB] = [bB, bA] := by
  unfold orderOf
  rw [aw_circ.1, aw_circ.2, aw_srt.1, aw_srt.2]
  have n1 : ¬ ∀ y, Way (toOf lAwake lAwake) bA y → y ∈ ([] : List ByteArray) := fun h => by have := h bB ((aw_way _ _).2 ⟨rfl, rfl⟩); simp at this
  have y1 : ∀ y, Way (toOf lAwake lAwake) bB y → y ∈ ([] : List ByteArray) := fun y h => absurd ((aw_way _ _).1 h).1.symm bA_ne
  have y2 : ∀ y, Way (toOf lAwake lAwake) bA y → y ∈ [bB] := fun y h => by rw [((aw_way _ _).1 h).2]; simp
  show greedy _ 2 [] [bA, bB] = _
  rw [greedy]
  have f1 : [bA, bB].findIdx? (fun x => @decide (∀ y, Way (toOf lAwake lAwake) x y → y ∈ ([] : List ByteArray)) (Classical.propDecidable _)) = some 1 := by
    rw [List.findIdx?_cons, if_neg (fun h => n1 (@of_decide_eq_true _ (Classical.propDecidable _) h)), List.findIdx?_cons, if_pos (@decide_eq_true _ (Classical.propDecidable _) y1)]
    rfl
  rw [f1]
  show bB :: greedy _ 1 [bB] [bA] = _
  rw [greedy]
  have f2 : [bA].findIdx? (fun x => @decide (∀ y, Way (toOf lAwake lAwake) x y → y ∈ [bB]) (Classical.propDecidable _)) = some 0 := by
    rw [List.findIdx?_cons, if_pos (@decide_eq_true _ (Classical.propDecidable _) y2)]
  rw [f2]
  rfl
set_option maxHeartbeats 1000000 in
set_option maxRecDepth 100000 in
theorem awake17_any (w : World) : Calls Try.prog 13 #[] w fun e w' => e = .returned (.bool true) ∧ Below w.heap.size w w' := by
  go_enter Try.func13, Try.ntmps13
  have hsl : Sl rNode ((w.alloc (.cells #[.string bB] 9)).alloc (.cells #[.string bA, .slice (some ⟨w.heap.size, 0, none⟩) 1 1, .string bB, .slice none 0 0] 27)) (fun b => w.heap.size ≤ b ∧ b < w.heap.size + 2) (some ⟨w.heap.size + 1, 0, none⟩) lAwake := by
    have hb1 := (Blk.new w 9 #[.string bB]).alloc (.cells #[.string bA, .slice (some ⟨w.heap.size, 0, none⟩) 1 1, .string bB, .slice none 0 0] 27)
    have hb2 : Blk _ (w.heap.size + 1) _ _ := two_new w (.cells #[.string bB] 9) #[.string bA, .slice (some ⟨w.heap.size, 0, none⟩) 1 1, .string bB, .slice none 0 0] 27
    intro i x hx
    match i, hx with
    | 0, hx =>
      simp [lAwake] at hx
      subst hx
      refine ⟨⟨w.heap.size + 1, 0, none⟩, [.string bA, .slice (some ⟨w.heap.size, 0, none⟩) 1 1], rfl, by simp, ⟨_, 1, rfl, by simp, fun e => by simp at e, fun k y hy => ?_⟩, fun j u hu => ?_⟩
      · match k, hy with
        | 0, hy =>
          simp at hy
          subst hy
          refine ⟨⟨w.heap.size, 0, none⟩, [.string bB], rfl, by simp, rfl, fun j u hu => ?_⟩
          match j, hu with
          | 0, hu => rw [add_plain', hb1.cell]; simpa using hu
      · rw [add_plain', hb2.cell]
        match j, hu with
        | 0, hu => simpa using hu
        | 1, hu => simpa using hu
    | 1, hx =>
      simp [lAwake] at hx
      subst hx
      refine ⟨⟨w.heap.size + 1, 0, none⟩, [.string bB, .slice none 0 0], rfl, by simp, ⟨none, 0, rfl, by simp, fun e => ⟨rfl, rfl⟩, Sl.nil _⟩, fun j u hu => ?_⟩
      rw [add_plain', hb2.cell]
      match j, hu with
      | 0, hu => simpa [rNode] using hu
      | 1, hu => simpa [rNode] using hu
  have HSL := Asd.mk hsl
  clear hsl
  go_wp2_with (first
    | (go_at_call 10; refine (order_any _ 2 2 lAwake _ _ rfl (by omega) (by simp) HSL.out (by decide) (by decide)).mono ?_; rintro e w1 ⟨vo, vc, rfl, ho, hc, hb⟩; have e1 : lAwake.map (·.1) = [bA, bB] := rfl; rw [e1, aw_order] at ho; rw [e1, aw_circle] at hc; clear e1; obtain ⟨Ao, co, rfl, _, _, hso⟩ := ho.sl; obtain ⟨Ac, cc, rfl, _, _, _⟩ := hc.sl; obtain ⟨ad, rfl, _, h0⟩ := hso.str (i := 0) (by simp); have h0' : w1.cell? ad = some (.string ⟨#[98]⟩) := by (rw [add_zero'] at h0; exact h0))
    | (go_at_call 11; refine (num_any _ _).mono ?_; rintro e w2 ⟨rfl, rfl⟩))
  go_ret
  exact ⟨rfl, (((Below.refl w.heap.size w).alloc (Nat.le_refl _) _).alloc (by simp) _).trans (hb.mono (by simp; omega))⟩
end Go.Proofs.Ythfoaehjnoiniaa
