/- The plain law of graph.Order: it lists all, each behind those that it leads to. No condition. -/
import Derived.Test.YthfoaehjnoiniaaGraphPure
namespace Go.Proofs.Ythfoaehjnoiniaa
theorem exists_min {W : ByteArray → ByteArray → Prop} (ht : ∀ x y z, W x y → W y z → W x z) : ∀ r : List ByteArray, r ≠ [] → (∀ x, x ∈ r → ¬ W x x) → ∃ x, x ∈ r ∧ ∀ y, y ∈ r → ¬ W x y
  | [], h, _ => (h rfl).elim
  | [a], _, hi => ⟨a, List.mem_singleton.2 rfl, fun y hy => by rw [List.mem_singleton.1 hy]; exact hi a (List.mem_singleton.2 rfl)⟩
  | a :: b :: r, _, hi => by
    obtain ⟨x, hx, hm⟩ := exists_min ht (b :: r) (List.cons_ne_nil _ _) (fun x hx => hi x (List.mem_cons_of_mem _ hx))
    by_cases hw : W x a
    · refine ⟨a, List.mem_cons_self, fun y hy h => ?_⟩
      rcases List.mem_cons.1 hy with rfl | hy
      · exact hi _ List.mem_cons_self h
      · exact hm y hy (ht _ _ _ hw h)
    · refine ⟨x, List.mem_cons_of_mem _ hx, fun y hy => ?_⟩
      rcases List.mem_cons.1 hy with rfl | hy
      · exact hw
      · exact hm y hy
theorem greedy_all {W : ByteArray → ByteArray → Prop} (ht : ∀ x y z, W x y → W y z → W x z) : ∀ (n : Nat) (done rest : List ByteArray), rest.length = n → rest.Nodup → (∀ x, x ∈ rest → ¬ W x x) → (∀ x, x ∈ rest → x ∉ done) → (∀ x, x ∈ rest → ∀ y, W x y → y ∈ done ∨ y ∈ rest) →
    (greedy W n done rest).Perm rest ∧ (greedy W n done rest).Pairwise (fun a b => ¬ W a b)
  | 0, done, rest, hn, _, _, _, _ => by
    obtain rfl := List.length_eq_zero_iff.1 hn
    exact ⟨List.Perm.refl _, List.Pairwise.nil⟩
  | n + 1, done, rest, hn, hnd, hi, hd, hw => by
    have hne : rest ≠ [] := by rintro rfl; simp at hn
    obtain ⟨x, hx, hm⟩ := exists_min ht rest hne hi
    have hrd : ∀ y, W x y → y ∈ done := fun y hy => (hw x hx y hy).resolve_right (fun h => hm y h hy)
    unfold greedy
    split
    · rename_i h
      rw [List.findIdx?_eq_none_iff] at h
      have := h x hx
      simp at this
      obtain ⟨y, h1, h2⟩ := this
      exact (h2 (hrd y h1)).elim
    · rename_i i h
      obtain ⟨hil, hpi, _⟩ := List.findIdx?_eq_some_iff_getElem.1 h
      have hg : rest.getD i ByteArray.empty = rest[i] := by rw [List.getD_eq_getElem?_getD, List.getElem?_eq_getElem hil]; rfl
      rw [hg]
      have hz : ∀ y, W rest[i] y → y ∈ done := by simpa using hpi
      have hp : rest.Perm (rest[i] :: rest.eraseIdx i) := by
        rw [List.eraseIdx_eq_take_drop_succ]
        conv => lhs; rw [← List.take_append_drop i rest, List.drop_eq_getElem_cons hil]
        exact List.perm_middle
      have hsub : ∀ y, y ∈ rest.eraseIdx i → y ∈ rest := fun y hy => List.mem_of_mem_eraseIdx hy
      have hnd' := hp.nodup_iff.1 hnd
      obtain ⟨hn1, hn2⟩ := List.nodup_cons.1 hnd'
      obtain ⟨ih1, ih2⟩ := greedy_all ht n (rest[i] :: done) (rest.eraseIdx i) (by rw [List.length_eraseIdx_of_lt hil]; omega) hn2 (fun y hy => hi y (hsub y hy))
        (fun y hy h => by
          rcases List.mem_cons.1 h with rfl | h
          · exact hn1 hy
          · exact hd y (hsub y hy) h)
        (fun y hy z hz' => by
          rcases hw y (hsub y hy) z hz' with h | h
          · exact .inl (List.mem_cons_of_mem _ h)
          · rcases List.mem_cons.1 (hp.mem_iff.1 h) with rfl | h
            · exact .inl List.mem_cons_self
            · exact .inr h)
      refine ⟨(List.Perm.cons _ ih1).trans hp.symm, List.pairwise_cons.2 ⟨fun b hb h => ?_, ih2⟩⟩
      exact hd b (hsub b (ih1.mem_iff.1 hb)) (hz b h)
/-- What the law asks. -/
theorem order_sound {W : ByteArray → ByteArray → Prop} (ht : ∀ x y z, W x y → W y z → W x z) (ks : List ByteArray) (hnd : ks.Nodup) (hw : ∀ x y, W x y → y ∈ ks) :
    (orderOf W ks).length + (circleOf W ks).length = ks.length ∧ (∀ x, x ∈ ks → ((x ∈ orderOf W ks) ↔ ¬ W x x) ∧ ((x ∈ circleOf W ks) ↔ W x x)) ∧
      ∀ (i k : Nat) a b, i ≤ k → (orderOf W ks)[i]? = some a → (orderOf W ks)[k]? = some b → ¬ W a b := by
  have hc : ∀ x, x ∈ circleOf W ks ↔ x ∈ ks ∧ W x x := fun x => by
    unfold circleOf circ
    rw [(srt_perm _).mem_iff, List.mem_filter]
    simp
  have hf : ∀ x, x ∈ srt (free W ks) ↔ x ∈ ks ∧ ¬ W x x := fun x => by
    unfold free
    rw [(srt_perm _).mem_iff, List.mem_filter]
    simp
  have hg := greedy_all ht (free W ks).length (srt (circ W ks)) (srt (free W ks)) (srt_length _) ((srt_perm _).nodup_iff.2 (hnd.filter _)) (fun x hx => ((hf x).1 hx).2) (fun x hx h => ((hf x).1 hx).2 ((hc x).1 h).2)
    (fun x _ y hxy => by
      by_cases hy : W y y
      · exact .inl ((hc y).2 ⟨hw _ _ hxy, hy⟩)
      · exact .inr ((hf y).2 ⟨hw _ _ hxy, hy⟩))
  change (orderOf W ks).Perm _ ∧ (orderOf W ks).Pairwise _ at hg
  obtain ⟨hp, hs⟩ := hg
  have ho : ∀ x, x ∈ orderOf W ks ↔ x ∈ ks ∧ ¬ W x x := fun x => by rw [hp.mem_iff]; exact hf x
  refine ⟨?_, fun x hx => ⟨by rw [ho]; simp [hx], by rw [hc]; simp [hx]⟩, fun i k a b hik ha hb => ?_⟩
  · rw [hp.length_eq]
    unfold circleOf
    rw [srt_length, srt_length]
    unfold circ free
    clear hnd hw hc hf hp hs ho ht
    induction ks with
    | nil => rfl
    | cons a ks ih =>
      by_cases h : W a a
      · simp only [List.filter_cons, h, decide_true, Bool.not_true, if_true, Bool.false_eq_true, if_false, List.length_cons]
        omega
      · simp only [List.filter_cons, h, decide_false, Bool.not_false, if_true, Bool.false_eq_true, if_false, List.length_cons]
        omega
  · obtain ⟨h1, rfl⟩ := List.getElem?_eq_some_iff.1 ha
    obtain ⟨h2, rfl⟩ := List.getElem?_eq_some_iff.1 hb
    rcases Nat.lt_or_eq_of_le hik with h | rfl
    · exact List.pairwise_iff_getElem.1 hs i k h1 h2 h
    · exact ((ho _).1 (List.getElem_mem h1)).2
end Go.Proofs.Ythfoaehjnoiniaa
