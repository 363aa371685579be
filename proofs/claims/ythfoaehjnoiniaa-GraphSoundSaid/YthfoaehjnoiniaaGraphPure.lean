/- graph: what the order and the circles hang on: the names, whatever their order, and who leads to whom. No Go in it. -/
import Derived.Test.YthfoaehjnoiniaaGraphL
namespace Go.Proofs.Ythfoaehjnoiniaa
theorem srt_eq {xs ys : List ByteArray} (h : xs.Perm ys) : srt xs = srt ys := by
  unfold srt
  congr 1
  have h1 : (xs.map bs).Perm (ys.map bs) := h.map bs
  refine List.Perm.eq_of_pairwise (le := fun a b => a ≤ b) (fun a b _ _ h1 h2 => List.le_antisymm h1 h2) ?_ ?_ (((List.mergeSort_perm _ _).trans h1).trans (List.mergeSort_perm _ _).symm)
  · exact (List.pairwise_mergeSort (le := fun x y => decide (x ≤ y)) (fun a b c h1 h2 => by simp only [decide_eq_true_eq] at *; exact List.le_trans h1 h2) (fun a b => by simpa using List.le_total a b) (xs.map bs)).imp (fun h => by simpa using h)
  · exact (List.pairwise_mergeSort (le := fun x y => decide (x ≤ y)) (fun a b c h1 h2 => by simp only [decide_eq_true_eq] at *; exact List.le_trans h1 h2) (fun a b => by simpa using List.le_total a b) (ys.map bs)).imp (fun h => by simpa using h)
theorem greedy_len (W : ByteArray → ByteArray → Prop) : ∀ (n : Nat) (done rest : List ByteArray), (greedy W n done rest).length ≤ n
  | 0, _, _ => by simp [greedy]
  | n + 1, done, rest => by
    rw [greedy]
    split
    · simp
    · simp only [List.length_cons]
      exact Nat.succ_le_succ (greedy_len W n _ _)
theorem order_len (W : ByteArray → ByteArray → Prop) (ks : List ByteArray) : (orderOf W ks).length ≤ ks.length ∧ (circleOf W ks).length ≤ ks.length :=
  ⟨Nat.le_trans (greedy_len W _ _ _) (free_len W ks), by unfold circleOf; rw [srt_length]; exact circ_len W ks⟩
theorem way_congr {f f' : ByteArray → List ByteArray} (h : ∀ x y, y ∈ f x ↔ y ∈ f' x) : Way f = Way f' := by
  funext x y
  apply propext
  constructor
  · intro hw
    induction hw with
    | one hy => exact .one ((h _ _).1 hy)
    | more _ hz ih => exact .more ih ((h _ _).1 hz)
  · intro hw
    induction hw with
    | one hy => exact .one ((h _ _).2 hy)
    | more _ hz ih => exact .more ih ((h _ _).2 hz)
theorem order_perm {W : ByteArray → ByteArray → Prop} {ks ks' : List ByteArray} (h : ks.Perm ks') : orderOf W ks = orderOf W ks' ∧ circleOf W ks = circleOf W ks' := by
  have h1 : (circ W ks).Perm (circ W ks') := h.filter _
  have h2 : (free W ks).Perm (free W ks') := h.filter _
  unfold orderOf circleOf
  rw [srt_eq h1, srt_eq h2, h2.length_eq]
  exact ⟨rfl, rfl⟩
def zz : ByteArray := ⟨#[122, 122]⟩
def dup (l : List ByteArray) : List ByteArray := l.flatMap fun t => [t, t]
/-- The nodes turned round. -/
def mTurn (p : GNode) : GNode := (p.1, zz :: dup p.2.reverse)
def mT (l : List GNode) : List GNode := l.reverse.map mTurn
theorem mT_names (l : List GNode) : (mT l).map (·.1) = (l.map (·.1)).reverse := by
  unfold mT
  rw [List.map_map, ← List.map_reverse]
  rfl
theorem mem_toOf {l L : List GNode} {x y : ByteArray} : y ∈ toOf l L x ↔ y ∈ L.map (·.1) ∧ ∃ p, p ∈ l ∧ p.1 = x ∧ y ∈ p.2 := by
  unfold toOf
  simp only [List.mem_flatMap, List.mem_filter, decide_eq_true_eq, nmem_iff]
  constructor
  · rintro ⟨p, ⟨h1, h2⟩, h3, h4⟩; exact ⟨h4, p, h1, h2, h3⟩
  · rintro ⟨h4, p, h1, h2, h3⟩; exact ⟨p, ⟨h1, h2⟩, h3, h4⟩
theorem mT_way (l : List GNode) (hz : zz ∉ l.map (·.1)) : Way (toOf (mT l) (mT l)) = Way (toOf l l) := by
  refine way_congr fun x y => ?_
  rw [mem_toOf, mem_toOf, mT_names, List.mem_reverse]
  refine and_congr_right fun hy => ?_
  unfold mT mTurn dup
  constructor
  · rintro ⟨p, hp, rfl, hp2⟩
    obtain ⟨q, hq, rfl⟩ := List.mem_map.1 hp
    refine ⟨q, List.mem_reverse.1 hq, rfl, ?_⟩
    simp only [List.mem_cons, List.mem_flatMap, List.mem_reverse, List.not_mem_nil, or_false, or_self] at hp2
    rcases hp2 with rfl | ⟨t, ht, rfl⟩
    · exact absurd hy hz
    · exact ht
  · rintro ⟨q, hq, rfl, hq2⟩
    refine ⟨_, List.mem_map_of_mem (List.mem_reverse.2 hq), rfl, ?_⟩
    simp only [List.mem_cons, List.mem_flatMap, List.mem_reverse, List.not_mem_nil, or_false, or_self]
    exact .inr ⟨y, hq2, rfl⟩
theorem mT_same (l : List GNode) (hz : zz ∉ l.map (·.1)) : orderOf (Way (toOf (mT l) (mT l))) ((mT l).map (·.1)) = orderOf (Way (toOf l l)) (l.map (·.1)) ∧ circleOf (Way (toOf (mT l) (mT l))) ((mT l).map (·.1)) = circleOf (Way (toOf l l)) (l.map (·.1)) := by
  rw [mT_way l hz]
  exact order_perm (by rw [mT_names]; exact List.reverse_perm _)
theorem mT_edges (l : List GNode) : edges (mT l) ≤ l.length + 2 * edges l := by
  have hd : ∀ l : List ByteArray, (dup l).length = 2 * l.length := fun l => by
    induction l with
    | nil => rfl
    | cons a l ih =>
      have : dup (a :: l) = a :: a :: dup l := rfl
      rw [this]; simp [ih]; omega
  have h1 : ∀ l : List GNode, edges (l.map mTurn) = l.length + 2 * edges l := fun l => by
    induction l with
    | nil => rfl
    | cons p l ih =>
      have e1 : edges (p :: l) = p.2.length + edges l := by simp [edges]
      have e2 : edges ((p :: l).map mTurn) = (zz :: dup p.2.reverse).length + edges (l.map mTurn) := by simp [edges, mTurn]
      rw [e1, e2, ih, List.length_cons, hd]; simp; omega
  have h2 : edges l.reverse = edges l := by unfold edges; rw [List.map_reverse, List.sum_reverse]
  unfold mT
  rw [h1, h2]; simp
theorem mT_snoc (l : List GNode) {r : Nat} {p : GNode} (h : l[r]? = some p) : mT (l.drop r) = mT (l.drop (r + 1)) ++ [mTurn p] := by
  obtain ⟨hr, rfl⟩ := List.getElem?_eq_some_iff.1 h
  unfold mT
  rw [List.drop_eq_getElem_cons hr, List.reverse_cons, List.map_append]
  rfl
theorem dup_snoc (l : List ByteArray) {s : Nat} {t : ByteArray} (h : l[s]? = some t) : dup (l.drop s).reverse = dup (l.drop (s + 1)).reverse ++ [t, t] := by
  obtain ⟨hr, rfl⟩ := List.getElem?_eq_some_iff.1 h
  unfold dup
  rw [List.drop_eq_getElem_cons hr, List.reverse_cons, List.flatMap_append]
  rfl
theorem ltr_inj {i j : Nat} (hi : i < 8) (hj : j < 8) (h : ltr (i : Int) = ltr (j : Int)) : i = j := by
  unfold ltr strOfNums at h
  rw [ByteArray.ext_iff] at h
  simp at h
  have h1 := congrArg UInt8.toNat h
  simp at h1
  omega
theorem letters_names (k : Nat) (hk : k ≤ 8) (ns : List Int) (j : Nat) : ((lFill k ns j).map (·.1)).Nodup ∧ zz ∉ (lFill k ns j).map (·.1) := by
  rw [lFill_names]
  constructor
  · show List.Pairwise _ _
    rw [List.pairwise_map]
    exact List.Pairwise.imp_of_mem (fun hi hj hne h => hne (ltr_inj (by have := List.mem_range.1 hi; omega) (by have := List.mem_range.1 hj; omega) h)) (List.nodup_range (n := k))
  · intro h
    obtain ⟨i, _, h⟩ := List.mem_map.1 h
    unfold ltr strOfNums zz at h
    rw [ByteArray.ext_iff] at h
    have := congrArg Array.size h
    simp at this
end Go.Proofs.Ythfoaehjnoiniaa
