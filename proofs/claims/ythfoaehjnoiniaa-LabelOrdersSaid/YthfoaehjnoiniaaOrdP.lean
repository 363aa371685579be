/- label: what Make answers hangs on the names and on what follows, in plain words. No condition. -/
import Derived.Test.YthfoaehjnoiniaaLabU
namespace Go.Proofs.Ythfoaehjnoiniaa
open Go.RowKit
/-! ### names: sorted, each once -/
theorem compact_lt {zs : List (List UInt8)} (h : zs.Pairwise (· ≤ ·)) : (Lib.compact zs).Pairwise (· < ·) := by
  unfold Lib.compact Lib.compactUpTo
  rw [List.pairwise_map, List.pairwise_filter]
  have hr : (List.range zs.length).Pairwise fun i j => i < j ∧ j < zs.length := by
    refine List.Pairwise.imp_of_mem ?_ List.pairwise_lt_range
    intro i j _ hj hij
    exact ⟨hij, List.mem_range.1 hj⟩
  refine hr.imp ?_
  rintro i j ⟨hij, hj⟩ - hk
  have e : ∀ k, k < zs.length → zs.toArray[k]! = zs[k]! := fun k hk => by simp
  have hg := List.pairwise_iff_getElem.1 h
  have hne : zs.toArray[j]! ≠ zs.toArray[j - 1]! := by
    unfold Lib.keeps at hk
    simpa [show j ≠ 0 by omega] using hk
  have e1 : zs.toArray[i]! = zs[i] := by simp [show i < zs.length by omega]
  have e2 : zs.toArray[j]! = zs[j] := by simp [hj]
  have e3 : zs.toArray[j - 1]! = zs[j - 1] := by simp [show j - 1 < zs.length by omega]
  rw [e1, e2]
  rw [e2, e3] at hne
  have h1 : zs[j - 1] ≤ zs[j] := hg (j - 1) j (by omega) hj (by omega)
  have h2 : zs[i] ≤ zs[j - 1] := by
    by_cases hc : i = j - 1
    · subst hc; exact List.le_refl _
    · exact hg i (j - 1) (by omega) (by omega) (by omega)
  have h3 : zs[j - 1] < zs[j] := by
    by_cases h : zs[j - 1] < zs[j]
    · exact h
    · exact absurd (List.le_antisymm (List.not_lt.1 h) h1) hne
  exact List.lt_of_le_of_lt h2 h3
theorem sort_le (xs : List ByteArray) : ((xs.map bs).mergeSort fun x y => decide (x ≤ y)).Pairwise (· ≤ ·) :=
  (List.pairwise_mergeSort (le := fun x y => decide (x ≤ y)) (fun a b c h1 h2 => by simp only [decide_eq_true_eq] at *; exact List.le_trans h1 h2) (fun a b => by simpa using List.le_total a b) (xs.map bs)).imp (fun h => by simpa using h)
theorem bs_inj {x y : ByteArray} (h : bs x = bs y) : x = y := by rw [← sb_bs x, ← sb_bs y, h]
theorem map_bs_srt (xs : List ByteArray) : (srt xs).map bs = (xs.map bs).mergeSort fun x y => decide (x ≤ y) := by
  unfold srt; rw [List.map_map]; conv => rhs; rw [← List.map_id ((xs.map bs).mergeSort fun x y => decide (x ≤ y))]
  exact List.map_congr_left fun x _ => bs_sb x
theorem nmS_bs (l : List Prm) : ((nmS l).map bs).Pairwise (· < ·) := by
  unfold nmS cmp
  rw [List.map_map, map_bs_srt]
  have h := compact_lt (sort_le (nmAll l))
  rw [show List.map (bs ∘ sb) = List.map id from congrArg List.map (funext fun x => bs_sb x), List.map_id]
  exact h
/-- Sorted lists of the same members are one. -/
theorem names_eq {xs ys : List ByteArray} (h1 : (xs.map bs).Pairwise (· < ·)) (h2 : (ys.map bs).Pairwise (· < ·)) (h : ∀ x, x ∈ xs ↔ x ∈ ys) : xs = ys := by
  have nd : ∀ {zs : List (List UInt8)}, zs.Pairwise (· < ·) → zs.Nodup := fun hz => hz.imp fun hab e => by subst e; exact List.lt_irrefl _ hab
  have hm : ∀ z, z ∈ xs.map bs ↔ z ∈ ys.map bs := fun z => by
    constructor <;> intro hz <;> obtain ⟨x, hx, rfl⟩ := List.mem_map.1 hz
    · exact List.mem_map_of_mem ((h x).1 hx)
    · exact List.mem_map_of_mem ((h x).2 hx)
  have hp : (xs.map bs).Perm (ys.map bs) := (List.perm_ext_iff_of_nodup (nd h1) (nd h2)).2 hm
  have he : xs.map bs = ys.map bs := List.Perm.eq_of_pairwise (le := fun a b => a ≤ b) (fun a b _ _ h1 h2 => List.le_antisymm h1 h2) (h1.imp fun h => List.le_of_lt h) (h2.imp fun h => List.le_of_lt h) hp
  have := congrArg (List.map sb) he
  rwa [List.map_map, List.map_map, show List.map (sb ∘ bs) = List.map id from congrArg List.map (funext fun x => sb_bs x), List.map_id, List.map_id] at this
theorem nmS_eq {l m : List Prm} (h : ∀ x, x ∈ nmAll l ↔ x ∈ nmAll m) : nmS l = nmS m :=
  names_eq (nmS_bs l) (nmS_bs m) fun x => by rw [mem_nmS, mem_nmS]; exact h x
/-! ### Warshall's table is the least that is closed -/
theorem wstep_mono (k : Nat) (M : Tab) {a b : Nat} (h : M a b = true) : wstep k M a b = true := by unfold wstep; rw [h]; rfl
theorem wstep_mid {k : Nat} {M : Tab} {a b : Nat} (h1 : M a k = true) (h2 : M k b = true) : wstep k M a b = true := by unfold wstep; rw [h1, h2]; simp
theorem wstep_inv {k : Nat} {M : Tab} {a b : Nat} (h : wstep k M a b = true) : M a b = true ∨ (M a k = true ∧ M k b = true) := by unfold wstep at h; simpa using h
theorem warshK_le (k : Nat) (M : Tab) {a b : Nat} (h : M a b = true) : warshK k M a b = true := by
  induction k with
  | zero => exact h
  | succ k ih => rw [warshK_succ]; exact wstep_mono _ _ ih
theorem warshK_trans (M : Tab) : ∀ (k i a b : Nat), i < k → warshK k M a i = true → warshK k M i b = true → warshK k M a b = true := by
  intro k
  induction k with
  | zero => intro i a b hi; omega
  | succ k ih =>
    intro i a b hi h1 h2
    rw [warshK_succ] at h1 h2 ⊢
    by_cases hik : i = k
    · subst hik
      rw [wstep_col] at h1
      rw [wstep_row] at h2
      exact wstep_mid h1 h2
    · have hlt : i < k := by omega
      rcases wstep_inv h1 with h1 | ⟨h1, h1'⟩ <;> rcases wstep_inv h2 with h2 | ⟨h2, h2'⟩
      · exact wstep_mono _ _ (ih i a b hlt h1 h2)
      · exact wstep_mid (ih i a k hlt h1 h2) h2'
      · exact wstep_mid h1 (ih i k b hlt h1' h2)
      · exact wstep_mid h1 h2'
theorem warshK_least {M T : Tab} {n : Nat} (hM : ∀ a b, M a b = true → T a b = true) (hT : ∀ i a b, i < n → T a i = true → T i b = true → T a b = true) : ∀ k, k ≤ n → ∀ a b, warshK k M a b = true → T a b = true := by
  intro k
  induction k with
  | zero => intro _ a b h; exact hM a b h
  | succ k ih =>
    intro hk a b h
    rw [warshK_succ] at h
    rcases wstep_inv h with h | ⟨h1, h2⟩
    · exact ih (by omega) a b h
    · exact hT k a b (by omega) (ih (by omega) a k h1) (ih (by omega) k b h2)
theorem warsh_le (n : Nat) (M : Tab) {a b : Nat} (h : M a b = true) : warsh n M a b = true := warshK_le n M h
theorem warsh_trans (n : Nat) (M : Tab) {i a b : Nat} (hi : i < n) (h1 : warsh n M a i = true) (h2 : warsh n M i b = true) : warsh n M a b = true := warshK_trans M n i a b hi h1 h2
theorem warsh_eq {n : Nat} {A B : Tab} (h1 : ∀ a b, A a b = true → warsh n B a b = true) (h2 : ∀ a b, B a b = true → warsh n A a b = true) : warsh n A = warsh n B := by
  funext a b
  have i1 : warsh n A a b = true → warsh n B a b = true := warshK_least h1 (fun i a b hi => warsh_trans n B hi) n (Nat.le_refl _) a b
  have i2 : warsh n B a b = true → warsh n A a b = true := warshK_least h2 (fun i a b hi => warsh_trans n A hi) n (Nat.le_refl _) a b
  cases hA : warsh n A a b <;> cases hB : warsh n B a b
  · rfl
  · rw [i2 hB] at hA; cases hA
  · rw [i1 hA] at hB; cases hB
  · rfl
/-! ### turned, twice, and what follows -/
def pz : Prm := (ByteArray.empty, ByteArray.empty, 0)
def revDup (l : List Prm) : List Prm := l.reverse.flatMap fun p => [p, p]
def folOne (l : List Prm) (i b : Nat) : List Prm := if (l.getD i pz).2.1 = (l.getD b pz).1 then [((l.getD i pz).1, (l.getD b pz).2.1, 0)] else []
def folI (l : List Prm) (i k : Nat) : List Prm := (List.range k).flatMap fun b => folOne l i b
def folA (l : List Prm) (i : Nat) : List Prm := (List.range i).flatMap fun a => folI l a l.length
def ordM (l : List Prm) : List Prm := revDup l ++ folA l l.length
theorem folI_succ (l : List Prm) (i k : Nat) : folI l i (k + 1) = folI l i k ++ folOne l i k := by unfold folI; rw [List.range_succ, List.flatMap_append]; simp
theorem folA_succ (l : List Prm) (i : Nat) : folA l (i + 1) = folA l i ++ folI l i l.length := by unfold folA; rw [List.range_succ, List.flatMap_append]; simp
theorem folI_zero (l : List Prm) (i : Nat) : folI l i 0 = [] := rfl
theorem folA_zero (l : List Prm) : folA l 0 = [] := rfl
theorem folI_len (l : List Prm) (i k : Nat) : (folI l i k).length ≤ k := by
  induction k with
  | zero => exact Nat.le_refl _
  | succ k ih =>
    rw [folI_succ, List.length_append]
    have : (folOne l i k).length ≤ 1 := by unfold folOne; split <;> simp
    omega
theorem folA_len (l : List Prm) (i : Nat) : (folA l i).length ≤ i * l.length := by
  induction i with
  | zero => simp [folA_zero]
  | succ i ih =>
    rw [folA_succ, List.length_append, Nat.succ_mul]
    have := folI_len l i l.length
    omega
theorem revDup_step (l : List Prm) {i : Nat} {p : Prm} (h : l[i]? = some p) : revDup (l.drop i) = revDup (l.drop (i + 1)) ++ [p, p] := by
  have hi : i < l.length := by
    rcases Nat.lt_or_ge i l.length with h1 | h1
    · exact h1
    · rw [List.getElem?_eq_none h1] at h; cases h
  have he : l[i] = p := by rw [List.getElem?_eq_getElem hi] at h; exact Option.some.inj h
  unfold revDup
  rw [List.drop_eq_getElem_cons hi, List.reverse_cons, List.flatMap_append, he]
  simp
theorem mem_ordM {l : List Prm} {p : Prm} (h : p ∈ ordM l) : p ∈ l ∨ ∃ q r, q ∈ l ∧ r ∈ l ∧ q.2.1 = r.1 ∧ p = (q.1, r.2.1, 0) := by
  unfold ordM at h
  rcases List.mem_append.1 h with h | h
  · refine Or.inl ?_
    unfold revDup at h
    obtain ⟨x, hx, hp⟩ := List.mem_flatMap.1 h
    have : p = x := by simpa using hp
    rw [this]; exact List.mem_reverse.1 hx
  · refine Or.inr ?_
    unfold folA folI at h
    obtain ⟨i, hi, h⟩ := List.mem_flatMap.1 h
    obtain ⟨k, hk, h⟩ := List.mem_flatMap.1 h
    unfold folOne at h
    have hi := List.mem_range.1 hi
    have hk := List.mem_range.1 hk
    have gi : l.getD i pz = l[i] := by rw [List.getD_eq_getElem?_getD, List.getElem?_eq_getElem hi]; rfl
    have gk : l.getD k pz = l[k] := by rw [List.getD_eq_getElem?_getD, List.getElem?_eq_getElem hk]; rfl
    rw [gi, gk] at h
    split at h
    · rename_i he
      exact ⟨l[i], l[k], List.getElem_mem _, List.getElem_mem _, he, by simpa using h⟩
    · cases h
theorem sub_ordM {l : List Prm} {p : Prm} (h : p ∈ l) : p ∈ ordM l :=
  List.mem_append.2 (Or.inl (List.mem_flatMap.2 ⟨p, List.mem_reverse.2 h, by simp⟩))
theorem makeS_ordM {l : List Prm} (hl : ∀ p, p ∈ l → p.1.size ≠ 0 ∧ p.2.1.size ≠ 0) : makeS (ordM l) = makeS l := by
  have hn : nmS (ordM l) = nmS l := by
    refine nmS_eq fun x => ?_
    unfold nmAll
    constructor
    · intro hx
      obtain ⟨p, hp, hx⟩ := List.mem_flatMap.1 hx
      rcases mem_ordM hp with hp | ⟨q, r, hq, hr, he, rfl⟩
      · exact List.mem_flatMap.2 ⟨p, hp, hx⟩
      · unfold nmOf at hx
        rw [if_neg (hl r hr).2] at hx
        rcases List.mem_cons.1 hx with rfl | hx
        · exact List.mem_flatMap.2 ⟨q, hq, by unfold nmOf; split <;> simp⟩
        · have : x = r.2.1 := by simpa using hx
          subst this
          exact List.mem_flatMap.2 ⟨r, hr, by unfold nmOf; rw [if_neg (hl r hr).2]; simp⟩
    · intro hx
      obtain ⟨p, hp, hx⟩ := List.mem_flatMap.1 hx
      exact List.mem_flatMap.2 ⟨p, sub_ordM hp, hx⟩
  have hw : warsh (nmS l).length (M0 (nmS l) (ordM l)) = warsh (nmS l).length (M0 (nmS l) l) := by
    refine warsh_eq (fun a b h => ?_) (fun a b h => ?_)
    · unfold M0 at h
      rcases (Bool.or_eq_true _ _).mp h with h | h
      · exact warsh_le _ _ (by unfold M0; rw [h]; rfl)
      · obtain ⟨p, hp, hs⟩ := List.any_eq_true.1 h
        have m0 : ∀ {q : Prm} {x y : Nat}, q ∈ l → setBy (nmS l) q x y = true → M0 (nmS l) l x y = true := fun {q x y} hq hs => by
          unfold M0; rw [List.any_eq_true.2 ⟨q, hq, hs⟩]; simp
        rcases mem_ordM hp with hp | ⟨q, r, hq, hr, he, rfl⟩
        · exact warsh_le _ _ (m0 hp hs)
        · obtain ⟨y, hy, hyn⟩ := idx_mem ((nmS_of hq).2 (hl q hq).2)
          unfold setBy at hs
          simp only [Bool.and_eq_true, decide_eq_true_eq] at hs
          obtain ⟨⟨_, h1⟩, h2⟩ := hs
          refine warsh_trans _ _ hyn (warsh_le _ _ (m0 hq ?_)) (warsh_le _ _ (m0 hr ?_))
          · unfold setBy; simp [(hl q hq).2, h1, hy]
          · unfold setBy; rw [← he]; simp [(hl r hr).2, hy, h2]
    · refine warsh_le _ _ ?_
      unfold M0 at h ⊢
      rcases (Bool.or_eq_true _ _).mp h with h | h
      · rw [h]; rfl
      · obtain ⟨p, hp, hs⟩ := List.any_eq_true.1 h
        rw [List.any_eq_true.2 ⟨p, sub_ordM hp, hs⟩]; simp
  unfold makeS
  rw [hn, hw]
end Go.Proofs.Ythfoaehjnoiniaa
