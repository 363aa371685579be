/- Letters: nodes by numbers, as a list; and the row of nodes while its To fields grow in place. No condition. -/
import Derived.Test.YthfoaehjnoiniaaGraphOrder
namespace Go.Proofs.Ythfoaehjnoiniaa
open Go.RowKit
def ltr (i : Int) : ByteArray := strOfNums [97 + i]
def lStart (k : Nat) : List GNode := (List.range k).map fun (i : Nat) => (ltr (i : Int), [])
def lStep (k : Nat) (ns : List Int) (l : List GNode) (i : Nat) : List GNode := l.modify (ns.getD i 0 % k).toNat fun p => (p.1, p.2 ++ [ltr (ns.getD (i + 1) 0 % k)])
def lFill (k : Nat) (ns : List Int) : Nat → List GNode
  | 0 => lStart k
  | j + 1 => lStep k ns (lFill k ns j) (j * 2)
theorem lFill_len (k : Nat) (ns : List Int) (j : Nat) : (lFill k ns j).length = k := by
  induction j with
  | zero => simp [lFill, lStart]
  | succ j ih => simp [lFill, lStep, ih]
theorem lStart_snoc (k : Nat) : lStart (k + 1) = lStart k ++ [(ltr k, [])] := by simp [lStart, List.range_succ]
theorem lFill_names (k : Nat) (ns : List Int) (j : Nat) : (lFill k ns j).map (·.1) = (List.range k).map fun (i : Nat) => ltr (i : Int) := by
  induction j with
  | zero => simp [lFill, lStart]
  | succ j ih =>
    rw [← ih]
    show (lStep k ns (lFill k ns j) (j * 2)).map (·.1) = _
    unfold lStep
    apply List.ext_getElem?
    intro i
    rw [List.getElem?_map, List.getElem?_map, List.getElem?_modify]
    cases (lFill k ns j)[i]? with
    | none => rfl
    | some p => simp only [Option.map_eq_map, Option.map_some]; split <;> rfl
theorem modify_edges (l : List GNode) (i : Nat) (t : ByteArray) : edges (l.modify i fun p => (p.1, p.2 ++ [t])) ≤ edges l + 1 := by
  induction l generalizing i with
  | nil => simp [edges]
  | cons p l ih =>
    cases i with
    | zero => simp [edges]; omega
    | succ i => have := ih i; simp [edges] at this ⊢; omega
theorem lFill_edges (k : Nat) (ns : List Int) (j : Nat) : edges (lFill k ns j) ≤ j := by
  induction j with
  | zero =>
    have : edges (lStart k) = 0 := by
      unfold edges lStart
      rw [List.map_map]
      induction List.range k with
      | nil => rfl
      | cons a l ih => simp at ih ⊢; exact ih
    simp [lFill, this]
  | succ j ih =>
    have := modify_edges (lFill k ns j) (ns.getD (j * 2) 0 % k).toNat (ltr (ns.getD (j * 2 + 1) 0 % k))
    show edges (lStep k ns (lFill k ns j) (j * 2)) ≤ j + 1
    unfold lStep
    omega

/-- A row of nodes whose To fields are rows of the call's own. -/
def NRow (w : World) (base g cap : Nat) (l : List GNode) : Prop :=
  ∃ cur : Array Value, w.heap[g]? = some (.cells cur 27 (0, 0)) ∧ cur.size = cap * 2 ∧ l.length ≤ cap ∧ base ≤ g ∧
    (∀ i p, l[i]? = some p → cur[i * 2]? = some (.string p.1) ∧ ∃ v, cur[i * 2 + 1]? = some v ∧ Own rStr w NoB base 9 v p.2.length p.2 ∧ (p.2 = [] → v = .slice none 0 0)) ∧
    ∀ i j u v, i ≠ j → i < l.length → j < l.length → cur[i * 2 + 1]? = some u → cur[j * 2 + 1]? = some v → u.ownBlock = none ∨ u.ownBlock ≠ v.ownBlock
section
variable {w w' : World} {base g cap : Nat} {l : List GNode}
theorem NRow.lt (h : NRow w base g cap l) : g < w.heap.size := by
  obtain ⟨cur, h1, _⟩ := h
  exact (Array.getElem?_eq_some_iff.1 h1).1
theorem NRow.call (h : NRow w base g cap l) (hb : Below w.heap.size w w') : NRow w' base g cap l := by
  have hlt := h.lt
  obtain ⟨cur, h1, h2, h3, h4, h5, h6⟩ := h
  exact ⟨cur, (hb.block g hlt).trans h1, h2, h3, h4, fun i p hp => by
    obtain ⟨a, v, b, c, d⟩ := h5 i p hp
    exact ⟨a, v, b, c.call hb, d⟩, h6⟩
theorem NRow.sl (h : NRow w base g cap l) : Sl rNode w (fun b => base ≤ b ∧ b < w.heap.size) (some ⟨g, 0, none⟩) l := fun i p hp => by
  have hlt := h.lt
  obtain ⟨cur, h1, h2, h3, h4, h5, h6⟩ := h
  obtain ⟨a, v, b, c, d⟩ := h5 i p hp
  obtain ⟨A, cc, rfl, hc, hm, hs⟩ := c.sl
  refine ⟨⟨g, 0, none⟩, [.string p.1, .slice A p.2.length cc], rfl, ⟨h4, hlt⟩, ⟨A, cc, rfl, hc, fun e => ?_, hs.mono fun q hq => ?_⟩, fun j u hu => ?_⟩
  · have := d e
    injection this with e1 _ e3
    exact ⟨e1, e3⟩
  · rcases hq with hq | hq
    · exact hq.elim
    · exact c.lt q hq.symm
  · show w.cell? ((⟨g, 0, none⟩ : Addr).add (i * 2 + j)) = some u
    rw [add_plain', Nat.zero_add, cell_of_row w g _ cur _ _ h1]
    match j, hu with
    | 0, hu => simp at hu; subst hu; exact a
    | 1, hu => simp at hu; subst hu; exact b
/-- A field that grows: its row by an append, then the cell. -/
theorem NRow.grow (h : NRow w base g cap l) {i : Nat} {p : GNode} (hp : l[i]? = some p) {v : Value} (hv : w.cell? ⟨g, i * 2 + 1, none⟩ = some v) {w1 : World} {g1 n cap1 : Nat} {t : ByteArray} (hn : n = p.2.length + 1)
    (hown : Own rStr w1 NoB base 9 (.slice (some ⟨g1, 0, none⟩) n cap1) n (p.2 ++ [t])) (hg : w.grownBy w1 v.ownBlock) (hat : v.ownBlock = some g1 ∨ w.heap.size ≤ g1) :
    NRow (w1.setCell ⟨g, i * 2 + 1, none⟩ (.slice (some ⟨g1, 0, none⟩) n cap1)) base g cap (l.modify i fun p => (p.1, p.2 ++ [t])) := by
  subst hn
  have hlt := h.lt
  obtain ⟨cur, h1, h2, h3, h4, h5, h6⟩ := h
  have hil : i < l.length := (List.getElem?_eq_some_iff.1 hp).1
  obtain ⟨a, v0, b, c, d⟩ := h5 i p hp
  have hvv : v0 = v := by
    rw [cell_of_row w g _ cur _ _ h1, b] at hv
    exact Option.some.inj hv
  subst hvv
  have hgb : w1.heap[g]? = some (.cells cur 27 (0, 0)) := (hg.block g hlt (own_blk_ne c.strs h1 (by decide))).trans h1
  have hcs : i * 2 + 1 < cur.size := (Array.getElem?_eq_some_iff.1 b).1
  have hgne : ∀ {v : Value} {n : Nat} {xs : List ByteArray}, Own rStr w1 NoB base 9 v n xs → Own rStr (w1.setCell ⟨g, i * 2 + 1, none⟩ (.slice (some ⟨g1, 0, none⟩) (p.2.length + 1) cap1)) NoB base 9 v n xs := fun {v n xs} ho => by
    have hne := own_blk_ne ho.strs hgb (by decide)
    refine ho.kept (row := some g) ⟨rfl, rfl, rfl, by simp [World.setCell], fun k _ hk => Below.heap_setCell _ _ _ _ (fun e => hk (by rw [e]))⟩ (.inr (Ne.symm hne)) (fun _ h => h.elim)
  have hnew : ∀ j q u, j ≠ i → l[j]? = some q → cur[j * 2 + 1]? = some u → u.ownBlock = none ∨ u.ownBlock ≠ some g1 := fun j q u hji hq hu => by
    have hjl : j < l.length := (List.getElem?_eq_some_iff.1 hq).1
    obtain ⟨_, u', hu', hou, _⟩ := h5 j q hq
    rw [hu] at hu'
    injection hu' with hu'
    subst hu'
    rcases hat with e | e
    · rw [← e]; exact h6 j i u v0 hji hjl hil hu b
    · cases hub : u.ownBlock with
      | none => exact .inl rfl
      | some k =>
        have := (hou.lt k hub).2
        exact .inr (by intro e'; injection e' with e'; omega)
  refine ⟨cur.setIfInBounds (i * 2 + 1) (.slice (some ⟨g1, 0, none⟩) (p.2.length + 1) cap1), ?_, by simp [h2], by simpa using h3, h4, fun j q hq => ?_, fun j k u s hjk hj hk hu hs => ?_⟩
  · simp [World.setCell, Array.getElem?_modify, hgb]
  · rw [List.getElem?_modify] at hq
    cases hlj : l[j]? with
    | none => rw [hlj] at hq; cases hq
    | some q0 =>
      rw [hlj] at hq
      simp only [Option.map_eq_map, Option.map_some, Option.some.injEq] at hq
      obtain ⟨a0, u0, b0, c0, d0⟩ := h5 j q0 hlj
      by_cases hij : i = j
      · subst hij
        rw [hp] at hlj
        injection hlj with hlj
        subst hlj
        simp only [if_true] at hq
        subst hq
        refine ⟨?_, .slice (some ⟨g1, 0, none⟩) (p.2.length + 1) cap1, by rw [Array.getElem?_setIfInBounds]; simp [hcs], ?_, fun e => by simp at e⟩
        · rw [Array.getElem?_setIfInBounds, if_neg (by omega)]; exact a0
        · have hl : (p.2 ++ [t]).length = p.2.length + 1 := by simp
          show Own rStr _ NoB base _ _ (p.2 ++ [t]).length (p.2 ++ [t])
          rw [hl]
          exact hgne hown
      · rw [if_neg hij] at hq
        subst hq
        refine ⟨?_, u0, ?_, hgne (c0.kept hg (h6 j i u0 v0 (Ne.symm hij) (List.getElem?_eq_some_iff.1 hlj).1 hil b0 b) (fun _ h => h.elim)), d0⟩
        · rw [Array.getElem?_setIfInBounds, if_neg (by omega)]; exact a0
        · rw [Array.getElem?_setIfInBounds, if_neg (by omega)]; exact b0
  · simp only [List.length_modify] at hj hk
    rw [Array.getElem?_setIfInBounds] at hu hs
    by_cases ej : i = j
    · subst ej
      rw [if_pos rfl, if_pos hcs] at hu
      injection hu with hu
      subst hu
      rw [if_neg (by omega)] at hs
      have := hnew k _ s (Ne.symm hjk) (List.getElem?_eq_getElem hk) hs
      exact apart_symm this
    · rw [if_neg (by omega)] at hu
      by_cases ek : i = k
      · subst ek
        rw [if_pos rfl, if_pos hcs] at hs
        injection hs with hs
        subst hs
        exact hnew j _ u hjk (List.getElem?_eq_getElem hj) hu
      · rw [if_neg (by omega)] at hs
        exact h6 j k u s hjk hj hk hu hs
/-- The row behind the first loop: all To fields are nil. -/
theorem NRow.first {n : Nat} (h : Own rNode w NoB base 27 (.slice (some ⟨g, 0, none⟩) n cap) n l) (hl : ∀ p, p ∈ l → p.2 = []) : NRow w base g cap l := by
  obtain ⟨css, h1, h2⟩ := h.row
  have hln := h.len
  rcases h2.2 with ⟨e1, _⟩ | ⟨g', cap', cur, e1, hb, hg, hnc, hcm, hsz, htk⟩
  · cases e1
  · injection e1 with e1 _ e2
    injection e1 with e1
    injection e1 with e1 _
    subst e1 e2
    have key : ∀ i p, l[i]? = some p → cur[i * 2]? = some (.string p.1) ∧ cur[i * 2 + 1]? = some (.slice none 0 0) := by
      intro i p hp
      obtain ⟨cs, hcs, A, c, rfl, hc, hnil, hs⟩ := h1.get hp
      have hp2 := hl p (List.mem_of_getElem? hp)
      obtain ⟨rfl, rfl⟩ := hnil hp2
      rw [hp2] at hcs
      have f0 := flatten_get h1.lens hcs (j := 0) rfl
      have f1 := flatten_get h1.lens hcs (j := 1) rfl
      rw [← htk, List.getElem?_take] at f0 f1
      have hr2 : rNode.size = 2 := rfl
      rw [hr2] at f0 f1
      constructor
      · split at f0
        · simpa using f0
        · cases f0
      · split at f1
        · simpa using f1
        · cases f1
    refine ⟨cur, hg, hsz, by omega, hb, fun i p hp => ⟨(key i p hp).1, _, (key i p hp).2, ?_, fun _ => rfl⟩, fun i j u v _ hi _ hu _ => .inl ?_⟩
    · rw [hl p (List.mem_of_getElem? hp)]
      exact Own.nil rStr _ (fun _ h => h.elim) _ _
    · rw [(key i _ (List.getElem?_eq_getElem hi)).2] at hu
      injection hu with hu
      subst hu
      rfl
end
end Go.Proofs.Ythfoaehjnoiniaa
