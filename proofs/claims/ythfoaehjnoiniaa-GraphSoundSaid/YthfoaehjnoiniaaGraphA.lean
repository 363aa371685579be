/- graph: plain words on nodes, and what the map of ways is while it is filled. No condition. -/
import Derived.Test.YthfoaehjnoiniaaStrs
namespace Go.Proofs.Ythfoaehjnoiniaa
open Go.RowKit
abbrev GNode := ByteArray × List ByteArray
def rNode : Rep GNode where
  size := 2
  R := fun w S x cs => ∃ A c, cs = [.string x.1, .slice A x.2.length c] ∧ x.2.length ≤ c ∧ (x.2 = [] → A = none ∧ c = 0) ∧ Sl rStr w S A x.2
  len := fun ⟨_, _, e, _⟩ => by rw [e]; rfl
  keep := fun ⟨A, c, e, h1, h2, h⟩ hk => ⟨A, c, e, h1, h2, h.keep hk⟩
  mono := fun ⟨A, c, e, h1, h2, h⟩ hm => ⟨A, c, e, h1, h2, h.mono hm⟩
def nmem (l : List GNode) (y : ByteArray) : Bool := l.any fun n => decide (n.1 = y)
def toOf (l L : List GNode) (x : ByteArray) : List ByteArray := (l.filter fun n => decide (n.1 = x)).flatMap fun n => n.2.filter (nmem L)
def edges (l : List GNode) : Nat := (l.map fun n => n.2.length).sum
theorem nmem_iff (l : List GNode) (y : ByteArray) : nmem l y = true ↔ y ∈ l.map (·.1) := by
  unfold nmem
  simp only [List.any_eq_true, decide_eq_true_eq, List.mem_map]
theorem toOf_snoc (l L : List GNode) (n : GNode) (x : ByteArray) : toOf (l ++ [n]) L x = toOf l L x ++ if x = n.1 then n.2.filter (nmem L) else [] := by
  unfold toOf
  rw [List.filter_append, List.flatMap_append]
  by_cases h : n.1 = x
  · simp [h]
  · have : ¬ x = n.1 := fun e => h e.symm
    simp [h, this]
theorem edges_snoc (l : List GNode) (n : GNode) : edges (l ++ [n]) = edges l + n.2.length := by unfold edges; simp
theorem toOf_len (l L : List GNode) (x : ByteArray) : (toOf l L x).length ≤ edges l := by
  unfold toOf edges
  induction l with
  | nil => simp
  | cons n l ih =>
    simp only [List.filter_cons, List.map_cons, List.sum_cons]
    split
    · simp only [List.flatMap_cons, List.length_append]
      have := List.length_filter_le (nmem L) n.2
      omega
    · omega
theorem edges_take (l : List GNode) (i : Nat) : edges (l.take i) ≤ edges l := by
  conv => rhs; rw [← List.take_append_drop i l]
  unfold edges
  rw [List.map_append, List.sum_append]
  omega
/-- The map of ways: its keys are ks, each key's row holds f. -/
def WInv (w : World) (base b : Nat) (ks : List ByteArray) (f : ByteArray → List ByteArray) : Prop :=
  ∃ m, SMap w b m ∧ (∀ x, (look m x).isSome = true ↔ x ∈ ks) ∧ (∀ x v, look m x = some v → Own rStr w NoB base 9 v (f x).length (f x)) ∧ (∀ x v, look m x = some v → f x = [] → v = .slice none 0 0) ∧
    ∀ x y u v, x ≠ y → look m x = some u → look m y = some v → u.ownBlock = none ∨ u.ownBlock ≠ v.ownBlock
section
variable {w w' : World} {base b : Nat} {ks : List ByteArray} {f : ByteArray → List ByteArray}
theorem WInv.new (w : World) (base : Nat) : WInv (w.alloc (.map #[] 0)) base w.heap.size [] (fun _ => []) :=
  ⟨[], SMap.new w, by simp [look], by simp [look], by simp [look], by simp [look]⟩
theorem WInv.call (h : WInv w base b ks f) (hb : Below w.heap.size w w') : WInv w' base b ks f := by
  obtain ⟨m, h1, h2, h3, h4, h5⟩ := h
  exact ⟨m, h1.call hb, h2, fun x v hx => (h3 x v hx).call hb, h4, h5⟩
theorem WInv.alloc (h : WInv w base b ks f) (o : Obj) : WInv (w.alloc o) base b ks f := h.call ((Below.refl _ _).alloc (Nat.le_refl _) o)
theorem WInv.drewN (h : WInv w base b ks f) (n : Nat) : WInv (w.drewN n) base b ks f := h.call (below_drew' (Below.refl _ _) n)
theorem WInv.congr (h : WInv w base b ks f) {f' : ByteArray → List ByteArray} (hf : ∀ x, f' x = f x) : WInv w base b ks f' := by
  have : f' = f := funext hf
  rw [this]; exact h
/-- A new key, with nothing behind it, while all rows are empty. -/
theorem WInv.key {m : List (ByteArray × Value)} (h2 : ∀ x, (look m x).isSome = true ↔ x ∈ ks) (h4 : ∀ x v, look m x = some v → v = .slice none 0 0) (k : ByteArray) (hm : SMap w' b (upd m k (.slice none 0 0))) (ks' : List ByteArray) (hks : ks' = ks ++ [k]) : WInv w' base b ks' (fun _ => []) := by
  subst hks
  have hv : ∀ x v, look (upd m k (.slice none 0 0)) x = some v → v = .slice none 0 0 := fun x v hx => by
    rw [look_upd] at hx
    split at hx
    · injection hx with hx; exact hx.symm
    · exact h4 x v hx
  refine ⟨_, hm, fun x => ?_, fun x v hx => ?_, fun x v hx _ => hv x v hx, fun x y u v _ hx _ => .inl (by rw [hv x u hx]; rfl)⟩
  · rw [look_upd]
    by_cases e : x = k
    · simp [e]
    · simp [e, h2 x]
  · rw [hv x v hx]
    exact Own.nil rStr _ (fun _ h => h.elim) _ _
/-- One more behind a key. -/
theorem WInv.more {m : List (ByteArray × Value)} (hm : SMap w b m) (h2 : ∀ x, (look m x).isSome = true ↔ x ∈ ks) (h3 : ∀ x v, look m x = some v → Own rStr w NoB base 9 v (f x).length (f x)) (h4 : ∀ x v, look m x = some v → f x = [] → v = .slice none 0 0)
    (h5 : ∀ x y u v, x ≠ y → look m x = some u → look m y = some v → u.ownBlock = none ∨ u.ownBlock ≠ v.ownBlock) {x t : ByteArray} {v : Value} (hx : look m x = some v) {w1 w2 : World} {g n cap : Nat} (hn : n = (f x).length + 1)
    (hown : Own rStr w1 NoB base 9 (.slice (some ⟨g, 0, none⟩) n cap) n (f x ++ [t])) (hg1 : w.grownBy w1 v.ownBlock) (hat : v.ownBlock = some g ∨ w.heap.size ≤ g) (hm2 : SMap w2 b (upd m x (.slice (some ⟨g, 0, none⟩) n cap))) (hg2 : w1.grownBy w2 (some b))
    {f' : ByteArray → List ByteArray} (hf : ∀ y, f' y = if y = x then f x ++ [t] else f y) : WInv w2 base b ks f' := by
  subst hn
  have hb1 : SMap w1 b m := hm.grown hg1 (hm.ne_own (h3 x v hx).strs)
  have hne : ∀ y u, y ≠ x → look m y = some u → u.ownBlock = none ∨ u.ownBlock ≠ some g := fun y u hy hu => by
    rcases hat with e | e
    · rw [← e]; exact h5 y x u v hy hu hx
    · cases hub : u.ownBlock with
      | none => exact .inl rfl
      | some k =>
        have := ((h3 y u hu).lt k hub).2
        exact .inr (by intro e'; injection e' with e'; omega)
  refine ⟨_, hm2, fun y => ?_, fun y u hy => ?_, fun y u hy hz => ?_, fun y z u s hyz hy hz => ?_⟩
  · rw [look_upd, ← h2 y]
    by_cases e : y = x
    · subst e; simp [hx]
    · simp [e]
  · rw [hf y]
    rw [look_upd] at hy
    by_cases e : y = x
    · rw [if_pos e] at hy ⊢
      injection hy with hy
      subst hy
      have hl : (f x ++ [t]).length = (f x).length + 1 := by simp
      rw [hl]
      exact hown.kept hg2 (.inr (Ne.symm (hb1.ne_own hown.strs))) (fun _ h => h.elim)
    · rw [if_neg e] at hy ⊢
      have h0 := h3 y u hy
      have h1 := h0.kept hg1 (h5 y x u v e hy hx) (fun _ h => h.elim)
      exact h1.kept hg2 (.inr (Ne.symm (hb1.ne_own h1.strs))) (fun _ h => h.elim)
  · rw [hf y] at hz
    rw [look_upd] at hy
    by_cases e : y = x
    · rw [if_pos e] at hz; simp at hz
    · rw [if_neg e] at hy hz
      exact h4 y u hy hz
  · rw [look_upd] at hy hz
    by_cases e1 : y = x
    · rw [if_pos e1] at hy
      injection hy with hy
      subst hy
      by_cases e2 : z = x
      · exact absurd (e1.trans e2.symm) hyz
      · rw [if_neg e2] at hz
        refine .inr fun e => ?_
        rcases hne z s e2 hz with e3 | e3
        · rw [e3] at e; simp [Value.ownBlock] at e
        · exact e3 (by rw [← e]; rfl)
    · rw [if_neg e1] at hy
      by_cases e2 : z = x
      · rw [if_pos e2] at hz
        injection hz with hz
        subst hz
        exact hne y u e1 hy
      · rw [if_neg e2] at hz
        exact h5 y z u s hyz hy hz
end
/-- What an append onto another row leaves as it was. -/
theorem keep_app {w w1 : World} {b g : Nat} {m : List (ByteArray × Value)} {t : TypeId} {cs : Array Value} {base : Nat} {e : TypeId} {size n : Nat} {v : Value} {xs : List Value} {o : Obj} (hm : SMap w b m) (hb : Blk w g t cs) (ho : w.ownsRow base e size v n xs) (hne : e ≠ t)
    (hg : (w.alloc o).drew.grownBy w1 v.ownBlock) : SMap w1 b m ∧ Blk w1 g t cs :=
  ⟨SMap.grown (w := (w.alloc o).drew) (hm.alloc o) hg (hm.ne_own ho), Blk.grown (w := (w.alloc o).drew) (hb.alloc o) hg (own_blk_ne ho hb hne)⟩
/-- The map of ways, as it is read. -/
def Ways (w : World) (b : Nat) (m : List (ByteArray × Value)) (f : ByteArray → List ByteArray) : Prop :=
  SMap w b m ∧ ∀ x, ∃ A c, (look m x).getD (.slice none 0 0) = .slice A (f x).length c ∧ Sl rStr w (fun b => b < w.heap.size) A (f x) ∧ (f x = [] → A = none)
theorem WInv.ways {w : World} {base b : Nat} {ks : List ByteArray} {f : ByteArray → List ByteArray} (h : WInv w base b ks f) (hf : ∀ x, x ∉ ks → f x = []) : ∃ m, Ways w b m f ∧ ∀ x, x ∈ m.map (·.1) ↔ x ∈ ks := by
  obtain ⟨m, h1, h2, h3, h4, _⟩ := h
  refine ⟨m, ⟨h1, fun x => ?_⟩, fun x => by rw [← look_isSome]; exact h2 x⟩
  cases hx : look m x with
  | none =>
    have hnil : f x = [] := hf x (fun hk => by have := (h2 x).2 hk; rw [hx] at this; cases this)
    exact ⟨none, 0, by simp [hnil], by rw [hnil]; exact Sl.nil _, fun _ => rfl⟩
  | some v =>
    have ho := h3 x v hx
    obtain ⟨A, c, rfl, _, _, hs⟩ := ho.sl
    refine ⟨A, c, rfl, hs.mono fun k hk => ?_, fun e => ?_⟩
    · rcases hk with hk | hk
      · exact hk.elim
      · exact (ho.lt k hk.symm).2
    · have := h4 x _ hx e
      injection this
theorem Ways.call {w w' : World} {b : Nat} {m : List (ByteArray × Value)} {f : ByteArray → List ByteArray} (h : Ways w b m f) (hb : Below w.heap.size w w') : Ways w' b m f :=
  ⟨h.1.call hb, fun x => by
    obtain ⟨A, c, h1, h2, h3⟩ := h.2 x
    exact ⟨A, c, h1, (h2.below hb fun _ h => h).mono fun k hk => Nat.lt_of_lt_of_le hk hb.size, h3⟩⟩
theorem toOf_none (l L : List GNode) (x : ByteArray) (h : x ∉ l.map (·.1)) : toOf l L x = [] := by
  unfold toOf
  rw [List.filter_eq_nil_iff.2]
  · rfl
  · intro n hn
    simp only [decide_eq_true_eq]
    rintro rfl
    exact h (List.mem_map_of_mem hn)
theorem toOf_mem (l L : List GNode) (x y : ByteArray) (h : y ∈ toOf l L x) : y ∈ L.map (·.1) := by
  unfold toOf at h
  obtain ⟨n, _, hn⟩ := List.mem_flatMap.1 h
  exact (nmem_iff L y).1 (List.mem_filter.1 hn).2

/-- A way of one step or more. -/
inductive Way (f : ByteArray → List ByteArray) (x : ByteArray) : ByteArray → Prop
  | one {y} : y ∈ f x → Way f x y
  | more {y z} : Way f x y → z ∈ f y → Way f x z
theorem Way.trans {f : ByteArray → List ByteArray} {x y z : ByteArray} (h : Way f x y) (k : Way f y z) : Way f x z := by
  induction k with
  | one hy => exact .more h hy
  | more _ hz ih => exact .more ih hz
/-- What the search holds: all in V or on the stack is led to; what is led to in one step, from the start or from V, is in V or on the stack. -/
structure FInv (f : ByteArray → List ByteArray) (name : ByteArray) (ks : List ByteArray) (m : List (ByteArray × Value)) (st : List ByteArray) (E g : Nat) : Prop where
  tru : ∀ x v, look m x = some v → v = .bool true
  inV : ∀ x, (look m x).isSome = true → Way f name x
  inS : ∀ x, x ∈ st → Way f name x
  fst : ∀ y, y ∈ f name → (look m y).isSome = true ∨ y ∈ st
  nxt : ∀ x y, (look m x).isSome = true → y ∈ f x → (look m y).isSome = true ∨ y ∈ st
  mea : ks.countP (fun y => (look m y).isNone) * (E + 1) + st.length ≤ g
section
variable {f : ByteArray → List ByteArray} {name : ByteArray} {ks : List ByteArray} {m : List (ByteArray × Value)} {st : List ByteArray} {E g : Nat}
theorem FInv.start (h : (f name).length ≤ E) : FInv f name ks [] (f name) E (ks.length * (E + 1) + E) :=
  ⟨by simp [look], by simp [look], fun _ h => .one h, fun _ h => .inr h, by simp [look], by
    have := List.countP_le_length (p := fun y => (look [] y).isNone) (l := ks)
    have := Nat.mul_le_mul_right (E + 1) this
    omega⟩
/-- One that is there already is dropped. -/
theorem FInv.seen (h : FInv f name ks m st E g) {k : Nat} {x : ByteArray} (hk : st.length = k + 1) (hx : st[k]? = some x) (hs : (look m x).isSome = true) : FInv f name ks m (st.take k) E (g - 1) ∧ 0 < g := by
  have hst : st = st.take k ++ [x] := by
    obtain ⟨hl, he⟩ := List.getElem?_eq_some_iff.1 hx
    rw [← he, ← List.take_succ_eq_append_getElem hl, List.take_of_length_le (by omega)]
  have hor : ∀ y, y ∈ st → (look m y).isSome = true ∨ y ∈ st.take k := fun y hy => by
    rw [hst] at hy
    rcases List.mem_append.1 hy with h | h
    · exact .inr h
    · rw [List.mem_singleton.1 h]; exact .inl hs
  have hm := h.mea
  refine ⟨⟨h.tru, h.inV, fun y hy => h.inS y (List.mem_of_mem_take hy), fun y hy => (h.fst y hy).elim .inl (hor y), fun z y hz hy => (h.nxt z y hz hy).elim .inl (hor y), ?_⟩, by omega⟩
  have : (st.take k).length = k := by rw [List.length_take]; omega
  omega
theorem countP_lt {p q : ByteArray → Bool} : ∀ {ks : List ByteArray}, (∀ y, q y = true → p y = true) → ∀ x, x ∈ ks → p x = true → q x = false → ks.countP q < ks.countP p
  | [], _, x, hx, _, _ => by simp at hx
  | k :: ks, himp, x, hx, hp, hq => by
    have hle : ks.countP q ≤ ks.countP p := List.countP_mono_left fun y _ h => himp y h
    rw [List.countP_cons, List.countP_cons]
    rcases List.mem_cons.1 hx with rfl | hx
    · simp only [hp, hq, if_true, Bool.false_eq_true, if_false]; omega
    · have := countP_lt himp x hx hp hq
      by_cases hqk : q k = true
      · simp only [hqk, himp k hqk, if_true]; omega
      · simp only [hqk, Bool.false_eq_true, if_false]; omega
/-- A new one: it is in V, and what it leads to is on the stack. -/
theorem FInv.step (h : FInv f name ks m st E g) {k : Nat} {x : ByteArray} (hk : st.length = k + 1) (hx : st[k]? = some x) (hs : (look m x).isSome = false) (hks : x ∈ ks) (hE : (f x).length ≤ E) : FInv f name ks (upd m x (.bool true)) (st.take k ++ f x) E (g - 1) ∧ 0 < g := by
  have hst : st = st.take k ++ [x] := by
    obtain ⟨hl, he⟩ := List.getElem?_eq_some_iff.1 hx
    rw [← he, ← List.take_succ_eq_append_getElem hl, List.take_of_length_le (by omega)]
  have hl : ∀ y, look (upd m x (.bool true)) y = if y = x then some (.bool true) else look m y := look_upd m x (.bool true)
  have hsome : ∀ y, (look m y).isSome = true → (look (upd m x (.bool true)) y).isSome = true := fun y hy => by
    rw [hl]
    by_cases e : y = x
    · rw [if_pos e]; rfl
    · rw [if_neg e]; exact hy
  have hself : (look (upd m x (.bool true)) x).isSome = true := by rw [hl]; simp
  have hor : ∀ y, y ∈ st → (look (upd m x (.bool true)) y).isSome = true ∨ y ∈ st.take k ++ f x := fun y hy => by
    rw [hst] at hy
    rcases List.mem_append.1 hy with h | h
    · exact .inr (List.mem_append_left _ h)
    · rw [List.mem_singleton.1 h]; exact .inl hself
  have hw : Way f name x := h.inS x (List.mem_of_getElem? hx)
  have hm := h.mea
  have hc : ks.countP (fun y => (look (upd m x (.bool true)) y).isNone) < ks.countP (fun y => (look m y).isNone) := by
    refine countP_lt (fun y hy => ?_) x hks (by simpa using hs) (by rw [hl]; simp)
    rw [hl] at hy
    split at hy
    · cases hy
    · exact hy
  have hmul := Nat.mul_le_mul_right (E + 1) hc
  rw [Nat.succ_mul] at hmul
  have htl : (st.take k).length = k := by rw [List.length_take]; omega
  refine ⟨⟨fun y v hy => ?_, fun y hy => ?_, fun y hy => ?_, fun y hy => (h.fst y hy).elim (fun h => .inl (hsome y h)) (hor y), fun z y hz hy => ?_, ?_⟩, by omega⟩
  · rw [hl] at hy
    split at hy
    · injection hy with hy; exact hy.symm
    · exact h.tru y v hy
  · rw [hl] at hy
    split at hy
    · rename_i e; rw [e]; exact hw
    · exact h.inV y hy
  · rcases List.mem_append.1 hy with hy | hy
    · exact h.inS y (List.mem_of_mem_take hy)
    · exact .more hw hy
  · rw [hl] at hz
    by_cases e : z = x
    · subst e; exact .inr (List.mem_append_right _ hy)
    · rw [if_neg e] at hz
      exact (h.nxt z y hz hy).elim (fun h => .inl (hsome y h)) (hor y)
  · rw [List.length_append, htl]; omega
theorem FInv.end_ (h : FInv f name ks m [] E g) (x : ByteArray) : look m x = some (.bool true) ↔ Way f name x := by
  constructor
  · intro hx; exact h.inV x (by rw [hx]; rfl)
  · intro hw
    have : (look m x).isSome = true := by
      induction hw with
      | one hy => exact (h.fst _ hy).resolve_right (by simp)
      | more _ hz ih => exact (h.nxt _ _ ih hz).resolve_right (by simp)
    obtain ⟨v, hv⟩ := Option.isSome_iff_exists.1 this
    rw [hv, h.tru x v hv]
theorem FInv.key (h : FInv f name ks m st E g) (hks : ∀ x y, y ∈ f x → y ∈ ks) {x : ByteArray} (hx : x ∈ st) : x ∈ ks := by
  have := h.inS x hx
  cases this with
  | one hy => exact hks _ _ hy
  | more _ hz => exact hks _ _ hz
end
end Go.Proofs.Ythfoaehjnoiniaa
