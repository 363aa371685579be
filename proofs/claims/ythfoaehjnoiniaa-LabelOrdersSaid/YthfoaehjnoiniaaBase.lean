/- Plain lemmas that the walks of this seat share: how slices, maps, boxes read in a world, and what leaves them as they are. No condition. -/
import Derived.WalkKit
import Derived.Outline
import Derived.Deep.LoopGhost
import Derived.Maps.AppendAt
import Derived.Maps.RangeRun
import Derived.Deep.AppendLies
import Derived.Deep.Draws
import Derived.Deep.QuietTactic
import Derived.BigQuiet
import Derived.RegionTactic
import Derived.OwnWalk
import Derived.Deep.RegionHeld3
namespace Go.Proofs.Ythfoaehjnoiniaa
open Go.RowKit

/-- A fact that the walk does not look into. -/
structure Asd (p : Prop) : Prop where mk :: (out : p)

theorem add_block (a : Addr) (n : Nat) : (a.add n).block = a.block := by unfold Addr.add; split <;> rfl
theorem add_add' (a : Addr) (i j : Nat) : (a.add i).add j = a.add (i + j) := by
  unfold Addr.add
  by_cases hi : i = 0 <;> by_cases hj : j = 0 <;> simp [hi, hj, Nat.add_assoc]
theorem add_zero' (a : Addr) : a.add 0 = a := by simp [Addr.add]
theorem add_fld (a : Addr) (n j : Nat) (hj : j ≠ 0) : a.add (n + j) = ⟨(a.add n).block, (a.add n).off + j, none⟩ := by
  unfold Addr.add
  by_cases hn : n = 0 <;> simp [hn, hj, Nat.add_assoc]

theorem plain_addr {w : World} {a : Addr} {u : Value} (h : w.cell? a = some u) : a = ⟨a.block, a.off, none⟩ := by
  obtain ⟨b, o, s⟩ := a
  cases s with
  | none => rfl
  | some x =>
    unfold World.cell? at h
    simp only [Option.isSome_some, if_true] at h
    split at h <;> cases h
theorem add_plain' (b o j : Nat) : (⟨b, o, none⟩ : Addr).add j = ⟨b, o + j, none⟩ := by unfold Addr.add; split <;> simp_all

theorem take_snoc' {α : Type} (l : List α) {i : Nat} {x : α} (h : l[i]? = some x) : l.take (i + 1) = l.take i ++ [x] := by
  obtain ⟨hi, rfl⟩ := List.getElem?_eq_some_iff.1 h
  exact List.take_succ_eq_append_getElem hi

/-! ### worlds -/
theorem below_drew' {B : Nat} {w W : World} (h : Below B w W) (n : Nat) : Below B w (W.drewN n) := ⟨h.os, h.tape, h.output, h.size, h.block⟩
/-- A step from W that leaves all that was in W, behind a step that leaves all below B. -/
theorem below_step {B : Nat} {w W W' : World} (h : Below B w W) (hB : B ≤ W.heap.size) (k : Below W.heap.size W W') : Below B w W' := h.trans (k.mono hB)
theorem below_call {w W W' : World} (h : Below w.heap.size w W) (k : Below W.heap.size W W') : Below w.heap.size w W' := below_step h h.size k
theorem grown_below {w W : World} (h : Below w.heap.size w W) (row : Option Nat) : w.grownBy W row := ⟨h.os, h.tape, h.output, h.size, fun i hi _ => h.block i hi⟩
theorem grown_trans' {a b c : World} {row : Option Nat} (h : a.grownBy b row) (k : b.grownBy c row) : a.grownBy c row :=
  ⟨k.os.trans h.os, k.tape.trans h.tape, k.output.trans h.output, Nat.le_trans h.size k.size, fun i hi hne => (k.block i (Nat.lt_of_lt_of_le hi h.size) hne).trans (h.block i hi hne)⟩
theorem below_grown {B : Nat} {w W W' : World} {row : Option Nat} (h : Below B w W) (hB : B ≤ W.heap.size) (hg : W.grownBy W' row) (hr : ∀ k, row = some k → B ≤ k) : Below B w W' := h.grown hg hB hr
theorem grown_alloc {w w1 : World} {o : Obj} {row : Option Nat} (h : (w.alloc o).grownBy w1 row) : w.grownBy w1 row := grown_trans' (World.grownBy_alloc w o row) h
theorem grown_alloc_drew {w w1 : World} {o : Obj} {row : Option Nat} (h : (w.alloc o).drew.grownBy w1 row) : w.grownBy w1 row := grown_trans' (World.grownBy_alloc w o row) ⟨h.os, h.tape, h.output, h.size, h.block⟩
theorem grown_two_drew {w w1 : World} {o o' : Obj} {row : Option Nat} (h : ((w.alloc o).alloc o').drew.grownBy w1 row) : w.grownBy w1 row := grown_trans' (World.grownBy_alloc w o row) (grown_alloc_drew h)
theorem grown_drewN {a w : World} {row : Option Nat} (h : a.grownBy w row) (n : Nat) : a.grownBy (w.drewN n) row := ⟨h.os, h.tape, h.output, h.size, h.block⟩
theorem grown_set {a w : World} {g : Nat} (h : a.grownBy w (some g)) {p : Addr} (hp : p.block = g ∨ a.heap.size ≤ p.block) (u : Value) : a.grownBy (w.setCell p u) (some g) :=
  ⟨h.os, h.tape, h.output, by simpa [World.setCell] using h.size, fun i hi hne => (Below.heap_setCell w p u i (by
    rintro rfl
    rcases hp with hp | hp
    · exact hne (by rw [hp])
    · omega)).trans (h.block i hi hne)⟩

theorem apart_none (a : Option Nat) : a = none ∨ a ≠ none := by cases a <;> simp
theorem apart_symm {a b : Option Nat} (h : a = none ∨ a ≠ b) : b = none ∨ b ≠ a := by
  cases b with
  | none => exact .inl rfl
  | some k =>
    refine .inr fun e => ?_
    rcases h with h | h
    · rw [h] at e; cases e
    · exact h e.symm
theorem apart_new {a b : Option Nat} {g H : Nat} (h : a = none ∨ a ≠ b) (hat : a = some g ∨ H ≤ g) (hb : ∀ k, b = some k → k < H) : some g = none ∨ some g ≠ b := by
  refine .inr fun e => ?_
  rcases hat with e1 | e1
  · rcases h with h | h
    · rw [h] at e1; cases e1
    · exact h (e1.trans e)
  · have := hb g e.symm
    omega
theorem below_alloc_call {w w' : World} {o : Obj} (h : Below (w.alloc o).heap.size (w.alloc o) w') : Below w.heap.size w w' :=
  ((Below.refl _ _).alloc (Nat.le_refl _) o).trans (h.mono (by simp))

/-! ### a block that is known whole -/
def Blk (w : World) (g : Nat) (t : TypeId) (cs : Array Value) : Prop := w.heap[g]? = some (.cells cs t (0, 0))
section
variable {w w' : World} {g : Nat} {t : TypeId} {cs : Array Value}
theorem Blk.lt (h : Blk w g t cs) : g < w.heap.size := by
  rcases Nat.lt_or_ge g w.heap.size with hlt | hge
  · exact hlt
  · unfold Blk at h; rw [Array.getElem?_eq_none hge] at h; cases h
theorem Blk.cell (h : Blk w g t cs) (i : Nat) : w.cell? ⟨g, i, none⟩ = cs[i]? := cell_of_row w g i cs t (0, 0) h
theorem Blk.free (h : Blk w g t cs) (i : Nat) : w.frozen? ⟨g, i, none⟩ = false := by
  unfold Blk at h
  simp [World.frozen?, h]
theorem Blk.new (w : World) (t : TypeId) (cs : Array Value) : Blk (w.alloc (.cells cs t)) w.heap.size t cs := heap_alloc_new w _
theorem Blk.drewN (h : Blk w g t cs) (n : Nat) : Blk (w.drewN n) g t cs := h
theorem Blk.alloc (h : Blk w g t cs) (o : Obj) : Blk (w.alloc o) g t cs := (Below.heap_alloc w o g h.lt).trans h
theorem Blk.set_ (h : Blk w g t cs) (i : Nat) (u : Value) : Blk (w.setCell ⟨g, i, none⟩ u) g t (cs.setIfInBounds i u) := by
  unfold Blk at h ⊢
  simp [World.setCell, Array.getElem?_modify, h]
theorem Blk.far (h : Blk w g t cs) {p : Addr} (hp : g ≠ p.block) (u : Value) : Blk (w.setCell p u) g t cs := (Below.heap_setCell w p u g hp).trans h
theorem Blk.below {B : Nat} (h : Blk w g t cs) (hb : Below B w w') (hg : g < B) : Blk w' g t cs := (hb.block g hg).trans h
theorem Blk.call (h : Blk w g t cs) (hb : Below w.heap.size w w') : Blk w' g t cs := (hb.block g h.lt).trans h
theorem Blk.grown {row : Option Nat} (h : Blk w g t cs) (hb : w.grownBy w' row) (hg : some g ≠ row) : Blk w' g t cs := (hb.block g h.lt hg).trans h
theorem Blk.ne_ {g' : Nat} {t' : TypeId} {cs' : Array Value} (h : Blk w g t cs) (h' : Blk w g' t' cs') (hne : t ≠ t') : g ≠ g' := by
  rintro rfl
  unfold Blk at h h'
  rw [h] at h'
  injection h' with h'
  injection h' with _ ht
  exact hne ht
theorem own_blk_ne {base : Nat} {e : TypeId} {size n : Nat} {v : Value} {xs : List Value} (h : w.ownsRow base e size v n xs) (hg : Blk w g t cs) (hne : e ≠ t) : some g ≠ v.ownBlock := by
  rcases h.2 with ⟨rfl, _⟩ | ⟨g', cap, cur, rfl, _, hh, _⟩
  · simp [Value.ownBlock]
  · intro he
    have : g' = g := by simpa [Value.ownBlock] using he.symm
    subst this
    exact Blk.ne_ (t := e) hh hg hne rfl
end

/-! ### how a value's cells read: S, the blocks that the reading looks into -/
structure Rep (α : Type) where
  size : Nat
  R : World → (Nat → Prop) → α → List Value → Prop
  len : ∀ {w S a cs}, R w S a cs → cs.length = size
  keep : ∀ {w w' S a cs}, R w S a cs → (∀ b, S b → w'.heap[b]? = w.heap[b]?) → R w' S a cs
  mono : ∀ {w S a cs} {S' : Nat → Prop}, R w S a cs → (∀ b, S b → S' b) → R w S' a cs
def Rep.flat {α : Type} (size : Nat) (f : α → List Value) (h : ∀ a, (f a).length = size) : Rep α where
  size := size
  R := fun _ _ a cs => cs = f a
  len := fun e => by rw [e]; exact h _
  keep := fun e _ => e
  mono := fun e _ => e
def rStr : Rep ByteArray := Rep.flat 1 (fun s => [.string s]) (fun _ => rfl)
def rInt (k : IntKind) : Rep Int := Rep.flat 1 (fun x => [.int k x]) (fun _ => rfl)
def rBool : Rep Bool := Rep.flat 1 (fun x => [.bool x]) (fun _ => rfl)

/-- The slice at A reads as xs. -/
def Sl {α : Type} (r : Rep α) (w : World) (S : Nat → Prop) (A : Option Addr) (xs : List α) : Prop :=
  ∀ i x, xs[i]? = some x → ∃ ad cs, A = some ad ∧ S ad.block ∧ r.R w S x cs ∧ ∀ j u, cs[j]? = some u → w.cell? (ad.add (i * r.size + j)) = some u
section
variable {α : Type} {r : Rep α} {w w' : World} {S S' : Nat → Prop} {A : Option Addr} {xs : List α}
theorem Sl.nil (A : Option Addr) : Sl r w S A [] := fun i x h => by simp at h
theorem Sl.keep (h : Sl r w S A xs) (hk : ∀ b, S b → w'.heap[b]? = w.heap[b]?) : Sl r w' S A xs := fun i x hx => by
  obtain ⟨ad, cs, e, hs, hr, hc⟩ := h i x hx
  exact ⟨ad, cs, e, hs, r.keep hr hk, fun j u hu => (World.cell?_of_block (w := w) (by rw [add_block]; exact hk _ hs)).trans (hc j u hu)⟩
theorem Sl.mono (h : Sl r w S A xs) (hm : ∀ b, S b → S' b) : Sl r w S' A xs := fun i x hx => by
  obtain ⟨ad, cs, e, hs, hr, hc⟩ := h i x hx
  exact ⟨ad, cs, e, hm _ hs, r.mono hr hm, hc⟩
theorem Sl.below {B : Nat} (h : Sl r w S A xs) (hb : Below B w w') (hS : ∀ b, S b → b < B) : Sl r w' S A xs := h.keep fun b hs => hb.block b (hS b hs)
theorem Sl.grown {row : Option Nat} (h : Sl r w S A xs) (hg : w.grownBy w' row) (hS : ∀ b, S b → b < w.heap.size ∧ some b ≠ row) : Sl r w' S A xs := h.keep fun b hs => hg.block b (hS b hs).1 (hS b hs).2
/-- One element, of one cell. -/
theorem Sl.at1 (h : Sl r w S A xs) {i : Nat} {x : α} (hx : xs[i]? = some x) (h1 : r.size = 1) : ∃ ad u, A = some ad ∧ S ad.block ∧ r.R w S x [u] ∧ w.cell? (ad.add i) = some u := by
  obtain ⟨ad, cs, e, hs, hr, hc⟩ := h i x hx
  have hl := r.len hr
  rw [h1] at hl hc
  match cs, hl with
  | [u], _ => exact ⟨ad, u, e, hs, hr, by simpa using hc 0 u rfl⟩
/-- One element, of several cells: the cells as the walk asks for them. -/
theorem Sl.atN (h : Sl r w S A xs) {i : Nat} {x : α} (hx : xs[i]? = some x) : ∃ ad cs, A = some ad ∧ S ad.block ∧ r.R w S x cs ∧ (∀ u, cs[0]? = some u → w.cell? (ad.add (i * r.size)) = some u) ∧
    ∀ j u, j ≠ 0 → cs[j]? = some u → w.cell? ⟨(ad.add (i * r.size)).block, (ad.add (i * r.size)).off + j, none⟩ = some u := by
  obtain ⟨ad, cs, e, hs, hr, hc⟩ := h i x hx
  exact ⟨ad, cs, e, hs, hr, fun u hu => by simpa using hc 0 u hu, fun j u hj hu => by rw [← add_fld _ _ _ hj]; exact hc j u hu⟩
theorem Sl.cut (h : Sl r w S A xs) {k n cap : Nat} (hn : xs.length = n) (hc : n ≤ cap) : Sl r w S (if cap = k then A else A.map (·.add (k * r.size))) (xs.drop k) := fun i x hx => by
  rw [List.getElem?_drop] at hx
  obtain ⟨ad, cs, rfl, hs, hr, hcell⟩ := h _ _ hx
  have hlt : k + i < xs.length := (List.getElem?_eq_some_iff.1 hx).1
  rw [if_neg (by omega)]
  refine ⟨ad.add (k * r.size), cs, rfl, by rw [add_block]; exact hs, hr, fun j u hu => ?_⟩
  rw [add_add', ← Nat.add_assoc, ← Nat.add_mul]
  exact hcell j u hu
theorem Sl.take (h : Sl r w S A xs) (k : Nat) : Sl r w S A (xs.take k) := fun i x hx => h i x (by
  rw [List.getElem?_take] at hx
  split at hx
  · exact hx
  · cases hx)
theorem Sl.str {A : Option Addr} {xs : List ByteArray} (h : Sl rStr w S A xs) {i : Nat} (hi : i < xs.length) : ∃ ad, A = some ad ∧ S ad.block ∧ w.cell? (ad.add i) = some (.string xs[i]) := by
  obtain ⟨ad, u, e, hs, hr, hc⟩ := h.at1 (i := i) (List.getElem?_eq_getElem hi) rfl
  have hr' : [u] = [.string xs[i]] := hr
  injection hr' with hr' _
  subst hr'
  exact ⟨ad, e, hs, hc⟩
theorem Sl.int {k : IntKind} {A : Option Addr} {xs : List Int} (h : Sl (rInt k) w S A xs) {i : Nat} (hi : i < xs.length) : ∃ ad, A = some ad ∧ S ad.block ∧ w.cell? (ad.add i) = some (.int k xs[i]) := by
  obtain ⟨ad, u, e, hs, hr, hc⟩ := h.at1 (i := i) (List.getElem?_eq_getElem hi) rfl
  have hr' : [u] = [.int k xs[i]] := hr
  injection hr' with hr' _
  subst hr'
  exact ⟨ad, e, hs, hc⟩
theorem Sl.bool {A : Option Addr} {xs : List Bool} (h : Sl rBool w S A xs) {i : Nat} (hi : i < xs.length) : ∃ ad, A = some ad ∧ S ad.block ∧ w.cell? (ad.add i) = some (.bool xs[i]) := by
  obtain ⟨ad, u, e, hs, hr, hc⟩ := h.at1 (i := i) (List.getElem?_eq_getElem hi) rfl
  have hr' : [u] = [.bool xs[i]] := hr
  injection hr' with hr' _
  subst hr'
  exact ⟨ad, e, hs, hc⟩
end
/-- A slice inside a value: one cell. -/
def rSl {α : Type} (r : Rep α) : Rep (List α) where
  size := 1
  R := fun w S xs cs => ∃ A c, cs = [.slice A xs.length c] ∧ xs.length ≤ c ∧ c ≤ maxLen ∧ Sl r w S A xs
  len := fun ⟨_, _, e, _⟩ => by rw [e]; rfl
  keep := fun ⟨A, c, e, h1, h2, h⟩ hk => ⟨A, c, e, h1, h2, h.keep hk⟩
  mono := fun ⟨A, c, e, h1, h2, h⟩ hm => ⟨A, c, e, h1, h2, h.mono hm⟩

/-! ### a row of the call's own -/
inductive All2 {α : Type} (R : α → List Value → Prop) : List α → List (List Value) → Prop
  | nil : All2 R [] []
  | cons {x cs xs css} : R x cs → All2 R xs css → All2 R (x :: xs) (cs :: css)
theorem All2.mono {α : Type} {R R' : α → List Value → Prop} {xs : List α} {css : List (List Value)} (h : All2 R xs css) (hm : ∀ x cs, R x cs → R' x cs) : All2 R' xs css := by
  induction h with
  | nil => exact .nil
  | cons a _ ih => exact .cons (hm _ _ a) ih
theorem All2.snoc {α : Type} {R : α → List Value → Prop} {xs : List α} {css : List (List Value)} {x : α} {cs : List Value} (h : All2 R xs css) (hx : R x cs) : All2 R (xs ++ [x]) (css ++ [cs]) := by
  induction h with
  | nil => exact .cons hx .nil
  | cons a _ ih => exact .cons a ih
theorem All2.append {α : Type} {R : α → List Value → Prop} {xs ys : List α} {css dss : List (List Value)} (h : All2 R xs css) (h' : All2 R ys dss) : All2 R (xs ++ ys) (css ++ dss) := by
  induction h with
  | nil => exact h'
  | cons a _ ih => exact .cons a ih
theorem All2.get {α : Type} {R : α → List Value → Prop} {xs : List α} {css : List (List Value)} (h : All2 R xs css) {i : Nat} {x : α} (hx : xs[i]? = some x) : ∃ cs, css[i]? = some cs ∧ R x cs := by
  induction h generalizing i with
  | nil => simp at hx
  | @cons y cs xs css a _ ih =>
    cases i with
    | zero => simp at hx; subst hx; exact ⟨cs, rfl, a⟩
    | succ i => simp at hx; simpa using ih hx
theorem flatten_get {size : Nat} : ∀ {css : List (List Value)} (_ : ∀ cs ∈ css, cs.length = size) {i : Nat} {cs : List Value} (_ : css[i]? = some cs) {j : Nat} {u : Value} (_ : cs[j]? = some u), css.flatten[i * size + j]? = some u
  | [], _, _, _, hi, _, _, _ => by simp at hi
  | d :: css, hl, i, cs, hi, j, u, hu => by
    have hd : d.length = size := hl d (by simp)
    cases i with
    | zero =>
      simp at hi
      subst hi
      have hj : j < d.length := (List.getElem?_eq_some_iff.1 hu).1
      rw [List.flatten_cons, Nat.zero_mul, Nat.zero_add, List.getElem?_append_left hj]
      exact hu
    | succ i =>
      simp at hi
      rw [List.flatten_cons, List.getElem?_append_right (by rw [hd, Nat.succ_mul]; omega), hd]
      rw [show (i + 1) * size + j - size = i * size + j from by rw [Nat.succ_mul]; omega]
      exact flatten_get (fun cs h => hl cs (by simp [h])) hi hu
theorem All2.lens {α : Type} {r : Rep α} {w : World} {S : Nat → Prop} {xs : List α} {css : List (List Value)} (h : All2 (r.R w S) xs css) : ∀ cs ∈ css, cs.length = r.size := by
  induction h with
  | nil => intro cs hc; simp at hc
  | cons a _ ih =>
    intro cs hc
    rcases List.mem_cons.1 hc with rfl | hc
    · exact r.len a
    · exact ih cs hc
theorem All2.length {α : Type} {R : α → List Value → Prop} {xs : List α} {css : List (List Value)} (h : All2 R xs css) : xs.length = css.length := by
  induction h with
  | nil => rfl
  | cons _ _ ih => simp [ih]

/-- The slice v, of n elements, owns its row, which reads as xs; S: the other blocks that its elements look into. -/
structure Own {α : Type} (r : Rep α) (w : World) (S : Nat → Prop) (base : Nat) (e : TypeId) (v : Value) (n : Nat) (xs : List α) : Prop where
  len : xs.length = n
  off : ∀ b, S b → b < w.heap.size ∧ some b ≠ v.ownBlock
  row : ∃ css, All2 (r.R w S) xs css ∧ w.ownsRow base e r.size v n css.flatten
section
variable {α : Type} {r : Rep α} {w w' : World} {S S' : Nat → Prop} {base n : Nat} {e : TypeId} {v : Value} {xs : List α}
theorem Own.nil (r : Rep α) (w : World) {S : Nat → Prop} (hS : ∀ b, S b → b < w.heap.size) (base : Nat) (e : TypeId) : Own r w S base e (.slice none 0 0) 0 [] :=
  ⟨rfl, fun b h => ⟨hS b h, by simp [Value.ownBlock]⟩, [], .nil, by simpa using World.ownsRow_nil w base e r.size⟩
theorem Own.lt (h : Own r w S base e v n xs) : ∀ k, v.ownBlock = some k → base ≤ k ∧ k < w.heap.size := by
  obtain ⟨_, _, hr⟩ := h.row
  exact hr.lt
theorem Own.kept {row : Option Nat} (h : Own r w S base e v n xs) (hg : w.grownBy w' row) (hne : v.ownBlock = none ∨ v.ownBlock ≠ row) (hS : ∀ b, S b → some b ≠ row) : Own r w' S base e v n xs := by
  obtain ⟨css, h1, h2⟩ := h.row
  exact ⟨h.len, fun b hb => ⟨Nat.lt_of_lt_of_le (h.off b hb).1 hg.size, (h.off b hb).2⟩, css, h1.mono fun x cs hx => r.keep hx fun b hb => hg.block b (h.off b hb).1 (hS b hb), h2.kept hg hne⟩
theorem Own.call (h : Own r w S base e v n xs) (hb : Below w.heap.size w w') : Own r w' S base e v n xs :=
  h.kept (grown_below hb none) (by cases v.ownBlock <;> simp) (fun _ _ => by simp)
theorem Own.alloc (h : Own r w S base e v n xs) (o : Obj) : Own r (w.alloc o) S base e v n xs := h.kept (World.grownBy_alloc w o none) (by cases v.ownBlock <;> simp) (fun _ _ => by simp)
theorem Own.drewN (h : Own r w S base e v n xs) (k : Nat) : Own r (w.drewN k) S base e v n xs := by
  obtain ⟨css, h1, h2⟩ := h.row
  exact ⟨h.len, h.off, css, h1.mono fun x cs hx => r.keep hx fun b _ => rfl, h2⟩
theorem Own.form (h : Own r w S base e v n xs) (h0 : 0 < n) : ∃ g cap, v = .slice (some ⟨g, 0, none⟩) n cap ∧ n ≤ cap ∧ base ≤ g ∧ g < w.heap.size := by
  obtain ⟨css, h1, h2⟩ := h.row
  rcases h2.2 with ⟨_, h3⟩ | ⟨g, cap, cur, h3, h4, h5, h6, _⟩
  · omega
  · exact ⟨g, cap, h3, h6, h4, (Array.getElem?_eq_some_iff.1 h5).1⟩
theorem Own.set_ (h : Own r w S base e v n xs) {p : Addr} (hne : some p.block ≠ v.ownBlock) (hS : ∀ b, S b → b ≠ p.block) (u : Value) : Own r (w.setCell p u) S base e v n xs :=
  h.kept (row := some p.block) ⟨rfl, rfl, rfl, by simp [World.setCell], fun k _ hk => Below.heap_setCell _ _ _ _ (fun e => hk (by rw [e]))⟩ (.inr (Ne.symm hne)) (fun b hb he => hS b hb (by injection he))
theorem Own.lower (h : Own r w S base e v n xs) {base' : Nat} (hb : base' ≤ base) : Own r w S base' e v n xs := by
  obtain ⟨css, h1, h2⟩ := h.row
  refine ⟨h.len, h.off, css, h1, h2.1, ?_⟩
  rcases h2.2 with h3 | ⟨g, cap, cur, h3, h4, h5⟩
  · exact .inl h3
  · exact .inr ⟨g, cap, cur, h3, Nat.le_trans hb h4, h5⟩
theorem Own.mono (h : Own r w S base e v n xs) (hm : ∀ b, S b → S' b) (hS : ∀ b, S' b → b < w.heap.size ∧ some b ≠ v.ownBlock) : Own r w S' base e v n xs := by
  obtain ⟨css, h1, h2⟩ := h.row
  exact ⟨h.len, hS, css, h1.mono fun x cs hx => r.mono hx hm, h2⟩
/-- The shape, and the reading. -/
theorem Own.sl (h : Own r w S base e v n xs) : ∃ A c, v = .slice A n c ∧ n ≤ c ∧ c ≤ maxLen ∧ Sl r w (fun b => S b ∨ some b = v.ownBlock) A xs := by
  obtain ⟨css, h1, h2⟩ := h.row
  have hln := h.len
  rcases h2.2 with ⟨rfl, h0⟩ | ⟨g, cap, cur, rfl, _, hg, hnc, hcm, hsz, htk⟩
  · subst h0
    have hx : xs = [] := List.eq_nil_of_length_eq_zero hln
    subst hx
    exact ⟨none, 0, rfl, Nat.le_refl _, by simp [maxLen], Sl.nil _⟩
  · refine ⟨some ⟨g, 0, none⟩, cap, rfl, hnc, hcm, fun i x hx => ?_⟩
    obtain ⟨cs, hcs, hR⟩ := h1.get hx
    refine ⟨⟨g, 0, none⟩, cs, rfl, .inr (by simp [Value.ownBlock]), r.mono hR fun _ hb => .inl hb, fun j u hu => ?_⟩
    have hfl := flatten_get h1.lens hcs hu
    rw [← htk] at hfl
    have ha : (⟨g, 0, none⟩ : Addr).add (i * r.size + j) = ⟨g, i * r.size + j, none⟩ := by unfold Addr.add; split <;> simp_all
    rw [ha, cell_of_row w g _ cur e (0, 0) hg]
    rw [List.getElem?_take] at hfl
    split at hfl
    · simpa using hfl
    · cases hfl
end

/-- What a slice type says of its elements. -/
structure ElemT (P : Program) (t e : TypeId) (size bytes : Nat) : Prop where
  und : P.underlying t = some (.slice e)
  info : ∃ i z, P.info? e = some i ∧ i.zero = some z ∧ i.size = size ∧ i.bytes = bytes ∧ z.cells.size = size
  pos : 0 < size
theorem ElemT.mk' {P : Program} {t e : TypeId} {size bytes : Nat} {z : Value} (und : P.underlying t = some (.slice e)) (h : (P.info? e).map (fun i => (i.zero, i.size, i.bytes)) = some (some z, size, bytes)) (hz : z.cells.size = size) (pos : 0 < size) : ElemT P t e size bytes := by
  obtain ⟨i, h1, h2, h3, h4⟩ := info_parts h
  exact ⟨und, ⟨i, z, h1, h2, h3, h4, hz⟩, pos⟩
theorem news_at {V : World} {g : Nat} {e : TypeId} {fr : Nat × Nat} {cs : Array Value} (h : V.heap[g]? = some (.cells cs e fr)) : ∀ (j : Nat) (u : Value), cs.toList[j]? = some u → V.cell? ((⟨g, 0, none⟩ : Addr).add j) = some u := by
  intro j u hu
  rw [add_plain', Nat.zero_add, cell_of_row V g j cs e fr h]
  simpa using hu
/-- append of one element, whose cells cs lie at ad. -/
theorem wp_app1 {α : Type} {r : Rep α} {P : Program} {V : World} {o : Oper} {a : Act} {K : Act → World → Prop} {Q : Exit → Act → World → Prop} {S : Nat → Prop} {base n bytes : Nat} {e : TypeId} {v : Value} {xs : List α}
    (s x : Operand) (t : TypeId) (ho : o.op = .call { callee := .builtin .append, args := #[s, x], argTypes := #[t, t] }) (E : ElemT P t e r.size bytes)
    (hs : a.eval s = v) (hown : Own r V S base e v n xs) (ad : Addr) (y : α) (cs : List Value) (hy : r.R V S y cs) (hnews : ∀ j u, cs[j]? = some u → V.cell? (ad.add j) = some u) (h1 : ∀ u ∈ cs, u.oneCell' = true)
    (c : Nat) (hx : a.eval x = .slice (some ad) 1 c) (hn : (n + 1) * bytes ≤ 140737488355328) (hn' : n + 1 ≤ maxLen) (hbase : base ≤ V.heap.size)
    (h : ∀ g cap w', Own r w' S base e (.slice (some ⟨g, 0, none⟩) (n + 1) cap) (n + 1) (xs ++ [y]) → V.grownBy w' v.ownBlock → (v.ownBlock = some g ∨ g = V.heap.size) → K (a.put o.dst (.slice (some ⟨g, 0, none⟩) (n + 1) cap)) w') :
    o.wp P a V K Q := by
  obtain ⟨ht, ⟨i, z, hi, hz, hsize, hby, hzs⟩, hsz⟩ := E
  obtain ⟨css, hA, hrow⟩ := hown.row
  have hlen := r.len hy
  refine wp_append_lies V s x t ho base e i z r.size bytes ht hi hz hsize hby hzs hsz v n css.flatten hs hrow ad 1 c cs hx (by simpa using hlen) hnews h1 (by omega) hn' hn hbase V.heap.size rfl fun g cap w' h2 h3 h4 _ => ?_
  refine h g cap w' ?_ h3 h4
  have hk : ∀ b, S b → w'.heap[b]? = V.heap[b]? := fun b hb => h3.block b (hown.off b hb).1 (hown.off b hb).2
  refine ⟨by simp [hown.len], fun b hb => ⟨Nat.lt_of_lt_of_le (hown.off b hb).1 h3.size, ?_⟩, css ++ [cs], ?_, ?_⟩
  · rcases h4 with e | e
    · have := (hown.off b hb).2
      rw [e] at this
      simpa [Value.ownBlock] using this
    · have := (hown.off b hb).1
      subst e
      simp [Value.ownBlock]
      omega
  · exact (hA.mono fun x cs hx => r.keep hx hk).snoc (r.keep hy hk)
  · rw [List.flatten_append]; simpa using h2
theorem wpList_app1 {α : Type} {r : Rep α} {P : Program} {V : World} {ops : Array Oper} {rest : List Oper} {o : Oper} {a : Act} {Q : Exit → Act → World → Prop} {S : Nat → Prop} {base n bytes : Nat} {e : TypeId} {v : Value} {xs : List α}
    (hgd : o.guard = none) (s x : Operand) (t : TypeId) (ho : o.op = .call { callee := .builtin .append, args := #[s, x], argTypes := #[t, t] }) (E : ElemT P t e r.size bytes)
    (hs : a.eval s = v) (hown : Own r V S base e v n xs) (ad : Addr) (y : α) (cs : List Value) (hy : r.R V S y cs) (hnews : ∀ j u, cs[j]? = some u → V.cell? (ad.add j) = some u) (h1 : ∀ u ∈ cs, u.oneCell' = true)
    (c : Nat) (hx : a.eval x = .slice (some ad) 1 c) (hn : (n + 1) * bytes ≤ 140737488355328) (hn' : n + 1 ≤ maxLen) (hbase : base ≤ V.heap.size)
    (h : ∀ g cap w', Own r w' S base e (.slice (some ⟨g, 0, none⟩) (n + 1) cap) (n + 1) (xs ++ [y]) → V.grownBy w' v.ownBlock → (v.ownBlock = some g ∨ g = V.heap.size) → wpList P ops Q rest (a.put o.dst (.slice (some ⟨g, 0, none⟩) (n + 1) cap)) w') :
    wpList P ops Q (o :: rest) a V :=
  wpList_plain hgd fun _ hK => wp_app1 s x t ho E hs hown ad y cs hy hnews h1 c hx hn hn' hbase fun g cap w' h2 h3 h4 => hK _ _ (h g cap w' h2 h3 h4)
theorem step_app1 {α : Type} {r : Rep α} {P : Program} {V : World} {ops : Array Oper} {o : Oper} {a : Act} {K : Act → World → Prop} {Q : Exit → Act → World → Prop} {EE : Prop} {S : Nat → Prop} {base n bytes : Nat} {e : TypeId} {v : Value} {xs : List α}
    (hgd : o.guard = none) (s x : Operand) (t : TypeId) (ho : o.op = .call { callee := .builtin .append, args := #[s, x], argTypes := #[t, t] }) (E : ElemT P t e r.size bytes)
    (hs : a.eval s = v) (hown : Own r V S base e v n xs) (ad : Addr) (y : α) (cs : List Value) (hy : r.R V S y cs) (hnews : ∀ j u, cs[j]? = some u → V.cell? (ad.add j) = some u) (h1 : ∀ u ∈ cs, u.oneCell' = true)
    (c : Nat) (hx : a.eval x = .slice (some ad) 1 c) (hn : (n + 1) * bytes ≤ 140737488355328) (hn' : n + 1 ≤ maxLen) (hbase : base ≤ V.heap.size)
    (h : ∀ g cap w', Own r w' S base e (.slice (some ⟨g, 0, none⟩) (n + 1) cap) (n + 1) (xs ++ [y]) → V.grownBy w' v.ownBlock → (v.ownBlock = some g ∨ g = V.heap.size) → K (a.put o.dst (.slice (some ⟨g, 0, none⟩) (n + 1) cap)) w') :
    if Region.wanted o (yielded ops a.tmps) = true then Oper.wp P o a V K Q else EE := by
  have hw : Region.wanted o (yielded ops a.tmps) = true := by simp [Region.wanted, hgd]
  rw [if_pos hw]
  exact wp_app1 s x t ho E hs hown ad y cs hy hnews h1 c hx hn hn' hbase h
theorem flatten_find {size : Nat} (hpos : 0 < size) : ∀ {css : List (List Value)} (_ : ∀ cs ∈ css, cs.length = size) {j : Nat} {u : Value} (_ : css.flatten[j]? = some u), ∃ i q cs, css[i]? = some cs ∧ cs[q]? = some u ∧ j = i * size + q
  | [], _, _, _, hu => by simp at hu
  | d :: css, hl, j, u, hu => by
    have hd : d.length = size := hl d (by simp)
    rw [List.flatten_cons] at hu
    rcases Nat.lt_or_ge j size with h | h
    · rw [List.getElem?_append_left (by omega)] at hu
      exact ⟨0, j, d, rfl, hu, by omega⟩
    · rw [List.getElem?_append_right (by omega), hd] at hu
      obtain ⟨i, q, cs, h1, h2, h3⟩ := flatten_find hpos (fun cs h => hl cs (by simp [h])) hu
      exact ⟨i + 1, q, cs, by simpa using h1, h2, by rw [Nat.succ_mul]; omega⟩
theorem Sl.all {α : Type} {r : Rep α} {w : World} {S : Nat → Prop} {A : Option Addr} {ys : List α} (h : Sl r w S A ys) : ∃ css, All2 (r.R w S) ys css ∧ ∀ i cs, css[i]? = some cs → ∃ ad, A = some ad ∧ ∀ j u, cs[j]? = some u → w.cell? (ad.add (i * r.size + j)) = some u := by
  have key : ∀ k, k ≤ ys.length → ∃ css, All2 (r.R w S) (ys.take k) css ∧ ∀ i cs, css[i]? = some cs → ∃ ad, A = some ad ∧ ∀ j u, cs[j]? = some u → w.cell? (ad.add (i * r.size + j)) = some u := by
    intro k
    induction k with
    | zero => exact fun _ => ⟨[], .nil, fun i cs h => by simp at h⟩
    | succ k ih =>
      intro hk
      obtain ⟨css, h1, h2⟩ := ih (by omega)
      obtain ⟨ad, cs, e, _, hr, hc⟩ := h k ys[k] (List.getElem?_eq_getElem (by omega))
      have hl : css.length = k := by rw [← h1.length, List.length_take]; omega
      refine ⟨css ++ [cs], by rw [List.take_succ_eq_append_getElem (by omega)]; exact h1.snoc hr, fun i cs' hi => ?_⟩
      rw [List.getElem?_append] at hi
      split at hi
      · exact h2 i cs' hi
      · have hik : i = k := by
          have := (List.getElem?_eq_some_iff.1 hi).1
          simp at this
          omega
        subst hik
        rw [hl, Nat.sub_self] at hi
        injection hi with hi
        subst hi
        exact ⟨ad, e, hc⟩
  have := key ys.length (Nat.le_refl _)
  rwa [List.take_length] at this
/-- append(v, ys...), the source nil, empty or not. -/
theorem wp_appSl {α : Type} {r : Rep α} {P : Program} {V : World} {o : Oper} {a : Act} {K : Act → World → Prop} {Q : Exit → Act → World → Prop} {S S' : Nat → Prop} {base n m bytes : Nat} {e : TypeId} {v : Value} {xs ys : List α}
    (s x : Operand) (t : TypeId) (ho : o.op = .call { callee := .builtin .append, args := #[s, x], argTypes := #[t, t] }) (E : ElemT P t e r.size bytes)
    (hs : a.eval s = v) (hown : Own r V S base e v n xs) {A : Option Addr} {c : Nat} (hys : Sl r V S' A ys) (hm : ys.length = m) (hR : ∀ y cs, r.R V S' y cs → r.R V S y cs ∧ ∀ u ∈ cs, u.oneCell' = true)
    (hx : a.eval x = .slice A m c) (hn : (n + m) * bytes ≤ 140737488355328) (hn' : n + m ≤ maxLen) (hbase : base ≤ V.heap.size)
    (h : ∀ v' w', Own r w' S base e v' (n + m) (xs ++ ys) → V.grownBy w' v.ownBlock → (v'.ownBlock = v.ownBlock ∨ v'.ownBlock = some V.heap.size) → (v' = .slice none 0 0 → v = .slice none 0 0 ∧ m = 0) → K (a.put o.dst v') w') :
    o.wp P a V K Q := by
  obtain ⟨ht, ⟨i, z, hi, hz, hsize, hby, hzs⟩, hsz⟩ := E
  obtain ⟨css, hA, hrow⟩ := hown.row
  obtain ⟨dss, hB, hcells⟩ := hys.all
  have hB' : All2 (r.R V S) ys dss := hB.mono fun y cs hy => (hR y cs hy).1
  have hlen : dss.flatten.length = m * r.size := by
    have h1 : ∀ (l : List (List Value)), (∀ cs ∈ l, cs.length = r.size) → l.flatten.length = l.length * r.size := by
      intro l hl
      induction l with
      | nil => simp
      | cons d l ih => rw [List.flatten_cons, List.length_append, hl d (by simp), ih (fun cs h => hl cs (by simp [h])), List.length_cons, Nat.succ_mul]; omega
    rw [h1 dss hB.lens, ← hB.length, hm]
  have hone : ∀ u ∈ dss.flatten, u.oneCell' = true := by
    intro u hu
    obtain ⟨cs, hcs, hu'⟩ := List.mem_flatten.1 hu
    have : ∀ {ys : List α} {dss : List (List Value)}, All2 (r.R V S') ys dss → ∀ cs ∈ dss, ∃ y, r.R V S' y cs := by
      intro ys dss h
      induction h with
      | nil => intro cs hc; simp at hc
      | @cons y d ys dss a _ ih =>
        intro cs hc
        rcases List.mem_cons.1 hc with rfl | hc
        · exact ⟨y, a⟩
        · exact ih cs hc
    obtain ⟨y, hy⟩ := this hB cs hcs
    exact (hR y cs hy).2 u hu'
  have fin : ∀ v' w', w'.ownsRow base e r.size v' (n + m) (css.flatten ++ dss.flatten) → V.grownBy w' v.ownBlock → (v'.ownBlock = v.ownBlock ∨ v'.ownBlock = some V.heap.size) → Own r w' S base e v' (n + m) (xs ++ ys) := by
    intro v' w' h2 h3 h4
    have hk : ∀ b, S b → w'.heap[b]? = V.heap[b]? := fun b hb => h3.block b (hown.off b hb).1 (hown.off b hb).2
    refine ⟨by simp [hown.len, hm], fun b hb => ⟨Nat.lt_of_lt_of_le (hown.off b hb).1 h3.size, ?_⟩, css ++ dss, (hA.mono fun x cs hx => r.keep hx hk).append (hB'.mono fun x cs hx => r.keep hx hk), by rw [List.flatten_append]; exact h2⟩
    rcases h4 with e | e <;> rw [e]
    · exact (hown.off b hb).2
    · intro he; have := (hown.off b hb).1; injection he with he; omega
  unfold Oper.wp execOp
  simp only [ho, resolve, invoke, builtin, Sem.run_bind, Sem.run_pure, Result.andThen_ok, List.map_toArray, List.map_cons, List.map_nil, hs, hx]
  rcases A with _ | ad
  · have hd : dss = [] := by
      cases dss with
      | nil => rfl
      | cons d dss =>
        obtain ⟨_, h0, _⟩ := hcells 0 d rfl
        cases h0
    subst hd
    have h0 : m = 0 := by
      have := hB.length
      simp at this
      rw [← hm, this]; rfl
    subst h0
    have hrun : (Builtin.append_ #[t, t] o.type #[v, .slice none 0 c]).run P V = .ok v V := by
      rcases hrow.2 with ⟨rfl, rfl⟩ | ⟨g, cap, cur, rfl, _, _, hnc, _⟩
      · simp [Builtin.append_, run_underlying ht, sizeOf, typeInfo, hi, Builtin.lenOf, Builtin.firstCells]
      · simp [Builtin.append_, run_underlying ht, sizeOf, typeInfo, hi, Builtin.lenOf, Builtin.firstCells, hnc, storeCells]
    rw [hrun]
    exact h v V (fin v V (by simpa using hrow) (World.grownBy.refl _ _) (.inl rfl)) (World.grownBy.refl _ _) (.inl rfl) (fun e => ⟨e, rfl⟩)
  · have hnews : ∀ j u, dss.flatten[j]? = some u → V.cell? (ad.add j) = some u := by
      intro j u hu
      obtain ⟨i', q, cs, h1, h2, rfl⟩ := flatten_find hsz hB.lens hu
      obtain ⟨ad', e1, hc⟩ := hcells i' cs h1
      injection e1 with e1
      subst e1
      exact hc q u h2
    obtain ⟨v', w', hrun, h2, h3, h6, h5⟩ := run_append_own_at (P := P) V base t o.type e i z r.size bytes ht hi hz hsize hby hzs hsz v n css.flatten hrow ad m c dss.flatten hlen hnews hone hn' hn hbase
    rw [hrun]
    exact h v' w' (fin v' w' h2 h3 h5) h3 h5 h6.1
theorem wpList_appSl {α : Type} {r : Rep α} {P : Program} {V : World} {ops : Array Oper} {rest : List Oper} {o : Oper} {a : Act} {Q : Exit → Act → World → Prop} {S S' : Nat → Prop} {base n m bytes : Nat} {e : TypeId} {v : Value} {xs ys : List α}
    (hgd : o.guard = none) (s x : Operand) (t : TypeId) (ho : o.op = .call { callee := .builtin .append, args := #[s, x], argTypes := #[t, t] }) (E : ElemT P t e r.size bytes)
    (hs : a.eval s = v) (hown : Own r V S base e v n xs) {A : Option Addr} {c : Nat} (hys : Sl r V S' A ys) (hm : ys.length = m) (hR : ∀ y cs, r.R V S' y cs → r.R V S y cs ∧ ∀ u ∈ cs, u.oneCell' = true)
    (hx : a.eval x = .slice A m c) (hn : (n + m) * bytes ≤ 140737488355328) (hn' : n + m ≤ maxLen) (hbase : base ≤ V.heap.size)
    (h : ∀ v' w', Own r w' S base e v' (n + m) (xs ++ ys) → V.grownBy w' v.ownBlock → (v'.ownBlock = v.ownBlock ∨ v'.ownBlock = some V.heap.size) → (v' = .slice none 0 0 → v = .slice none 0 0 ∧ m = 0) → wpList P ops Q rest (a.put o.dst v') w') :
    wpList P ops Q (o :: rest) a V :=
  wpList_plain hgd fun _ hK => wp_appSl s x t ho E hs hown hys hm hR hx hn hn' hbase fun v' w' h2 h3 h4 h5 => hK _ _ (h v' w' h2 h3 h4 h5)
theorem step_appSl {α : Type} {r : Rep α} {P : Program} {V : World} {ops : Array Oper} {o : Oper} {a : Act} {K : Act → World → Prop} {Q : Exit → Act → World → Prop} {EE : Prop} {S S' : Nat → Prop} {base n m bytes : Nat} {e : TypeId} {v : Value} {xs ys : List α}
    (hgd : o.guard = none) (s x : Operand) (t : TypeId) (ho : o.op = .call { callee := .builtin .append, args := #[s, x], argTypes := #[t, t] }) (E : ElemT P t e r.size bytes)
    (hs : a.eval s = v) (hown : Own r V S base e v n xs) {A : Option Addr} {c : Nat} (hys : Sl r V S' A ys) (hm : ys.length = m) (hR : ∀ y cs, r.R V S' y cs → r.R V S y cs ∧ ∀ u ∈ cs, u.oneCell' = true)
    (hx : a.eval x = .slice A m c) (hn : (n + m) * bytes ≤ 140737488355328) (hn' : n + m ≤ maxLen) (hbase : base ≤ V.heap.size)
    (h : ∀ v' w', Own r w' S base e v' (n + m) (xs ++ ys) → V.grownBy w' v.ownBlock → (v'.ownBlock = v.ownBlock ∨ v'.ownBlock = some V.heap.size) → (v' = .slice none 0 0 → v = .slice none 0 0 ∧ m = 0) → K (a.put o.dst v') w') :
    if Region.wanted o (yielded ops a.tmps) = true then Oper.wp P o a V K Q else EE := by
  have hw : Region.wanted o (yielded ops a.tmps) = true := by simp [Region.wanted, hgd]
  rw [if_pos hw]
  exact wp_appSl s x t ho E hs hown hys hm hR hx hn hn' hbase h
/-- A literal's row. -/
theorem lit_strs {w : World} {cs : Array Value} {e : TypeId} {g : Nat} (hb : Blk w g e cs) (S : Nat → Prop) (hS : S g) (ys : List ByteArray) (h : cs.toList = ys.map Value.string) : Sl rStr w S (some ⟨g, 0, none⟩) ys := fun i x hx => by
  refine ⟨⟨g, 0, none⟩, [.string x], rfl, hS, rfl, fun j u hu => ?_⟩
  match j, hu with
  | 0, hu =>
    simp at hu
    subst hu
    show w.cell? ((⟨g, 0, none⟩ : Addr).add (i * 1 + 0)) = _
    rw [add_plain', hb.cell, ← Array.getElem?_toList, h, List.getElem?_map]
    simp [hx]
/-- The row without what stands behind its first k elements. -/
theorem Own.init {α : Type} {r : Rep α} {w : World} {S : Nat → Prop} {base n k : Nat} {e : TypeId} {g cap : Nat} {xs : List α} (h : Own r w S base e (.slice (some ⟨g, 0, none⟩) n cap) n xs) (hk : k ≤ n) : Own r w S base e (.slice (some ⟨g, 0, none⟩) k cap) k (xs.take k) := by
  obtain ⟨css, h1, h2⟩ := h.row
  have hln := h.len
  refine ⟨by rw [List.length_take]; omega, fun b hb => h.off b hb, css.take k, ?_, ?_⟩
  · have : ∀ {xs : List α} {css : List (List Value)} (k : Nat), All2 (r.R w S) xs css → All2 (r.R w S) (xs.take k) (css.take k) := by
      intro xs css k h
      induction h generalizing k with
      | nil => simpa using .nil
      | cons a _ ih =>
        cases k with
        | zero => simpa using .nil
        | succ k => simpa using .cons a (ih k)
    exact this k h1
  · have hcl : css.length = n := by rw [← h1.length, hln]
    have hfl : ∀ (l : List (List Value)) (k : Nat), (∀ cs ∈ l, cs.length = r.size) → (l.take k).flatten = l.flatten.take (k * r.size) := by
      intro l
      induction l with
      | nil => intro k _; simp
      | cons d l ih =>
        intro k hl
        cases k with
        | zero => simp
        | succ k =>
          have hd := hl d (by simp)
          rw [List.take_succ_cons, List.flatten_cons, List.flatten_cons, ih k (fun cs h => hl cs (by simp [h])), List.take_append, List.take_of_length_le (l := d) (by rw [hd, Nat.succ_mul]; omega), hd, Nat.succ_mul, Nat.add_sub_cancel]
    rcases h2.2 with ⟨e1, _⟩ | ⟨g', cap', cur, e1, hb, hg, hnc, hcm, hsz, htk⟩
    · cases e1
    · injection e1 with e1 _ e2
      injection e1 with e1
      injection e1 with e1 _
      subst e1 e2
      refine ⟨?_, .inr ⟨g, cap, cur, rfl, hb, hg, by omega, hcm, hsz, ?_⟩⟩
      · rw [hfl css k h1.lens, List.length_take, h2.1]
        exact Nat.min_eq_left (Nat.mul_le_mul_right _ hk)
      · rw [hfl css k h1.lens, ← htk, List.take_take, Nat.min_eq_left (Nat.mul_le_mul_right _ hk)]
end Go.Proofs.Ythfoaehjnoiniaa
