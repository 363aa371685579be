/- label.Make: the table while its ones are set. No condition. -/
import Derived.Test.YthfoaehjnoiniaaLabR
namespace Go.Proofs.Ythfoaehjnoiniaa
open Go.RowKit
theorem idx_mem {names : List ByteArray} {s : ByteArray} (h : s ∈ names) : ∃ x : Nat, Lib.idxOfS names s = (x : Int) ∧ x < names.length := by
  have hex : ∃ k, k < names.length ∧ names.getD k ByteArray.empty = s := by
    obtain ⟨i, hi, rfl⟩ := List.getElem_of_mem h
    exact ⟨i, hi, by rw [List.getD_eq_getElem?_getD, List.getElem?_eq_getElem hi]; rfl⟩
  have hmin : ∀ k, k < names.length → names.getD k ByteArray.empty = s → ∃ j, j < names.length ∧ names.getD j ByteArray.empty = s ∧ ∀ i, i < j → names.getD i ByteArray.empty ≠ s := by
    intro k
    induction k using Nat.strongRecOn with
    | _ k ih =>
      intro hk he
      by_cases hall : ∀ i, i < k → names.getD i ByteArray.empty ≠ s
      · exact ⟨k, hk, he, hall⟩
      · have : ∃ i, i < k ∧ names.getD i ByteArray.empty = s := by
          refine Classical.byContradiction fun hno => hall fun i hi he => hno ⟨i, hi, he⟩
        obtain ⟨i, hi, he'⟩ := this
        exact ih i hi (by omega) he'
  obtain ⟨k, hk, he⟩ := hex
  obtain ⟨j, hj, he, hall⟩ := hmin k hk he
  refine ⟨j, ?_, hj⟩
  have := Lib.idxOfS_hit names names.length j s hj (Nat.le_refl _) he hall
  rwa [List.take_of_length_le (Nat.le_refl _)] at this
theorem MkI.mat' {wo wr : World} {An : Option Addr} {q : Nat} {v : Value} {gs : List Nat} (H : MkI wo wr An q q v gs) (hq : 0 < q) : ∃ ob cap gf, v = .slice (some ⟨ob, 0, none⟩) q cap ∧ wo.heap.size ≤ ob ∧ BMat wr ob gf q (fun a b => decide (a = b)) ∧ ∀ i, i < q → wo.heap.size ≤ gf i := by
  obtain ⟨ob, cap, h1, h2, h3, h4⟩ := H.mat hq
  exact ⟨ob, cap, _, h1, h2, h3, h4⟩
theorem M0_nil (names : List ByteArray) : M0 names [] = fun a b => decide (a = b) := by
  funext a b
  simp [M0]
theorem M0_none {names : List ByteArray} {l : List Prm} {p : Prm} (h : p.2.1.size = 0) : M0 names (l ++ [p]) = M0 names l := by
  funext a b
  unfold M0
  rw [List.any_append]
  have e : setBy names p a b = false := by unfold setBy; rw [decide_eq_true h]; rfl
  simp only [List.any_cons, List.any_nil, e, Bool.or_false]
theorem M0_set {names : List ByteArray} {l : List Prm} {p : Prm} {x y : Nat} (h : ¬ p.2.1.size = 0) (hx : Lib.idxOfS names p.1 = (x : Int)) (hy : Lib.idxOfS names p.2.1 = (y : Int)) : M0 names (l ++ [p]) = upd2 (M0 names l) x y true := by
  funext a b
  unfold M0 upd2
  rw [List.any_append]
  have e : setBy names p a b = decide (a = x ∧ b = y) := by
    unfold setBy
    rw [hx, hy]
    have h1 : (decide ((x : Int) = (a : Int)) : Bool) = decide (a = x) := by
      by_cases hh : a = x
      · subst hh; simp
      · have : ¬ (x : Int) = (a : Int) := fun e => hh (by omega)
        simp [hh, this]
    have h2 : (decide ((y : Int) = (b : Int)) : Bool) = decide (b = y) := by
      by_cases hh : b = y
      · subst hh; simp
      · have : ¬ (y : Int) = (b : Int) := fun e => hh (by omega)
        simp [hh, this]
    rw [h1, h2]
    simp [h]
  simp only [List.any_cons, List.any_nil, Bool.or_false, e]
  by_cases hab : a = x ∧ b = y
  · simp [hab]
  · simp [hab]
/-- t with its table. -/
structure MkL (wo wr : World) (An : Option Addr) (q ob cL : Nat) (gf : Nat → Nat) (M : Tab) : Prop where
  box : Blk wr wo.heap.size 42 #[.slice An q q, .slice (some ⟨ob, 0, none⟩) q cL, .slice none 0 0, .slice none 0 0, .int .i64 0, .int .i64 0]
  mat : BMat wr ob gf q M
  nx : Below wo.heap.size wo wr
  lo : ∀ i, i < q → wo.heap.size ≤ gf i
section
variable {wo wr w1 : World} {An : Option Addr} {q ob cL pv : Nat} {gf : Nat → Nat} {M M' : Tab} {vx vy vz : Value}
theorem MkL.call (h : MkL wo wr An q ob cL gf M) (hb : Below wr.heap.size wr w1) : MkL wo w1 An q ob cL gf M := ⟨h.box.call hb, h.mat.call hb, below_call h.nx hb, h.lo⟩
theorem MkL.alloc (h : MkL wo wr An q ob cL gf M) (o : Obj) : MkL wo (wr.alloc o) An q ob cL gf M := h.call ((Below.refl _ _).alloc (Nat.le_refl _) _)
theorem MkL.drewN (h : MkL wo wr An q ob cL gf M) (k : Nat) : MkL wo (wr.drewN k) An q ob cL gf M := h.call (below_drew' (Below.refl _ _) k)
theorem BMat.blk_ne {w : World} {ob' g : Nat} {gs : Nat → Nat} {n i : Nat} {T : Tab} {t : TypeId} {cs : Array Value} (h : BMat w ob' gs n T) (hi : i < n) (hb : Blk w g t cs) (hne : t ≠ 4) : g ≠ gs i := by
  obtain ⟨R, h1, _⟩ := h.row i hi
  exact hb.ne_ (t' := 4) h1 hne
theorem MkL.set (h : MkL wo wr An q ob cL gf M) {x y : Nat} (hx : x < q) (hy : y < q) : MkL wo (wr.setCell ⟨gf x, y, none⟩ (.bool true)) An q ob cL gf (upd2 M x y true) :=
  ⟨h.box.far (h.mat.blk_ne hx h.box (by decide)) _, h.mat.set hx hy true, h.nx.setCell (h.lo x hx) _, h.lo⟩
/-- What the statement t.Le[Place(t, p.Name)][Place(t, p.Label)] = true loads. -/
theorem MkL.loads (h : MkL wo wr An q ob cL gf M) (hp : Blk wr pv 56 #[vx, vy, vz]) {x : Nat} {cx : Nat} (hc : wr.cell? ⟨ob, x, none⟩ = some (.slice (some ⟨gf x, 0, none⟩) q cx)) :
    wr.cell? ⟨wo.heap.size, 0, none⟩ = some (.slice An q q) ∧ wr.cell? ⟨wo.heap.size, 1, none⟩ = some (.slice (some ⟨ob, 0, none⟩) q cL) ∧ wr.cell? ⟨wo.heap.size, 2, none⟩ = some (.slice none 0 0) ∧ wr.cell? ⟨wo.heap.size, 3, none⟩ = some (.slice none 0 0) ∧ wr.cell? ⟨wo.heap.size, 4, none⟩ = some (.int .i64 0) ∧ wr.cell? ⟨wo.heap.size, 5, none⟩ = some (.int .i64 0) ∧
    wr.cell? ⟨pv, 0, none⟩ = some vx ∧ wr.cell? ⟨pv, 1, none⟩ = some vy ∧ wr.cell? ⟨ob, x, none⟩ = some (.slice (some ⟨gf x, 0, none⟩) q cx) :=
  ⟨h.box.cell 0, h.box.cell 1, h.box.cell 2, h.box.cell 3, h.box.cell 4, h.box.cell 5, hp.cell 0, hp.cell 1, hc⟩
end
end Go.Proofs.Ythfoaehjnoiniaa
