/- label.Make: the table while its rows are made. No condition. -/
import Derived.Test.YthfoaehjnoiniaaLatR
import Derived.Deep.OwnRows
namespace Go.Proofs.Ythfoaehjnoiniaa
open Go.RowKit
/-- A row by its block's number. -/
def rRow (q : Nat) : Rep Nat := Rep.flat 1 (fun g => [.slice (some ⟨g, 0, none⟩) q q]) (fun _ => rfl)
theorem E_rowsB : ElemT Try.prog 39 60 1 24 := ElemT.mk' Try.underlying39 (z := .slice none 0 0) (by kernel_rfl) rfl (by decide)
/-- The identity's row. -/
def idRow (q a : Nat) : Array Value := ((List.range q).map fun b => Value.bool (decide (a = b))).toArray
/-- t's box is wo's next block; a rows so far, gs their blocks. -/
structure MkI (wo wr : World) (An : Option Addr) (q a : Nat) (v : Value) (gs : List Nat) : Prop where
  box : Blk wr wo.heap.size 42 #[.slice An q q, v, .slice none 0 0, .slice none 0 0, .int .i64 0, .int .i64 0]
  own : Own (rRow q) wr NoB wo.heap.size 60 v a gs
  rows : ∀ i g, gs[i]? = some g → wo.heap.size ≤ g ∧ Blk wr g 4 (idRow q i)
  inj : gs.Nodup
  nx : Below wo.heap.size wo wr
theorem MkI.start (wo : World) (An : Option Addr) (q : Nat) : MkI wo (wo.alloc (.cells #[.slice An q q, .slice none 0 0, .slice none 0 0, .slice none 0 0, .int .i64 0, .int .i64 0] 42)) An q 0 (.slice none 0 0) [] :=
  ⟨Blk.new _ _ _, Own.nil _ _ (fun _ h => h.elim) _ _, fun i g h => by simp at h, List.nodup_nil, (Below.refl _ _).alloc (Nat.le_refl _) _⟩
def zRow (q : Nat) : Array Value := (List.replicate q (Value.bool false)).toArray
theorem made_zRow (q : Nat) : madeCells #[.bool false] q = zRow q := by
  unfold madeCells zRow
  apply Array.ext
  · simp
  · intro i h1 h2
    simp at h1
    simp [Nat.mod_one]
theorem run_mkRow (q : Nat) (hq : q ≤ 1000000) (W : World) : (Instr.makeSlice 60 (.int .i64 (q : Int)) (.int .i64 (q : Int))).run Try.prog W = .ok (.slice (some ⟨W.heap.size, 0, none⟩) q q) (W.alloc (.cells (zRow q) 4)) := by
  have := run_make_row' (P := Try.prog) 60 4 (.bool false) 1 Try.underlying60 (by kernel_rfl) rfl .i64 .i64 q (by omega) (by omega) W
  rw [made_zRow] at this
  exact this
theorem zRow_at {q i : Nat} (h : i < q) : (zRow q)[i]? = some (.bool false) := by simp [zRow, h]
theorem zRow_set {q a : Nat} : (zRow q).setIfInBounds a (.bool true) = idRow q a := by
  unfold zRow idRow
  apply Array.ext
  · simp
  · intro i h1 h2
    simp at h1
    rw [Array.getElem_setIfInBounds (by simpa using h1)]
    by_cases e : a = i
    · subst e; simp
    · rw [if_neg e]; simp [e]
/-- A row more: it is in the table, and still without its one. -/
structure MkJ (wo W : World) (An : Option Addr) (q a : Nat) (v : Value) (gs : List Nat) (h : Nat) : Prop where
  box : Blk W wo.heap.size 42 #[.slice An q q, v, .slice none 0 0, .slice none 0 0, .int .i64 0, .int .i64 0]
  own : Own (rRow q) W NoB wo.heap.size 60 v (a + 1) (gs ++ [h])
  rows : ∀ i g, gs[i]? = some g → wo.heap.size ≤ g ∧ Blk W g 4 (idRow q i)
  new : Blk W h 4 (zRow q)
  base : wo.heap.size ≤ h
  inj : gs.Nodup
  fresh : h ∉ gs
  len : gs.length = a
  nx : Below wo.heap.size wo W
section
variable {wo wr w1 : World} {An : Option Addr} {q a : Nat} {v v' : Value} {gs : List Nat} {h : Nat}
theorem MkI.call (H : MkI wo wr An q a v gs) (hb : Below wr.heap.size wr w1) : MkI wo w1 An q a v gs :=
  ⟨H.box.call hb, H.own.call hb, fun i g hg => ⟨(H.rows i g hg).1, (H.rows i g hg).2.call hb⟩, H.inj, below_call H.nx hb⟩
theorem MkI.toJ (H : MkI wo wr An q a v gs) (hv : Value) (hg : (World.drew ((wr.alloc (.cells (zRow q) 4)).alloc (.cells #[hv] 60))).grownBy w1 v.ownBlock)
    (ho : Own (rRow q) w1 NoB wo.heap.size 60 v' (a + 1) (gs ++ [wr.heap.size])) : MkJ wo (w1.setCell ⟨wo.heap.size, 1, none⟩ v') An q a v' gs wr.heap.size := by
  have hA : Below wr.heap.size wr (World.drew ((wr.alloc (.cells (zRow q) 4)).alloc (.cells #[hv] 60))) := below_drew' (((Below.refl _ _).alloc (Nat.le_refl _) _).alloc (by simp) _) 1
  have H2 := H.call hA
  have hb1 := H2.box.grown hg (H2.own.blk_ne H2.box (by decide))
  have hn : Blk (World.drew ((wr.alloc (.cells (zRow q) 4)).alloc (.cells #[hv] 60))) wr.heap.size 4 (zRow q) := ((Blk.new wr 4 (zRow q)).alloc _).drewN 1
  have hn1 := hn.grown hg (H2.own.blk_ne hn (by decide))
  refine ⟨?_, ho.set_ (ho.blk_ne hb1 (by decide)) (fun _ h => h.elim) _, fun i g hi => ?_, hn1.far (hn1.ne_ hb1 (by decide)) _, H.nx.size, H.inj, fun hm => ?_, H.own.len, ?_⟩
  · exact hb1.set_ 1 v'
  · have h1 := (H2.rows i g hi).2.grown hg (H2.own.blk_ne (H2.rows i g hi).2 (by decide))
    exact ⟨(H.rows i g hi).1, h1.far (h1.ne_ hb1 (by decide)) _⟩
  · obtain ⟨i, hi⟩ := List.getElem?_of_mem hm
    have := (H.rows i _ hi).2.lt
    omega
  · exact (H2.nx.grown hg H2.nx.size (fun k hk => (H.own.lt k hk).1)).setCell (Nat.le_refl _) _
theorem MkJ.drewN (H : MkJ wo wr An q a v gs h) (k : Nat) : MkJ wo (wr.drewN k) An q a v gs h :=
  ⟨H.box.drewN k, H.own.drewN k, fun i g hg => ⟨(H.rows i g hg).1, (H.rows i g hg).2.drewN k⟩, H.new.drewN k, H.base, H.inj, H.fresh, H.len, below_drew' H.nx k⟩
theorem MkJ.done (H : MkJ wo wr An q a v gs h) : MkI wo (wr.setCell ⟨h, a, none⟩ (.bool true)) An q (a + 1) v (gs ++ [h]) := by
  refine ⟨H.box.far (H.box.ne_ H.new (by decide)) _, H.own.set_ (H.own.blk_ne H.new (by decide)) (fun _ h => h.elim) _, fun i g hi => ?_, ?_, H.nx.setCell H.base _⟩
  · rw [List.getElem?_append] at hi
    split at hi
    · obtain ⟨h1, h2⟩ := H.rows i g hi
      exact ⟨h1, h2.far (fun e => H.fresh (by rw [← show g = h from e]; exact List.mem_of_getElem? hi)) _⟩
    · have hia : i = a := by
        have h1 := (List.getElem?_eq_some_iff.1 hi).1
        have h2 := H.len
        rw [List.length_singleton] at h1
        omega
      subst hia
      rw [H.len, Nat.sub_self] at hi
      injection hi with hi
      subst hi
      refine ⟨H.base, ?_⟩
      have := H.new.set_ i (.bool true)
      rw [zRow_set] at this
      exact this
  · rw [List.nodup_append]
    refine ⟨H.inj, by simp, fun x hx y hy e => ?_⟩
    rw [List.mem_singleton.1 hy] at e
    exact H.fresh (e ▸ hx)
/-- The cells that t.Le[a][a] = true goes by. -/
theorem MkJ.cells (H : MkJ wo wr An q a v gs h) (ha : a < q) : ∃ g cap, v = .slice (some ⟨g, 0, none⟩) (a + 1) cap ∧ wr.cell? ⟨wo.heap.size, 1, none⟩ = some v ∧ wr.cell? ⟨g, a, none⟩ = some (.slice (some ⟨h, 0, none⟩) q q) ∧ wr.cell? ⟨h, a, none⟩ = some (.bool false) ∧ wr.frozen? ⟨h, a, none⟩ = false := by
  obtain ⟨g, cap, rfl, h1, h2, h3⟩ := H.own.form (by omega)
  refine ⟨g, cap, rfl, H.box.cell 1, ?_, by rw [H.new.cell]; exact zRow_at ha, H.new.free a⟩
  obtain ⟨A, c, e1, _, _, hs⟩ := H.own.sl
  injection e1 with e1 _ _
  subst e1
  have hx : (gs ++ [h])[a]? = some h := by rw [List.getElem?_append_right (by rw [H.len]; exact Nat.le_refl _), H.len, Nat.sub_self]; rfl
  obtain ⟨ad, u, e2, _, hu, hc⟩ := hs.at1 hx rfl
  injection e2 with e2
  subst e2
  have hu' : [u] = [.slice (some ⟨h, 0, none⟩) q q] := hu
  injection hu' with hu' _
  subst hu'
  rw [add_plain', Nat.zero_add] at hc
  exact hc
theorem MkI.mat (H : MkI wo wr An q q v gs) (hq : 0 < q) : ∃ ob cap, v = .slice (some ⟨ob, 0, none⟩) q cap ∧ wo.heap.size ≤ ob ∧ BMat wr ob (fun i => (gs[i]?).getD 0) q (fun a b => decide (a = b)) ∧ ∀ i, i < q → wo.heap.size ≤ (gs[i]?).getD 0 := by
  obtain ⟨css, hA, hrow⟩ := H.own.row
  have hlen := H.own.len
  have hget : ∀ i, i < q → gs[i]? = some ((gs[i]?).getD 0) := fun i hi => by rw [List.getElem?_eq_getElem (by omega)]; rfl
  rcases hrow.2 with ⟨_, h0⟩ | ⟨g, cap, cur, e1, hb, hh, hn, hc, hsz, htk⟩
  · omega
  · refine ⟨g, cap, e1, hb, ⟨⟨cur, hh, fun i hi => ?_⟩, fun i hi => ?_, fun i j hi hj e => ?_⟩, fun i hi => (H.rows i _ (hget i hi)).1⟩
    · refine ⟨q, ?_, Nat.le_refl _, by unfold maxLen; have : q ≤ cap := hn; have := hc; unfold maxLen at this; omega⟩
      obtain ⟨cs, h1, h2⟩ := hA.get (hget i hi)
      have h2' : cs = [.slice (some ⟨(gs[i]?).getD 0, 0, none⟩) q q] := h2
      subst h2'
      have hf := flatten_get (size := 1) (fun cs hcs => by have := hA.lens cs hcs; exact this) h1 (j := 0) (u := .slice (some ⟨(gs[i]?).getD 0, 0, none⟩) q q) rfl
      rw [← htk, List.getElem?_take] at hf
      split at hf
      · rw [Nat.mul_one, Nat.add_zero] at hf
        rw [← Array.getElem?_toList]; exact hf
      · cases hf
    · refine ⟨idRow q i, (H.rows i _ (hget i hi)).2, fun j hj => ?_⟩
      unfold idRow
      simp [hj]
    · have hi' : i < gs.length := by omega
      have hj' : j < gs.length := by omega
      simp only [List.getElem?_eq_getElem hi', List.getElem?_eq_getElem hj', Option.getD_some] at e
      have hp := List.pairwise_iff_getElem.1 (List.nodup_iff_pairwise_ne.1 H.inj)
      rcases Nat.lt_trichotomy i j with h1 | h1 | h1
      · exact absurd e (hp i j hi' hj' h1)
      · exact h1
      · exact absurd e.symm (hp j i hj' hi' h1)
end
end Go.Proofs.Ythfoaehjnoiniaa
