/- slices.Index, slices.Compact over rows of strings; label.Place by its contract. -/
import Derived.Test.YthfoaehjnoiniaaStrs
namespace Go.Proofs.Ythfoaehjnoiniaa
open Go.RowKit
open Go.Sort (Holds putRow putCells ahead)
/-- Runs of equals are one. -/
def cmp (xs : List ByteArray) : List ByteArray := (Lib.compact (xs.map bs)).map sb
section
variable {w w' : World} {S : Nat → Prop} {base n : Nat} {e : TypeId} {v : Value} {xs : List ByteArray}
theorem index_any {A : Option Addr} {c : Nat} (h : Sl rStr w S A xs) (hn : xs.length = n) (hbig : n ≤ 9223372036854775807) (s : ByteArray) :
    Calls Try.prog 43 #[.slice A n c, .string s] w fun en w' => en = .returned (.int .i64 (Lib.idxOfS xs s)) ∧ w' = w := by
  cases xs with
  | nil =>
    have h0 : n = 0 := by simpa using hn.symm
    subst h0
    exact Try.slices_Index_string_empty A c s w
  | cons x xs =>
    obtain ⟨ad, rfl, hs, hc⟩ := h.str (i := 0) (by simp)
    have had := plain_addr (by simpa [add_zero'] using hc)
    generalize ad.block = b at had
    generalize ad.off = off at had
    subst had
    have hcs : ∀ j, j < (x :: xs).length → w.cell? ⟨b, off + j, none⟩ = some (.string ((x :: xs).getD j ByteArray.empty)) := fun j hj => by
      obtain ⟨ad, e1, _, h1⟩ := h.str hj
      injection e1 with e1
      subst e1
      rw [add_plain'] at h1
      rw [h1, List.getD_eq_getElem?_getD, List.getElem?_eq_getElem hj]
      rfl
    have := Try.slices_Index_string b off n c (x :: xs) s w (by omega) hbig hcs
    rwa [List.take_of_length_le (by omega)] at this
theorem compact_any (h : Own rStr w NoB base e v n xs) (hn : n < 4611686018427387904) :
    Calls Try.prog 35 #[v] w fun en w' => ∃ v', en = .returned v' ∧ Own rStr w' NoB base e v' (cmp xs).length (cmp xs) ∧ w.grownBy w' v.ownBlock ∧ v'.ownBlock = v.ownBlock := by
  have hl := h.len
  have hrow := h.strs
  rcases hrow.2 with ⟨rfl, h0⟩ | ⟨g, cap, cur, rfl, hbase, hb, h1, h2, h3, h4⟩
  · subst h0
    have hx : xs = [] := List.eq_nil_of_length_eq_zero hl
    subst hx
    refine (Try.slices_Compact_string_empty none 0 w).mono ?_
    rintro en w1 ⟨rfl, rfl⟩
    exact ⟨_, rfl, by rw [show cmp [] = [] from rfl]; exact h, World.grownBy.refl _ _, rfl⟩
  · rw [Nat.mul_one, ← map_enc] at h4
    have hl' : (xs.map bs).length = n := by simp [hl]
    have hH : Holds encStr w g 0 (xs.map bs).toArray := holds_of_block hb (by rw [hl']; exact h4)
    have hc := Try.slices_Compact_string g 0 cap (xs.map bs) w hH (by rw [hl']; omega) (by rw [hl']; exact h1)
    have hle : (Lib.compact (xs.map bs)).length ≤ n := by rw [← hl']; exact Lib.compact_length_le _
    rw [hl'] at hc
    refine hc.mono ?_
    rintro en w1 ⟨rfl, q, rfl⟩
    generalize hcc : Lib.compact (xs.map bs) = cc at *
    have hcl : (cmp xs).length = cc.length := by unfold cmp; rw [hcc, List.length_map]
    generalize hts : cc ++ List.replicate (n - cc.length) [] = ts
    have hlt : ts.length = n := by rw [← hts]; simp; omega
    have hgr := grownBy_sorted (w := w) (g := g) (n := q) (os := #[]) ts.toArray
    simp only [Go.Sort.grow_empty] at hgr
    refine ⟨_, rfl, ?_, hgr, rfl⟩
    have hs := ownsRow_sorted (w := w) (n := q) (os := #[]) (ss := xs.map bs) (ts := ts) (by rw [hlt, hl']) hbase hb (by rw [hl']; exact h1) h2 h3
    simp only [Go.Sort.grow_empty] at hs
    rw [hl'] at hs
    rcases hs.2 with ⟨e1, _⟩ | ⟨g', cap', cur', e1, hb', hg', k1, k2, k3, k4⟩
    · cases e1
    · injection e1 with e1 _ e2
      injection e1 with e1
      injection e1 with e1 _
      subst e1 e2
      rw [hcl]
      refine Own.of_strs hcl ⟨by rw [List.length_map, hcl, Nat.mul_one], .inr ⟨g, cap, cur', rfl, hb', hg', by omega, k2, k3, ?_⟩⟩
      have e2 : (cmp xs).map Value.string = (ts.take cc.length).map encStr := by
        rw [← hts, List.take_left, ← map_enc]
        unfold cmp
        rw [hcc, List.map_map, List.map_map]
        exact List.map_congr_left fun s _ => by simp [bs_sb]
      rw [e2, Nat.mul_one, List.map_take, ← k4, Nat.mul_one, List.take_take]
      congr 1
      omega
end
set_option maxHeartbeats 1000000 in
set_option maxRecDepth 100000 in
theorem placeL_any (A A2 A3 A4 : Option Addr) (n c n2 c2 n3 c3 n4 c4 : Nat) (lo hi : Int) (xs : List ByteArray) (s : ByteArray) (S : Nat → Prop) (w : World) (hn : xs.length = n) (hnb : n ≤ 140737488351232) (hS : ∀ b, S b → b < w.heap.size) (hx : Sl rStr w S A xs) :
    Calls Try.prog 23 #[.agg #[.slice A n c, .slice A2 n2 c2, .slice A3 n3 c3, .slice A4 n4 c4, .int .i64 lo, .int .i64 hi], .string s] w fun e w' => e = .returned (.int .i64 (Lib.idxOfS xs s)) ∧ Below w.heap.size w w' := by
  have hb : Below w.heap.size w (w.alloc (.cells #[.slice A n c, .slice A2 n2 c2, .slice A3 n3 c3, .slice A4 n4 c4, .int .i64 lo, .int .i64 hi] 42)) := (Below.refl _ _).alloc (Nat.le_refl _) _
  have HI := Asd.mk (index_any (c := c) (hx.below hb hS) hn (by omega) s)
  have HB := Asd.mk hb
  clear hx hS hn hb
  go_enter Try.func23, Try.ntmps23
  go_wp2_with fail
  refine HI.out.mono ?_
  rintro e w1 ⟨rfl, rfl⟩
  go_wp2_with fail
  go_ret
  exact ⟨rfl, HB.out⟩
end Go.Proofs.Ythfoaehjnoiniaa
