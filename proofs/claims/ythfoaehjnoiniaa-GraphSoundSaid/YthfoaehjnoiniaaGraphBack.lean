/- graph.Back by its contract: does a way lead from the one to the other? -/
import Derived.Test.YthfoaehjnoiniaaGraphOrder
namespace Go.Proofs.Ythfoaehjnoiniaa
open Go.RowKit
open Classical in
theorem back_look {mr : List (ByteArray × Value)} {f : ByteArray → List ByteArray} {a b : ByteArray} (h : ∀ x, look mr x = some (.bool true) ↔ Way f a x) (ht : ∀ x v, look mr x = some v → v = .bool true) : (look mr b).getD (.bool false) = .bool (decide (Way f a b)) := by
  by_cases hw : Way f a b
  · rw [(h b).2 hw]; simp [hw]
  · cases hl : look mr b with
    | none => simp [hw]
    | some v =>
      have := ht b v hl
      subst this
      exact (hw ((h b).1 hl)).elim
open Classical in
set_option maxHeartbeats 1000000 in
set_option maxRecDepth 100000 in
theorem back_any (A : Option Addr) (n c : Nat) (l : List GNode) (S : Nat → Prop) (a b : ByteArray) (w : World) (hl : l.length = n) (hn : n ≤ 1000) (hS : ∀ b, S b → b < w.heap.size) (hr : Sl rNode w S A l) (he : edges l ≤ 1000000) :
    Calls Try.prog 15 #[.slice A n c, .string a, .string b] w fun e w' => e = .returned (.bool (decide (Way (toOf l l) a b))) ∧ Below w.heap.size w w' := by
  have HW1 := Asd.mk (ways_any A n c l S w hl (by omega) hS hr (by omega))
  have HE := Asd.mk he
  have HL := Asd.mk hl
  clear hl hS hr he
  go_enter Try.func15, Try.ntmps15
  go_wp2_with (first
    | (go_at_call 28; refine HW1.out.mono ?_; rintro e w1 ⟨r, rfl, hwi, hb1⟩; obtain ⟨m, hW, _⟩ := hwi.ways (fun x hx => toOf_none l l x hx); clear hwi)
    | (go_at_call 29; refine (from_any r m (toOf l l) (l.map (·.1)) a w1 1000000 hW (fun a y h => toOf_mem l l a y h) (fun a => Nat.le_trans (toOf_len l l a) HE.out) (by have := HL.out; simp; omega)).mono ?_; rintro e w2 ⟨r2, mr, rfl, _, hmr, hway, htru, hb2⟩; have hlk : (look mr b).getD (.bool false) = .bool (decide (Way (toOf l l) a b)) := back_look hway htru)
    | (at_lookup; refine wpList_look rfl _ _ _ rfl T_set r2 mr b rfl rfl hmr _ hlk ?_))
  go_ret
  exact ⟨rfl, below_call hb1 hb2⟩
end Go.Proofs.Ythfoaehjnoiniaa
