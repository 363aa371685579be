/- graph.Order: plain words, and IndexFunc by its contract. -/
import Derived.Test.YthfoaehjnoiniaaGraphReady
namespace Go.Proofs.Ythfoaehjnoiniaa
open Go.RowKit
open Classical in
/-- The order: always the first of the rest whose needs are all done. -/
noncomputable def greedy (W : ByteArray → ByteArray → Prop) : Nat → List ByteArray → List ByteArray → List ByteArray
  | 0, _, _ => []
  | n + 1, done, rest =>
    match rest.findIdx? (fun x => decide (∀ y, W x y → y ∈ done)) with
    | none => []
    | some i => rest.getD i ByteArray.empty :: greedy W n (rest.getD i ByteArray.empty :: done) (rest.eraseIdx i)
open Classical in
noncomputable def circ (W : ByteArray → ByteArray → Prop) (ks : List ByteArray) : List ByteArray := ks.filter fun x => decide (W x x)
open Classical in
noncomputable def free (W : ByteArray → ByteArray → Prop) (ks : List ByteArray) : List ByteArray := ks.filter fun x => !decide (W x x)
noncomputable def orderOf (W : ByteArray → ByteArray → Prop) (ks : List ByteArray) : List ByteArray := greedy W (free W ks).length (srt (circ W ks)) (srt (free W ks))
noncomputable def circleOf (W : ByteArray → ByteArray → Prop) (ks : List ByteArray) : List ByteArray := srt (circ W ks)
theorem circ_snoc {W : ByteArray → ByteArray → Prop} (ks : List ByteArray) (x : ByteArray) (h : W x x) : circ W (ks ++ [x]) = circ W ks ++ [x] ∧ free W (ks ++ [x]) = free W ks := by
  unfold circ free
  constructor <;> simp [List.filter_append, h]
theorem free_snoc {W : ByteArray → ByteArray → Prop} (ks : List ByteArray) (x : ByteArray) (h : ¬ W x x) : circ W (ks ++ [x]) = circ W ks ∧ free W (ks ++ [x]) = free W ks ++ [x] := by
  unfold circ free
  constructor <;> simp [List.filter_append, h]
theorem circ_len (W : ByteArray → ByteArray → Prop) (ks : List ByteArray) : (circ W ks).length ≤ ks.length := List.length_filter_le _ _
theorem free_len (W : ByteArray → ByteArray → Prop) (ks : List ByteArray) : (free W ks).length ≤ ks.length := List.length_filter_le _ _

/-- The map of needs: behind each of ks a set of all that it leads to; hi: above the sets' blocks. -/
def NInv (w : World) (rn : Nat) (mn : List (ByteArray × Value)) (ks : List ByteArray) (W : ByteArray → ByteArray → Prop) (hi : Nat) : Prop :=
  SMap w rn mn ∧ ∀ x, x ∈ ks → ∃ r mr, look mn x = some (.map (some r)) ∧ rn < r ∧ r < hi ∧ SMap w r mr ∧ (∀ y, look mr y = some (.bool true) ↔ W x y) ∧ ∀ y v, look mr y = some v → v = .bool true
section
variable {w w' : World} {rn hi : Nat} {mn : List (ByteArray × Value)} {ks : List ByteArray} {W : ByteArray → ByteArray → Prop}
theorem NInv.mono (h : NInv w rn mn ks W hi) {hi' : Nat} (hh : hi ≤ hi') : NInv w rn mn ks W hi' :=
  ⟨h.1, fun x hx => by
    obtain ⟨r, mr, h1, h2, h3, h4⟩ := h.2 x hx
    exact ⟨r, mr, h1, h2, by omega, h4⟩⟩
theorem NInv.call (h : NInv w rn mn ks W hi) (hb : Below w.heap.size w w') : NInv w' rn mn ks W hi :=
  ⟨h.1.call hb, fun x hx => by
    obtain ⟨r, mr, h1, h2, h2', h3, h4⟩ := h.2 x hx
    exact ⟨r, mr, h1, h2, h2', h3.call hb, h4⟩⟩
theorem NInv.row (h : NInv w rn mn ks W hi) {base : Nat} {e : TypeId} {size n : Nat} {v : Value} {xs : List Value} (ho : w.ownsRow base e size v n xs) (hg : w.grownBy w' v.ownBlock) : NInv w' rn mn ks W hi :=
  ⟨h.1.grown hg (h.1.ne_own ho), fun x hx => by
    obtain ⟨r, mr, h1, h2, h2', h3, h4⟩ := h.2 x hx
    exact ⟨r, mr, h1, h2, h2', h3.grown hg (h3.ne_own ho), h4⟩⟩
theorem NInv.other (h : NInv w rn mn ks W hi) {b : Nat} (hb : hi ≤ b) (hrn : rn < b) (hg : w.grownBy w' (some b)) : NInv w' rn mn ks W hi :=
  ⟨h.1.grown hg (by simp; omega), fun x hx => by
    obtain ⟨r, mr, h1, h2, h2', h3, h4⟩ := h.2 x hx
    exact ⟨r, mr, h1, h2, h2', h3.grown hg (by simp; omega), h4⟩⟩
theorem NInv.add (h : NInv w rn mn ks W hi) {x : ByteArray} {r : Nat} {mr : List (ByteArray × Value)} (hr : rn < r) (hm : SMap w r mr) (h4 : ∀ y, look mr y = some (.bool true) ↔ W x y) (h5 : ∀ y v, look mr y = some v → v = .bool true)
    (hu : SMap w' rn (upd mn x (.map (some r)))) (hg : w.grownBy w' (some rn)) {hi' : Nat} (hh : hi ≤ hi') (hr' : r < hi') : NInv w' rn (upd mn x (.map (some r))) (ks ++ [x]) W hi' := by
  refine ⟨hu, fun y hy => ?_⟩
  by_cases e : y = x
  · subst e
    exact ⟨r, mr, by rw [look_upd]; simp, hr, hr', hm.grown hg (by simp; omega), h4, h5⟩
  · have hy' : y ∈ ks := by
      rcases List.mem_append.1 hy with h | h
      · exact h
      · exact absurd (List.mem_singleton.1 h) e
    obtain ⟨r', mr', h1, h2, h2', h3, h4'⟩ := h.2 y hy'
    exact ⟨r', mr', by rw [look_upd, if_neg e]; exact h1, h2, by omega, h3.grown hg (by simp; omega), h4'⟩
end
/-- A set whose members are ks. -/
def SetOf (md : List (ByteArray × Value)) (ks : List ByteArray) : Prop := (∀ x, (look md x).isSome = true ↔ x ∈ ks) ∧ ∀ x v, look md x = some v → v = .bool true
theorem SetOf.nil : SetOf [] [] := ⟨fun x => by simp [look], fun x v h => by simp [look] at h⟩
theorem SetOf.add {md : List (ByteArray × Value)} {ks : List ByteArray} (h : SetOf md ks) (x : ByteArray) {ks' : List ByteArray} (hk : ∀ y, y ∈ ks' ↔ y = x ∨ y ∈ ks) : SetOf (upd md x (.bool true)) ks' :=
  ⟨fun y => by
    rw [look_upd, hk y]
    by_cases e : y = x
    · simp [e]
    · simp [e, h.1 y],
   fun y v hy => by
    rw [look_upd] at hy
    split at hy
    · injection hy with hy; exact hy.symm
    · exact h.2 y v hy⟩
theorem keys_of {mr : List (ByteArray × Value)} {W : ByteArray → Prop} (h4 : ∀ y, look mr y = some (.bool true) ↔ W y) (h5 : ∀ y v, look mr y = some v → v = .bool true) (D : ByteArray → Prop) (g : ByteArray → Bool) (hg : ∀ y, g y = true ↔ D y) [Decidable (∀ y, W y → D y)] : (mr.all fun p => g p.1) = decide (∀ y, W y → D y) := by
  rw [Bool.eq_iff_iff, decide_eq_true_eq, List.all_eq_true]
  constructor
  · intro h y hy
    have hk : (look mr y).isSome = true := by rw [(h4 y).2 hy]; rfl
    obtain ⟨p, hp, rfl⟩ := List.mem_map.1 ((look_isSome mr y).1 hk)
    exact (hg _).1 (h p hp)
  · intro h p hp
    have hk : (look mr p.1).isSome = true := (look_isSome mr p.1).2 (List.mem_map_of_mem hp)
    obtain ⟨v, hv⟩ := Option.isSome_iff_exists.1 hk
    have := h5 _ _ hv
    subst this
    exact (hg _).2 (h _ ((h4 _).1 hv))

set_option maxHeartbeats 400000 in
set_option maxRecDepth 100000 in
theorem indexFunc_any (caps : Array Value) (A : Option Addr) (n c : Nat) (xs : List ByteArray) (S : Nat → Prop) (p : ByteArray → Bool) (w : World) (hn : xs.length = n) (hb : n ≤ 140737488351232) (hS : ∀ b, S b → b < w.heap.size) (hc : Sl rStr w S A xs)
    (hp : ∀ W, Below w.heap.size w W → ∀ x, x ∈ xs → Calls Try.prog 31 (#[.string x] ++ caps) W (fun e W' => e = .returned (.bool (p x)) ∧ Below W.heap.size W W')) :
    Calls Try.prog 32 #[.slice A n c, .func (.func 31) #[] caps] w fun e w' => e = .returned (.int .i64 ((xs.findIdx? p).elim (-1) (fun i => (i : Int)))) ∧ Below w.heap.size w w' := by
  have HN := Asd.mk hn; clear hn
  have HC := Asd.mk hc; clear hc
  have HP := Asd.mk hp; clear hp
  have HS := Asd.mk hS; clear hS
  go_enter Try.func32, Try.ntmps32
  go_wp2
  go_loopw [8] (fun i wr => ∃ k : Nat, k ≤ n ∧ i = .int .i64 k ∧ Below w.heap.size w wr ∧ Asd ((xs.take k).findIdx? p = none)) (fun i _ => n - (intOf i).toNat)
  case atStart => exact ⟨0, Nat.zero_le _, rfl, Below.refl _ _, Asd.mk (by simp)⟩
  case round =>
    obtain ⟨k, hk, rfl, hnx, HF⟩ := hrel
    have HX := hnx.size
    by_cases hlt : k < n
    · obtain ⟨ad, rfl, _, hcell⟩ := (HC.out.below hnx HS.out).str (i := k) (by have := HN.out; omega)
      have hxm : xs[k]'(by have := HN.out; omega) ∈ xs := List.getElem_mem _
      have hxe : xs[k]? = some (xs[k]'(by have := HN.out; omega)) := List.getElem?_eq_getElem _
      generalize xs[k]'(by have := HN.out; omega) = s at hcell hxm hxe
      have HXE := Asd.mk hxe
      clear hxe
      go_wp2_with fail
      refine (HP.out wr hnx s hxm).mono ?_
      rintro e w1 ⟨rfl, hb1⟩
      have hnx1 := hnx.trans (hb1.mono hnx.size)
      have hf : (xs.take (k+1)).findIdx? p = if p s then some k else none := by
        have h0 := HF.out; have hn := HN.out; have hxe := HXE.out
        rw [take_snoc' xs hxe, List.findIdx?_append, h0]
        simp [List.findIdx?_cons]; split <;> simp; omega
      have HF1 := Asd.mk hf; clear hf
      cases hps : p s
      · have HPS := Asd.mk hps; clear hps
        go_wp2
        go_roundw
        case rel => exact ⟨k + 1, by omega, by go_num, hnx1, ⟨by rw [HF1.out, HPS.out]; rfl⟩⟩
        case measure => simp [intOf]; omega
      · have HPS := Asd.mk hps; clear hps
        go_wp2
        go_ret
        refine ⟨?_, hnx1⟩
        have h1 := HF1.out; rw [HPS.out] at h1
        have h2 : xs.findIdx? p = some k := by
          conv => lhs; rw [← List.take_append_drop (k+1) xs]
          rw [List.findIdx?_append, h1]; rfl
        rw [h2]; rfl
    · go_wp2
      go_ret
      refine ⟨?_, hnx⟩
      have h := HF.out; have hn := HN.out
      rw [List.take_of_length_le (by omega)] at h
      rw [h]; rfl
end Go.Proofs.Ythfoaehjnoiniaa
