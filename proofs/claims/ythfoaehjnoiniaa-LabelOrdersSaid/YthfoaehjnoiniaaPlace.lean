/- aquiferref14.place and Has by their contracts. -/
import Derived.Test.YthfoaehjnoiniaaTexts
namespace Go.Proofs.Ythfoaehjnoiniaa
open Go.RowKit
set_option maxHeartbeats 1000000 in
set_option maxRecDepth 100000 in
theorem place_any (A : Option Addr) (n c : Nat) (xs : List ByteArray) (s : ByteArray) (S : Nat → Prop) (w : World) (hn : xs.length = n) (hnb : n ≤ 140737488351232) (hS : ∀ b, S b → b < w.heap.size) (hx : Sl rStr w S A xs) :
    Calls Try.prog 34 #[.slice A n c, .string s] w fun e w' => e = .returned (.int .i64 ((xs.findIdx? (fun x => decide (x = s))).elim (-1) (fun i => (i : Int)))) ∧ Below w.heap.size w w' := by
  have HN := Asd.mk hn; have HX := Asd.mk hx; have HS := Asd.mk hS
  clear hn hx hS
  go_enter Try.func34, Try.ntmps34
  go_wp2
  go_loopw [5] (fun i wr => ∃ k : Nat, k ≤ n ∧ i = .int .i64 (k : Nat) ∧ Below w.heap.size w wr ∧ Asd ((xs.take k).findIdx? (fun x => decide (x = s)) = none)) (fun i _ => n - (intOf i).toNat)
  case atStart => exact ⟨0, Nat.zero_le _, rfl, Below.refl _ _, ⟨by simp⟩⟩
  case round =>
    obtain ⟨k, hk, rfl, hnx, HE⟩ := hrel
    by_cases hlt : k < n
    · obtain ⟨ad, rfl, _, g0⟩ := (HX.out.below hnx HS.out).str (i := k) (by have := HN.out; omega)
      have ex : xs[k]? = some (xs[k]'(by have := HN.out; omega)) := List.getElem?_eq_getElem _
      generalize xs[k]'(by have := HN.out; omega) = x at g0 ex
      have EX := Asd.mk ex
      have hk0 : (0 : Int) ≤ (k : Int) := Int.natCast_nonneg _
      have hk1 : (k : Int) < (n : Int) := by omega
      have hf : (xs.take (k+1)).findIdx? (fun x => decide (x = s)) = if x = s then some k else none := by
        have h0 := HE.out; have hn := HN.out
        rw [take_snoc' xs ex, List.findIdx?_append, h0]
        simp [List.findIdx?_cons]; split <;> simp; omega
      have HF := Asd.mk hf
      have HF0 : x = s → Asd (xs.findIdx? (fun x => decide (x = s)) = some k) := fun e => ⟨by
        rw [if_pos e] at hf
        conv => lhs; rw [← List.take_append_drop (k+1) xs]
        rw [List.findIdx?_append, hf]; rfl⟩
      clear ex hf
      by_cases hxy : x = s
      · have HF1 := HF0 hxy
        clear HF HF0
        subst hxy
        have hbe : (x != x) = false := by simp [bne, beq_bytes]
        have hbl : (x.toList == x.toList) = true := by simp
        go_wp2
        go_ret
        exact ⟨by rw [HF1.out]; rfl, hnx⟩
      · have hxl : ¬ x.toList = s.toList := fun e => hxy (toList_inj e)
        have hbl : (x.toList == s.toList) = false := by simpa using hxl
        have h1 := HF.out
        rw [if_neg hxy] at h1
        have HF1 := Asd.mk h1
        clear h1 HF HF0
        go_wp2
        go_roundw
        case rel => exact ⟨k + 1, by omega, by go_num, hnx, ⟨HF1.out⟩⟩
        case measure => simp [intOf]; omega
    · have he : xs.findIdx? (fun x => decide (x = s)) = none := by
        have h := HE.out
        rwa [List.take_of_length_le (by have := HN.out; omega)] at h
      have HEQ := Asd.mk he
      clear he
      go_wp2
      go_ret
      exact ⟨by rw [HEQ.out]; rfl, hnx⟩
open Classical in
theorem has_any (A : Option Addr) (n c : Nat) (xs : List ByteArray) (s : ByteArray) (S : Nat → Prop) (w : World) (hn : xs.length = n) (hnb : n ≤ 140737488351232) (hS : ∀ b, S b → b < w.heap.size) (hx : Sl rStr w S A xs) :
    Calls Try.prog 14 #[.slice A n c, .string s] w fun e w' => e = .returned (.bool (decide (s ∈ xs))) ∧ Below w.heap.size w w' := by
  have HP := Asd.mk (place_any A n c xs s S w hn hnb hS hx)
  have hm : (xs.findIdx? (fun x => decide (x = s)) = none ∧ s ∉ xs) ∨ ∃ i : Nat, xs.findIdx? (fun x => decide (x = s)) = some i ∧ s ∈ xs := by
    cases h : xs.findIdx? (fun x => decide (x = s)) with
    | none =>
      rw [List.findIdx?_eq_none_iff] at h
      exact .inl ⟨rfl, fun hs => by simpa using h s hs⟩
    | some i =>
      obtain ⟨hi, hp, _⟩ := List.findIdx?_eq_some_iff_getElem.1 h
      exact .inr ⟨i, rfl, by rw [← of_decide_eq_true hp]; exact List.getElem_mem _⟩
  rcases hm with ⟨h1, h2⟩ | ⟨i, h1, h2⟩
  · have HS2 := Asd.mk h2
    rw [h1] at HP
    clear h1 h2 hx hS hn
    go_enter Try.func14, Try.ntmps14
    go_wp2_with (go_at_call 34; refine HP.out.mono ?_; rintro e w1 ⟨rfl, hb1⟩)
    go_ret
    exact ⟨by simp [HS2.out], hb1⟩
  · have HS2 := Asd.mk h2
    rw [h1] at HP
    have hi0 : (0 : Int) ≤ (i : Int) := Int.natCast_nonneg _
    clear h1 h2 hx hS hn
    go_enter Try.func14, Try.ntmps14
    go_wp2_with (go_at_call 34; refine HP.out.mono ?_; rintro e w1 ⟨rfl, hb1⟩)
    go_ret
    exact ⟨by simp [HS2.out], hb1⟩
end Go.Proofs.Ythfoaehjnoiniaa
