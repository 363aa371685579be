/- aquiferlaw1.Num and aquiferref11.Texts by their contracts. -/
import Derived.Test.YthfoaehjnoiniaaStrs
namespace Go.Proofs.Ythfoaehjnoiniaa
open Go.RowKit
theorem toList_inj {x y : ByteArray} (h : x.toList = y.toList) : x = y := by
  rw [ByteArray.ext_iff, ← Array.toList_inj]
  rwa [ByteArray.toList_eq, ByteArray.toList_eq] at h
theorem num_any (n : Int) (w : World) : Calls Try.prog 11 #[.int .i64 n] w fun e w' => e = .returned (.int .i64 n) ∧ w = w' := by
  go_enter Try.func11, Try.ntmps11
  go_wp2
  go_ret
  exact ⟨rfl, rfl⟩

set_option maxHeartbeats 1000000 in
set_option maxRecDepth 100000 in
theorem texts_any (A B : Option Addr) (n m c d : Nat) (xs ys : List ByteArray) (S S' : Nat → Prop) (w : World) (hn : xs.length = n) (hm : ys.length = m) (hnb : n ≤ 140737488351232) (hmb : m ≤ 140737488351232) (hS : ∀ b, S b → b < w.heap.size) (hS' : ∀ b, S' b → b < w.heap.size) (hx : Sl rStr w S A xs) (hy : Sl rStr w S' B ys) :
    Calls Try.prog 12 #[.slice A n c, .slice B m d] w fun e w' => e = .returned (.bool (decide (xs = ys))) ∧ Below w.heap.size w w' := by
  have HN := Asd.mk hn; have HM := Asd.mk hm; have HX := Asd.mk hx; have HY := Asd.mk hy; have HS := Asd.mk hS; have HS' := Asd.mk hS'
  clear hn hm hx hy hS hS'
  by_cases hnm : n = m
  · subst hnm
    go_enter Try.func12, Try.ntmps12
    go_wp2
    go_loopw [5] (fun i wr => ∃ k : Nat, k ≤ n ∧ i = .int .i64 (k : Nat) ∧ Below w.heap.size w wr ∧ Asd (xs.take k = ys.take k)) (fun i _ => n - (intOf i).toNat)
    case atStart => exact ⟨0, Nat.zero_le _, rfl, Below.refl _ _, ⟨by simp⟩⟩
    case round =>
      obtain ⟨k, hk, rfl, hnx, HE⟩ := hrel
      by_cases hlt : k < n
      · obtain ⟨ad, rfl, _, g0⟩ := (HX.out.below hnx HS.out).str (i := k) (by have := HN.out; omega)
        obtain ⟨ad', rfl, _, g1⟩ := (HY.out.below hnx HS'.out).str (i := k) (by have := HM.out; omega)
        have ex : xs[k]? = some (xs[k]'(by have := HN.out; omega)) := List.getElem?_eq_getElem _
        have ey : ys[k]? = some (ys[k]'(by have := HM.out; omega)) := List.getElem?_eq_getElem _
        generalize xs[k]'(by have := HN.out; omega) = x at g0 ex
        generalize ys[k]'(by have := HM.out; omega) = y at g1 ey
        have EX := Asd.mk ex; have EY := Asd.mk ey
        clear ex ey
        have hk0 : (0 : Int) ≤ (k : Int) := Int.natCast_nonneg _
        have hk1 : (k : Int) < (n : Int) := by omega
        by_cases hxy : x = y
        · subst hxy
          have hbe : (x != x) = false := by simp [bne, beq_bytes]
          have hbl : (x.toList == x.toList) = true := by simp
          go_wp2
          go_quiet (fail)
          go_wp2
          go_roundw
          case rel => exact ⟨k + 1, by omega, by go_num, below_drew' hnx _, ⟨by rw [take_snoc' xs EX.out, take_snoc' ys EY.out, HE.out]⟩⟩
          case measure => simp [intOf]; omega
        · have hxl : ¬ x.toList = y.toList := fun e => hxy (toList_inj e)
          have hbl : (x.toList == y.toList) = false := by simpa using hxl
          have hne : xs ≠ ys := fun e => by
            have h1 := EX.out; rw [e, EY.out] at h1
            injection h1 with h1
            exact hxy h1.symm
          have HNE := Asd.mk hne
          clear hne
          go_wp2
          go_quiet (fail)
          go_wp2
          go_ret
          exact ⟨by simp [HNE.out], below_drew' hnx _⟩
      · have hkn : k = n := by omega
        subst hkn
        have he : xs = ys := by
          have h := HE.out
          rwa [List.take_of_length_le (by have := HN.out; omega), List.take_of_length_le (by have := HM.out; omega)] at h
        have HEQ := Asd.mk he
        clear he
        go_wp2
        go_ret
        exact ⟨by simp [HEQ.out], hnx⟩
  · have hne : xs ≠ ys := fun e => hnm (by rw [← HN.out, ← HM.out, e])
    have HNE := Asd.mk hne
    have hd : ((n : Int) != (m : Int)) = true := by simp [bne_iff_ne]; omega
    have hd2 : ((n : Int) == (m : Int)) = false := by simp; omega
    clear hne
    go_enter Try.func12, Try.ntmps12
    go_wp2
    go_ret
    exact ⟨by simp [HNE.out], Below.refl _ _⟩
end Go.Proofs.Ythfoaehjnoiniaa
