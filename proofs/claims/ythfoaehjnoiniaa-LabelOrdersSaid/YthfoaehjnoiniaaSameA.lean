/- aquiferref14.ints and SameLattice, where both are one. -/
import Derived.Test.YthfoaehjnoiniaaLatR
import Derived.Test.YthfoaehjnoiniaaTexts
namespace Go.Proofs.Ythfoaehjnoiniaa
open Go.RowKit
/-- A row of a table, and its cells. -/
theorem Sl.rowI {w : World} {S : Nat → Prop} {A : Option Addr} {xs : List (List Int)} (h : Sl (rSl rI) w S A xs) {i : Nat} {r : List Int} (hr : xs[i]? = some r) :
    ∃ ad A' c, A = some ad ∧ w.cell? (ad.add i) = some (.slice A' r.length c) ∧ r.length ≤ maxLen ∧ Sl rI w S A' r := by
  obtain ⟨ad, u, h1, _, ⟨A', c, hu, h2, h3, hs⟩, h4⟩ := h.at1 hr rfl
  injection hu with hu _
  subst hu
  exact ⟨ad, A', c, h1, by simpa using h4, Nat.le_trans h2 h3, hs⟩
theorem Sl.rowB {w : World} {S : Nat → Prop} {A : Option Addr} {xs : List (List Bool)} (h : Sl (rSl rBool) w S A xs) {i : Nat} {r : List Bool} (hr : xs[i]? = some r) :
    ∃ ad A' c, A = some ad ∧ w.cell? (ad.add i) = some (.slice A' r.length c) ∧ r.length ≤ maxLen ∧ Sl rBool w S A' r := by
  obtain ⟨ad, u, h1, _, ⟨A', c, hu, h2, h3, hs⟩, h4⟩ := h.at1 hr rfl
  injection hu with hu _
  subst hu
  exact ⟨ad, A', c, h1, by simpa using h4, Nat.le_trans h2 h3, hs⟩
set_option maxHeartbeats 4000000 in
set_option maxRecDepth 100000 in
theorem ints_same (A B : Option Addr) (n c d : Nat) (xs : List (List Int)) (S S' : Nat → Prop) (w : World) (hn : xs.length = n) (hnb : n ≤ 1000) (hS : ∀ b, S b → b < w.heap.size) (hS' : ∀ b, S' b → b < w.heap.size) (hx : Sl (rSl rI) w S A xs) (hy : Sl (rSl rI) w S' B xs) :
    Calls Try.prog 40 #[.slice A n c, .slice B n d] w fun e w' => e = .returned (.bool true) ∧ Below w.heap.size w w' := by
  have HN := Asd.mk hn; have HX := Asd.mk hx; have HY := Asd.mk hy; have HS := Asd.mk hS; have HS' := Asd.mk hS'
  have hnn : ((n : Int) != (n : Int)) = false := by simp
  clear hn hx hy hS hS'
  go_enter Try.func40, Try.ntmps40
  go_wp2
  go_loopg [5] n (fun gk iv wr => ∃ i : Nat, i ≤ n ∧ gk = n - i ∧ iv = .int .i64 i ∧ Asd (Below w.heap.size w wr))
  case atStart => exact ⟨0, Nat.zero_le _, rfl, rfl, ⟨Below.refl _ _⟩⟩
  case round =>
    obtain ⟨i, hi, rfl, rfl, HB⟩ := hrel
    have hi0 : (0 : Int) ≤ (i : Int) := Int.natCast_nonneg _
    by_cases hin : i < n
    · have hin' : (i : Int) < (n : Int) := by omega
      obtain ⟨r, hr⟩ : ∃ r, xs[i]? = some r := ⟨_, List.getElem?_eq_getElem (by have := HN.out; omega)⟩
      obtain ⟨ad, A', ca, rfl, g0, hm, -⟩ := (HX.out.below HB.out HS.out).rowI hr
      obtain ⟨bd, B', cb, rfl, g1, -, -⟩ := (HY.out.below HB.out HS'.out).rowI hr
      have HR := Asd.mk hr
      have HG0 := Asd.mk g0; have HG1 := Asd.mk g1
      generalize hml : r.length = m at *
      have HML := Asd.mk hml
      clear hml hr
      unfold maxLen at hm
      have hmm : ((m : Int) != (m : Int)) = false := by simp
      go_wp2
      go_quiet (fail)
      go_wp2
      go_loopg [6] m (fun gk kv wr => ∃ k : Nat, k ≤ m ∧ gk = m - k ∧ kv = .int .i64 k ∧ Asd (Below w.heap.size w wr))
      case atStart => exact ⟨0, Nat.zero_le _, rfl, rfl, ⟨below_drew' HB.out _⟩⟩
      case round =>
        clear HB HG0 HG1 g0 g1
        obtain ⟨k, hk, rfl, rfl, HB⟩ := hrel
        have hk0 : (0 : Int) ≤ (k : Int) := Int.natCast_nonneg _
        obtain ⟨ad2, A2, ca2, e1, g0, -, hs0⟩ := (HX.out.below HB.out HS.out).rowI HR.out
        obtain ⟨bd2, B2, cb2, e2, g1, -, hs1⟩ := (HY.out.below HB.out HS'.out).rowI HR.out
        injection e1 with e1
        injection e2 with e2
        subst e1 e2
        rw [HML.out] at g0 g1
        by_cases hkm : k < m
        · have hkm' : (k : Int) < (m : Int) := by omega
          obtain ⟨ad3, rfl, -, h0⟩ := hs0.int (i := k) (by have := HML.out; omega)
          obtain ⟨bd3, rfl, -, h1⟩ := hs1.int (i := k) (by have := HML.out; omega)
          generalize r[k]'(by have := HML.out; omega) = z at h0 h1
          have hzz : (z != z) = false := by simp
          clear hs0 hs1
          go_wp2
          go_quiet (fail)
          go_wp2
          go_roundg (m - (k + 1))
          case rel => exact ⟨k + 1, by omega, rfl, by go_num, ⟨below_drew' HB.out _⟩⟩
          case measure => omega
        · clear hs0 hs1
          go_wp2
          go_roundg (n - (i + 1))
          case rel => exact ⟨i + 1, by omega, rfl, by go_num, HB⟩
          case measure => omega
    · go_wp2
      go_ret
      exact ⟨rfl, HB.out⟩
end Go.Proofs.Ythfoaehjnoiniaa
