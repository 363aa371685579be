/- label.closed by its contract. -/
import Derived.Test.YthfoaehjnoiniaaMat
import Derived.BigRegion
namespace Go.Proofs.Ythfoaehjnoiniaa
open Go.RowKit
def rowsX (gs : Nat → Nat) (n : Nat) : Nat → Prop := fun b => ∃ i, i < n ∧ b = gs i
set_option maxHeartbeats 4000000 in
set_option maxRecDepth 100000 in
theorem closed_any (ob : Nat) (gs : Nat → Nat) (n c : Nat) (M : Tab) (w : World) (hM : BMat w ob gs n M) (hn : n ≤ 1000) :
    Calls Try.prog 36 #[.slice (some ⟨ob, 0, none⟩) n c] w fun e w' => e = .returned (.tuple #[]) ∧ BMat w' ob gs n (warsh n M) ∧ Upto (rowsX gs n) w w' := by
  have HM := Asd.mk hM
  clear hM
  go_enter Try.func36, Try.ntmps36
  go_wp2
  go_loopg [7] n (fun gk kv wr => ∃ k : Nat, k ≤ n ∧ gk = n - k ∧ kv = .int .i64 k ∧ Asd (BMat wr ob gs n (warshK k M)) ∧ Asd (Upto (rowsX gs n) w wr))
  case atStart => exact ⟨0, Nat.zero_le _, rfl, rfl, HM, ⟨Upto.refl _ _⟩⟩
  case round =>
    obtain ⟨k, hk, rfl, rfl, HB, HU⟩ := hrel
    have hk0 : (0 : Int) ≤ (k : Int) := Int.natCast_nonneg _
    by_cases hkn : k < n
    · have hkn' : (k : Int) < (n : Int) := by omega
      go_wp2
      go_step3
      go_wp2
      go_step3
      go_wp2
      go_loopg [12] n (fun gk av wr => ∃ a : Nat, a ≤ n ∧ gk = n - a ∧ av = .int .i64 a ∧ Asd (BMat wr ob gs n (wmix k a 0 (warshK k M))) ∧ Asd (Upto (rowsX gs n) w wr))
      case atStart => exact ⟨0, Nat.zero_le _, rfl, rfl, ⟨by rw [wmix_start]; exact HB.out⟩, HU⟩
      case round =>
        clear HB HU
        obtain ⟨a, ha, rfl, rfl, HB, HU⟩ := hrel
        have ha0 : (0 : Int) ≤ (a : Int) := Int.natCast_nonneg _
        by_cases han : a < n
        · have han' : (a : Int) < (n : Int) := by omega
          obtain ⟨ca, c0, hca⟩ := HB.out.at_row han
          have c1 := HB.out.at_ han hkn
          rw [wmix_col] at c1
          cases hak : warshK k M a k with
          | false =>
            rw [hak] at c1
            have HB2 := Asd.mk (wmix_skip hak ▸ HB.out)
            clear hak HB
            go_wp2
            go_roundg (n - (a + 1))
            case rel => exact ⟨a + 1, by omega, rfl, by go_num, HB2, HU⟩
            case measure => omega
          | true =>
            rw [hak] at c1
            have HAK := Asd.mk hak
            clear hak
            go_wp2
            clear c0 c1
            go_loopg [25] n (fun gk bv wr => ∃ b : Nat, b ≤ n ∧ gk = n - b ∧ bv = .int .i64 b ∧ Asd (BMat wr ob gs n (wmix k a b (warshK k M))) ∧ Asd (Upto (rowsX gs n) w wr))
            case atStart => exact ⟨0, Nat.zero_le _, rfl, rfl, HB, HU⟩
            case round =>
              clear HB HU
              obtain ⟨b, hb, rfl, rfl, HB, HU⟩ := hrel
              have hb0 : (0 : Int) ≤ (b : Int) := Int.natCast_nonneg _
              by_cases hbn : b < n
              · have hbn' : (b : Int) < (n : Int) := by omega
                obtain ⟨ca, c0, hca⟩ := HB.out.at_row han
                obtain ⟨ck, d0, hck⟩ := HB.out.at_row hkn
                have c1 := HB.out.at_ han hbn
                have d1 := HB.out.at_ hkn hbn
                have f1 := HB.out.free han b
                rw [wmix_here] at c1
                rw [wmix_row] at d1
                have HB2 := Asd.mk (HB.out.set han hbn (wstep k (warshK k M) a b))
                rw [wmix_next] at HB2
                have HU2 := Asd.mk (HU.out.set (p := ⟨gs a, b, none⟩) (.inl ⟨a, han, rfl⟩) (.bool (wstep k (warshK k M) a b)))
                have hst : wstep k (warshK k M) a b = (warshK k M a b || warshK k M k b) := by unfold wstep; rw [HAK.out, Bool.true_and]
                rw [hst] at HB2 HU2
                clear hst HB HU
                generalize warshK k M a b = x at *
                generalize warshK k M k b = y at *
                cases x with
                | true =>
                  go_wp2
                  go_region
                  go_wp2
                  go_roundg (n - (b + 1))
                  case rel => exact ⟨b + 1, by omega, rfl, by go_num, ⟨HB2.out.drewN 1⟩, ⟨HU2.out.drewN 1⟩⟩
                  case measure => omega
                | false =>
                  cases y with
                  | true =>
                    go_wp2
                    go_region
                    go_wp2
                    go_roundg (n - (b + 1))
                    case rel => exact ⟨b + 1, by omega, rfl, by go_num, ⟨HB2.out.drewN 1⟩, ⟨HU2.out.drewN 1⟩⟩
                    case measure => omega
                  | false =>
                    go_wp2
                    go_region
                    go_wp2
                    go_roundg (n - (b + 1))
                    case rel => exact ⟨b + 1, by omega, rfl, by go_num, ⟨HB2.out.drewN 1⟩, ⟨HU2.out.drewN 1⟩⟩
                    case measure => omega
              · go_wp2
                go_roundg (n - (a + 1))
                case rel => exact ⟨a + 1, by omega, rfl, by go_num, ⟨by
                  obtain rfl : b = n := by omega
                  exact HB.out.congr (fun i j hi hj => wmix_turn i j hi hj)⟩, HU⟩
                case measure => omega
        · go_wp2
          simp only [Exit.noGoto_normal]
          go_wp2
          go_roundg (n - (k + 1))
          case rel => exact ⟨k + 1, by omega, rfl, by go_num, ⟨by
            obtain rfl : a = n := by omega
            rw [warshK_succ]
            exact HB.out.congr (fun i j hi hj => wmix_end i j hi hj)⟩, HU⟩
          case measure => omega
    · go_wp2
      go_end0
      obtain rfl : k = n := by omega
      exact ⟨rfl, HB.out, HU.out⟩
end Go.Proofs.Ythfoaehjnoiniaa
