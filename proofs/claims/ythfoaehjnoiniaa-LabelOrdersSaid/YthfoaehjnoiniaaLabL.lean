/- label.least by its contract. -/
import Derived.Test.YthfoaehjnoiniaaLatS
namespace Go.Proofs.Ythfoaehjnoiniaa
open Go.RowKit
set_option maxHeartbeats 4000000 in
set_option maxRecDepth 100000 in
theorem least_any (n : Nat) (hn : n ≤ 1000) (M : Tab) (C : Nat → Bool) (fl fi : FuncId) (cl ci : Array Value) (w : World)
    (hfl : ∀ (args : Array Value) (W : World), (callFunc fl args).run Try.prog W = .ok (.enter fl args) W) (hfi : ∀ (args : Array Value) (W : World), (callFunc fi args).run Try.prog W = .ok (.enter fi args) W)
    (hle : ∀ a b : Nat, a < n → b < n → Calls Try.prog fl (#[.int .i64 a, .int .i64 b] ++ cl) w fun e w' => e = .returned (.bool (M a b)) ∧ w' = w)
    (his : ∀ c : Nat, c < n → Calls Try.prog fi (#[.int .i64 c] ++ ci) w fun e w' => e = .returned (.bool (C c)) ∧ w' = w) :
    Calls Try.prog 57 #[.int .i64 n, .func (.func fl) #[] cl, .func (.func fi) #[] ci] w fun e w' => e = .returned (.tuple #[.int .i64 ((leastF n M C).getD 0 : Nat), .bool (leastF n M C).isSome]) ∧ w' = w := by
  have HLE := Asd.mk hle; have HIS := Asd.mk his
  clear hle his
  go_enter Try.func57, Try.ntmps57
  go_wp2
  go_step3
  go_wp2
  go_step3
  go_wp2
  go_loopg [11] n (fun gk cv wr => ∃ c : Nat, c ≤ n ∧ gk = n - c ∧ cv = .int .i64 c ∧ wr = w ∧ Asd (∀ j, j < c → isLeast n M C j = false))
  case atStart => exact ⟨0, Nat.zero_le _, rfl, rfl, rfl, ⟨fun j hj => by omega⟩⟩
  case round =>
    obtain ⟨c, hc, rfl, rfl, rfl, HF⟩ := hrel
    have hc0 : (0 : Int) ≤ (c : Int) := Int.natCast_nonneg _
    by_cases hcn : c < n
    · have hcn' : (c : Int) < (n : Int) := by omega
      have HC := Asd.mk (HIS.out c hcn)
      cases hcc : C c with
      | false =>
        rw [hcc] at HC
        have HF2 : Asd (∀ j, j < c + 1 → isLeast n M C j = false) := ⟨fun j hj => by
          by_cases e : j = c
          · subst e; exact isLeast_no hcc
          · exact HF.out j (by omega)⟩
        clear hcc
        go_wp2_with fail
        refine HC.out.mono ?_
        rintro e w1 ⟨rfl, rfl⟩
        go_wp2_with fail
        go_roundg (n - (c + 1))
        case rel => exact ⟨c + 1, by omega, rfl, by go_num, by trivial, HF2⟩
        case measure => omega
      | true =>
        rw [hcc] at HC
        have HCC := Asd.mk hcc
        clear hcc
        go_wp2_with fail
        refine HC.out.mono ?_
        rintro e w1 ⟨rfl, rfl⟩
        go_wp2_with fail
        go_loopg [19] n (fun gk dv wr => ∃ d : Nat, d ≤ n ∧ gk = n - d ∧ dv = .int .i64 d ∧ wr = w1 ∧ Asd (∀ j, j < d → C j = true → M c j = true))
        case atStart => exact ⟨0, Nat.zero_le _, rfl, rfl, rfl, ⟨fun j hj => by omega⟩⟩
        case round =>
          obtain ⟨d, hd, rfl, rfl, rfl, HG⟩ := hrel
          have hd0 : (0 : Int) ≤ (d : Int) := Int.natCast_nonneg _
          by_cases hdn : d < n
          · have hdn' : (d : Int) < (n : Int) := by omega
            have HD := Asd.mk (HIS.out d hdn)
            cases hcd : C d with
            | false =>
              rw [hcd] at HD
              have HG2 : Asd (∀ j, j < d + 1 → C j = true → M c j = true) := ⟨fun j hj hcj => by
                by_cases e : j = d
                · subst e; rw [hcd] at hcj; cases hcj
                · exact HG.out j (by omega) hcj⟩
              clear hcd
              go_wp2_with fail
              refine HD.out.mono ?_
              rintro e w2 ⟨rfl, rfl⟩
              go_wp2_with fail
              go_roundg (n - (d + 1))
              case rel => exact ⟨d + 1, by omega, rfl, by go_num, by trivial, HG2⟩
              case measure => omega
            | true =>
              rw [hcd] at HD
              have HX := Asd.mk (HLE.out c d hcn hdn)
              cases hmx : M c d with
              | true =>
                rw [hmx] at HX
                have HG2 : Asd (∀ j, j < d + 1 → C j = true → M c j = true) := ⟨fun j hj hcj => by
                  by_cases e : j = d
                  · subst e; exact hmx
                  · exact HG.out j (by omega) hcj⟩
                clear hcd hmx
                go_wp2_with fail
                refine HD.out.mono ?_
                rintro e w2 ⟨rfl, rfl⟩
                go_wp2_with fail
                refine HX.out.mono ?_
                rintro e w2 ⟨rfl, rfl⟩
                go_wp2_with fail
                go_roundg (n - (d + 1))
                case rel => exact ⟨d + 1, by omega, rfl, by go_num, by trivial, HG2⟩
                case measure => omega
              | false =>
                rw [hmx] at HX
                have HF2 : Asd (∀ j, j < c + 1 → isLeast n M C j = false) := ⟨fun j hj => by
                  by_cases e : j = c
                  · subst e; exact isLeast_not hdn hcd hmx
                  · exact HF.out j (by omega)⟩
                clear hcd hmx
                go_wp2_with fail
                refine HD.out.mono ?_
                rintro e w2 ⟨rfl, rfl⟩
                go_wp2_with fail
                refine HX.out.mono ?_
                rintro e w2 ⟨rfl, rfl⟩
                go_wp2_with fail
                go_roundg (n - (c + 1))
                case rel => exact ⟨c + 1, by omega, rfl, by go_num, by trivial, HF2⟩
                case measure => omega
          · obtain rfl : d = n := by omega
            have HL := Asd.mk (show leastF d M C = some c from find_range_some hcn (isLeast_yes HCC.out HG.out) HF.out)
            go_wp2
            simp only [Exit.noGoto_ret]
            go_ret2
            exact ⟨by rw [HL.out]; rfl, by trivial⟩
    · obtain rfl : c = n := by omega
      have hlf : leastF c M C = none := find_range_none HF.out
      have HL := Asd.mk hlf
      clear hlf
      go_wp2
      simp only [Exit.noGoto_ret]
      go_ret2
      exact ⟨by rw [HL.out]; rfl, by trivial⟩
end Go.Proofs.Ythfoaehjnoiniaa
