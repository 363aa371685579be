/- The closures of label.complete by their contracts. -/
import Derived.Test.YthfoaehjnoiniaaLabL
namespace Go.Proofs.Ythfoaehjnoiniaa
open Go.RowKit
theorem tab_at {w : World} {S : Nat → Prop} {A : Option Addr} {n : Nat} {M : Tab} (h : Sl (rSl rBool) w S A (tabB n M)) {a b : Nat} (ha : a < n) (hb : b < n) :
    ∃ ad ad' c, A = some ad ∧ w.cell? (ad.add a) = some (.slice (some ad') n c) ∧ w.cell? (ad'.add b) = some (.bool (M a b)) := by
  obtain ⟨ad, u, h1, _, ⟨A', c, hu, _, _, hs⟩, h4⟩ := h.at1 (tabB_row ha) rfl
  injection hu with hu _
  subst hu
  obtain ⟨ad', u, h5, _, hu, h6⟩ := hs.at1 (row_at hb) rfl
  have hu' : [u] = [.bool (M a b)] := hu
  injection hu' with hu' _
  subst hu' h5
  exact ⟨ad, ad', c, h1, by simpa using h4, h6⟩
section
variable {w : World} {S : Nat → Prop} {A : Option Addr} {n cp tb : Nat} {M : Tab}
set_option maxHeartbeats 1000000 in
set_option maxRecDepth 100000 in
theorem le_any (h : Sl (rSl rBool) w S A (tabB n M)) (ht : w.cell? ⟨tb, 1, none⟩ = some (.slice A n cp)) {a b : Nat} (ha : a < n) (hb : b < n) :
    Calls Try.prog 55 #[.int .i64 a, .int .i64 b, .pointer (some ⟨tb, 0, none⟩)] w fun e w' => e = .returned (.bool (M a b)) ∧ w' = w := by
  obtain ⟨ad, ad', c, rfl, h1, h2⟩ := tab_at h ha hb
  have ha0 : (0 : Int) ≤ (a : Int) := Int.natCast_nonneg _
  have hb0 : (0 : Int) ≤ (b : Int) := Int.natCast_nonneg _
  have ha1 : (a : Int) < (n : Int) := by omega
  have hb1 : (b : Int) < (n : Int) := by omega
  clear h
  go_enter Try.func55, Try.ntmps55
  go_wp2
  go_ret
  exact ⟨rfl, rfl⟩
set_option maxHeartbeats 1000000 in
set_option maxRecDepth 100000 in
theorem ge_any (h : Sl (rSl rBool) w S A (tabB n M)) (ht : w.cell? ⟨tb, 1, none⟩ = some (.slice A n cp)) {a b : Nat} (ha : a < n) (hb : b < n) :
    Calls Try.prog 56 #[.int .i64 a, .int .i64 b, .pointer (some ⟨tb, 0, none⟩)] w fun e w' => e = .returned (.bool (M b a)) ∧ w' = w := by
  obtain ⟨ad, ad', c, rfl, h1, h2⟩ := tab_at h hb ha
  have ha0 : (0 : Int) ≤ (a : Int) := Int.natCast_nonneg _
  have hb0 : (0 : Int) ≤ (b : Int) := Int.natCast_nonneg _
  have ha1 : (a : Int) < (n : Int) := by omega
  have hb1 : (b : Int) < (n : Int) := by omega
  clear h
  go_enter Try.func56, Try.ntmps56
  go_wp2
  go_ret
  exact ⟨rfl, rfl⟩
/-- What the closures of a join, of a meet, have caught: le, a, b. -/
structure Caught (w : World) (tb p q r a b : Nat) : Prop where
  f : w.cell? ⟨p, 0, none⟩ = some (.func (.func 55) #[] #[.pointer (some ⟨tb, 0, none⟩)])
  a : w.cell? ⟨q, 0, none⟩ = some (.int .i64 a)
  b : w.cell? ⟨r, 0, none⟩ = some (.int .i64 b)
set_option maxHeartbeats 1000000 in
set_option maxRecDepth 100000 in
theorem up_any (h : Sl (rSl rBool) w S A (tabB n M)) (ht : w.cell? ⟨tb, 1, none⟩ = some (.slice A n cp)) {p q r a b c : Nat} (hc : Caught w tb p q r a b) (ha : a < n) (hb : b < n) (hcn : c < n) :
    Calls Try.prog 58 #[.int .i64 c, .pointer (some ⟨p, 0, none⟩), .pointer (some ⟨q, 0, none⟩), .pointer (some ⟨r, 0, none⟩)] w fun e w' => e = .returned (.bool (M a c && M b c)) ∧ w' = w := by
  have H1 := Asd.mk (le_any h ht ha hcn)
  have H2 := Asd.mk (le_any h ht hb hcn)
  have c1 := hc.f
  have c2 := hc.a
  have c3 := hc.b
  clear h ht hc
  generalize M a c = x at *
  generalize M b c = y at *
  cases x with
  | true =>
    go_enter Try.func58, Try.ntmps58
    go_wp2_with fail
    refine H1.out.mono ?_
    rintro e w1 ⟨rfl, rfl⟩
    go_wp2_with fail
    refine H2.out.mono ?_
    rintro e w1 ⟨rfl, rfl⟩
    go_wp2_with fail
    go_ret
    exact ⟨rfl, rfl⟩
  | false =>
    go_enter Try.func58, Try.ntmps58
    go_wp2_with fail
    refine H1.out.mono ?_
    rintro e w1 ⟨rfl, rfl⟩
    go_wp2_with fail
    go_ret
    exact ⟨rfl, rfl⟩
set_option maxHeartbeats 1000000 in
set_option maxRecDepth 100000 in
theorem down_any (h : Sl (rSl rBool) w S A (tabB n M)) (ht : w.cell? ⟨tb, 1, none⟩ = some (.slice A n cp)) {p q r a b c : Nat} (hc : Caught w tb p q r a b) (ha : a < n) (hb : b < n) (hcn : c < n) :
    Calls Try.prog 59 #[.int .i64 c, .pointer (some ⟨p, 0, none⟩), .pointer (some ⟨q, 0, none⟩), .pointer (some ⟨r, 0, none⟩)] w fun e w' => e = .returned (.bool (M c a && M c b)) ∧ w' = w := by
  have H1 := Asd.mk (le_any h ht hcn ha)
  have H2 := Asd.mk (le_any h ht hcn hb)
  have c1 := hc.f
  have c2 := hc.a
  have c3 := hc.b
  clear h ht hc
  generalize M c a = x at *
  generalize M c b = y at *
  cases x with
  | true =>
    go_enter Try.func59, Try.ntmps59
    go_wp2_with fail
    refine H1.out.mono ?_
    rintro e w1 ⟨rfl, rfl⟩
    go_wp2_with fail
    refine H2.out.mono ?_
    rintro e w1 ⟨rfl, rfl⟩
    go_wp2_with fail
    go_ret
    exact ⟨rfl, rfl⟩
  | false =>
    go_enter Try.func59, Try.ntmps59
    go_wp2_with fail
    refine H1.out.mono ?_
    rintro e w1 ⟨rfl, rfl⟩
    go_wp2_with fail
    go_ret
    exact ⟨rfl, rfl⟩
end
theorem yes_low (c : Int) (w : World) : Calls Try.prog 60 #[.int .i64 c] w fun e w' => e = .returned (.bool true) ∧ w' = w := by
  go_enter Try.func60, Try.ntmps60
  go_wp2
  go_ret
  exact ⟨rfl, rfl⟩
theorem yes_high (c : Int) (w : World) : Calls Try.prog 61 #[.int .i64 c] w fun e w' => e = .returned (.bool true) ∧ w' = w := by
  go_enter Try.func61, Try.ntmps61
  go_wp2
  go_ret
  exact ⟨rfl, rfl⟩
theorem enters {f : FuncId} {fn : Func} {c : Code} (hf : Try.prog.funcs[f]? = some fn) (hname : (fn.name == "runtime.NumGoroutine") = false) (hb : fn.body = some c) (args : Array Value) (w : World) : (callFunc f args).run Try.prog w = .ok (.enter f args) w := by
  have h1 : fn.name ≠ "runtime.NumGoroutine" := by simpa using hname
  simp [callFunc, hf, h1, hb]
end Go.Proofs.Ythfoaehjnoiniaa
