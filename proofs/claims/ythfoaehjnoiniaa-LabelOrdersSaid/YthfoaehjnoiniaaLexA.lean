/- The lexers' small parts by their contracts: bytes, key words, signs. No condition. -/
import Derived.Test.YthfoaehjnoiniaaPlace
import Derived.PlainAid
namespace Go.Proofs.Ythfoaehjnoiniaa
open Go.RowKit
def isSmall (c : Int) : Bool := decide (97 ≤ c) && decide (c ≤ 122)
def isDig (c : Int) : Bool := decide (48 ≤ c) && decide (c ≤ 57)
def isIn (c : Int) : Bool := isSmall c || isDig c || decide (c = 95)
def isNl (c : Int) : Bool := !decide (c = 10)
section
variable (c : Int) (w : World)
theorem small_any : Calls Try.prog 110 #[.int .u8 c] w fun e w' => e = .returned (.bool (isSmall c)) ∧ w' = w := by
  by_cases h1 : 97 ≤ c <;> by_cases h2 : c ≤ 122 <;>
  · go_enter Try.func110, Try.ntmps110
    go_wp2
    go_ret
    exact ⟨by simp [isSmall, h1, h2], rfl⟩
theorem digit_any : Calls Try.prog 113 #[.int .u8 c] w fun e w' => e = .returned (.bool (isDig c)) ∧ w' = w := by
  by_cases h1 : 48 ≤ c <;> by_cases h2 : c ≤ 57 <;>
  · go_enter Try.func113, Try.ntmps113
    go_wp2
    go_ret
    exact ⟨by simp [isDig, h1, h2], rfl⟩
theorem letter11_any : Calls Try.prog 95 #[.int .u8 c] w fun e w' => e = .returned (.bool (isSmall c)) ∧ w' = w := by
  by_cases h1 : 97 ≤ c <;> by_cases h2 : c ≤ 122 <;>
  · go_enter Try.func95, Try.ntmps95
    go_wp2
    go_ret
    exact ⟨by simp [isSmall, h1, h2], rfl⟩
theorem digit11_any : Calls Try.prog 96 #[.int .u8 c] w fun e w' => e = .returned (.bool (isDig c)) ∧ w' = w := by
  by_cases h1 : 48 ≤ c <;> by_cases h2 : c ≤ 57 <;>
  · go_enter Try.func96, Try.ntmps96
    go_wp2
    go_ret
    exact ⟨by simp [isDig, h1, h2], rfl⟩
theorem nl_any : Calls Try.prog 109 #[.int .u8 c] w fun e w' => e = .returned (.bool (isNl c)) ∧ w' = w := by
  by_cases h1 : c = 10
  · go_enter Try.func109, Try.ntmps109
    go_wp2
    go_ret
    exact ⟨by simp [isNl, h1], rfl⟩
  · go_enter Try.func109, Try.ntmps109
    go_wp2
    go_ret
    exact ⟨by simp [isNl, h1], rfl⟩
set_option maxHeartbeats 1000000 in
set_option maxRecDepth 100000 in
theorem within_any : Calls Try.prog 111 #[.int .u8 c] w fun e w' => e = .returned (.bool (isIn c)) ∧ w' = w := by
  by_cases h : c = 95
  · subst h
    have hs : Calls Try.prog 110 #[.int .u8 95] w fun e w' => e = .returned (.bool false) ∧ w' = w := small_any 95 w
    have hd : Calls Try.prog 113 #[.int .u8 95] w fun e w' => e = .returned (.bool false) ∧ w' = w := digit_any 95 w
    have HS := Asd.mk hs; have HD := Asd.mk hd
    clear hs hd
    go_enter Try.func111, Try.ntmps111
    go_wp2_with (first
      | (go_at_call 110; refine HS.out.mono ?_; rintro e w1 ⟨rfl, rfl⟩)
      | (go_at_call 113; refine HD.out.mono ?_; rintro e w1 ⟨rfl, rfl⟩))
    go_ret
    exact ⟨rfl, rfl⟩
  · have HS := Asd.mk (small_any c w); have HD := Asd.mk (digit_any c w)
    have e1 : isIn c = (isSmall c || isDig c) := by simp [isIn, h]
    rw [e1]
    clear e1
    generalize isSmall c = s at *
    generalize isDig c = d at *
    cases s with
    | true =>
      go_enter Try.func111, Try.ntmps111
      go_wp2_with (first
        | (go_at_call 110; refine HS.out.mono ?_; rintro e w1 ⟨rfl, rfl⟩)
        | (go_at_call 113; refine HD.out.mono ?_; rintro e w1 ⟨rfl, rfl⟩))
      go_ret
      exact ⟨rfl, rfl⟩
    | false =>
      cases d with
      | true =>
        go_enter Try.func111, Try.ntmps111
        go_wp2_with (first
          | (go_at_call 110; refine HS.out.mono ?_; rintro e w1 ⟨rfl, rfl⟩)
          | (go_at_call 113; refine HD.out.mono ?_; rintro e w1 ⟨rfl, rfl⟩))
        go_ret
        exact ⟨rfl, rfl⟩
      | false =>
        go_enter Try.func111, Try.ntmps111
        go_wp2_with (first
          | (go_at_call 110; refine HS.out.mono ?_; rintro e w1 ⟨rfl, rfl⟩)
          | (go_at_call 113; refine HD.out.mono ?_; rintro e w1 ⟨rfl, rfl⟩))
        go_ret
        exact ⟨by show Ending.returned (.bool (c == 95)) = _; rw [beq_false_of_ne h]; rfl, rfl⟩
end
/-! ### key words -/
def kws : List ByteArray := [⟨#[109, 111, 100, 117, 108, 101]⟩, ⟨#[105, 109, 112, 111, 114, 116]⟩, ⟨#[118, 97, 114]⟩, ⟨#[112, 114, 111, 99]⟩, ⟨#[112, 99]⟩, ⟨#[117, 115, 101, 115]⟩, ⟨#[108, 101, 116]⟩, ⟨#[99, 97, 108, 108]⟩, ⟨#[105, 102]⟩, ⟨#[101, 108, 115, 101]⟩, ⟨#[119, 104, 105, 108, 101]⟩, ⟨#[101, 109, 105, 116]⟩, ⟨#[114, 101, 115, 117, 108, 116]⟩, ⟨#[115, 107, 105, 112]⟩, ⟨#[108, 97, 98, 101, 108, 115]⟩]
def isKey (s : ByteArray) : Bool := Go.Lib.containsS kws s
theorem isKey_iff (s : ByteArray) : isKey s = true ↔ s ∈ kws := Go.Lib.containsS_iff kws s
set_option maxRecDepth 100000 in
theorem key_any (s : ByteArray) (w : World) : Calls Try.prog 120 #[.string s] w fun e w' => e = .returned (.bool (isKey s)) ∧ Below w.heap.size w w' := by
  have hb : Below w.heap.size w (w.alloc (.cells (kws.map Value.string).toArray 9)) := (Below.refl _ _).alloc (Nat.le_refl _) _
  have hblk := Blk.new w 9 (kws.map Value.string).toArray
  have HC := Asd.mk (Try.slices_Contains_string w.heap.size 0 15 15 kws s (w.alloc (.cells (kws.map Value.string).toArray 9)) (by decide) (by decide) (fun j hj => by
    have h := hblk.cell j
    rw [Nat.zero_add]
    refine h.trans ?_
    rw [List.getElem?_toArray, List.getElem?_map, List.getElem?_eq_getElem hj, List.getD_eq_getElem?_getD, List.getElem?_eq_getElem hj]; rfl))
  have HB := Asd.mk hb
  clear hb hblk
  have e1 : isKey s = Lib.containsS (kws.take 15) s := rfl
  rw [← e1] at HC
  generalize isKey s = t at *
  clear e1
  go_enter Try.func120, Try.ntmps120
  go_wp2_with (go_at_call 123; refine HC.out.mono ?_; rintro e w1 ⟨rfl, rfl⟩)
  go_ret
  exact ⟨rfl, HB.out⟩
theorem eql_false {x y : ByteArray} (h : x ≠ y) : (x.toList == y.toList) = false := by
  have h' : ¬ x.toList = y.toList := fun e => h (toList_inj e)
  simpa using h'
/-- What the walk asks where a string is held against a text. -/
theorem eql_lit {x : ByteArray} {l : List UInt8} (h : x ≠ ⟨l.toArray⟩) : (x.toList == l) = false := by
  have h' : ¬ x.toList = l := fun e => h (by
    rw [ByteArray.toList_eq] at e
    rw [ByteArray.ext_iff, ← Array.toList_inj, e])
  simpa using h'
set_option maxHeartbeats 2000000 in
set_option maxRecDepth 100000 in
theorem key11_no (s : ByteArray) (w : World) (h : s ∉ kws) : Calls Try.prog 97 #[.string s] w fun e w' => e = .returned (.bool false) ∧ w' = w := by
  unfold kws at h
  simp only [List.mem_cons, List.not_mem_nil, or_false, not_or] at h
  obtain ⟨h0, h1, h2, h3, h4, h5, h6, h7, h8, h9, h10, h11, h12, h13, h14⟩ := h
  have q0 : (s.toList == [109, 111, 100, 117, 108, 101]) = false := eql_lit h0
  have q1 : (s.toList == [105, 109, 112, 111, 114, 116]) = false := eql_lit h1
  have q2 : (s.toList == [118, 97, 114]) = false := eql_lit h2
  have q3 : (s.toList == [112, 114, 111, 99]) = false := eql_lit h3
  have q4 : (s.toList == [112, 99]) = false := eql_lit h4
  have q5 : (s.toList == [117, 115, 101, 115]) = false := eql_lit h5
  have q6 : (s.toList == [108, 101, 116]) = false := eql_lit h6
  have q7 : (s.toList == [99, 97, 108, 108]) = false := eql_lit h7
  have q8 : (s.toList == [105, 102]) = false := eql_lit h8
  have q9 : (s.toList == [101, 108, 115, 101]) = false := eql_lit h9
  have q10 : (s.toList == [119, 104, 105, 108, 101]) = false := eql_lit h10
  have q11 : (s.toList == [101, 109, 105, 116]) = false := eql_lit h11
  have q12 : (s.toList == [114, 101, 115, 117, 108, 116]) = false := eql_lit h12
  have q13 : (s.toList == [115, 107, 105, 112]) = false := eql_lit h13
  have q14 : (s.toList == [108, 97, 98, 101, 108, 115]) = false := eql_lit h14
  clear h0 h1 h2 h3 h4 h5 h6 h7 h8 h9 h10 h11 h12 h13 h14
  go_enter Try.func97, Try.ntmps97
  go_wp2
  go_ret
  exact ⟨rfl, rfl⟩
set_option maxHeartbeats 4000000 in
set_option maxRecDepth 100000 in
theorem key11_yes (s : ByteArray) (w : World) (h : s ∈ kws) : Calls Try.prog 97 #[.string s] w fun e w' => e = .returned (.bool true) ∧ w' = w := by
  unfold kws at h
  simp only [List.mem_cons, List.not_mem_nil, or_false] at h
  rcases h with rfl | rfl | rfl | rfl | rfl | rfl | rfl | rfl | rfl | rfl | rfl | rfl | rfl | rfl | rfl <;>
  · go_enter Try.func97, Try.ntmps97
    go_wp2
    go_ret
    exact ⟨rfl, rfl⟩
theorem key11_any (s : ByteArray) (w : World) : Calls Try.prog 97 #[.string s] w fun e w' => e = .returned (.bool (isKey s)) ∧ w' = w := by
  cases h : isKey s with
  | true => exact key11_yes s w ((isKey_iff s).1 h)
  | false => exact key11_no s w fun hs => by rw [(isKey_iff s).2 hs] at h; cases h
end Go.Proofs.Ythfoaehjnoiniaa
