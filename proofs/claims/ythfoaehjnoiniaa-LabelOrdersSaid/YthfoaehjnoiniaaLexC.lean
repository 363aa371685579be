/- lex.word, number, sign by their contracts. -/
import Derived.Test.YthfoaehjnoiniaaLexB
namespace Go.Proofs.Ythfoaehjnoiniaa
open Go.RowKit Go.PlainAid
/-- A word's kind, or why it is none. -/
def wordOf (s : ByteArray) : Int × Int := if isKey s then (3, 0) else if 20 < s.size then (0, 9) else (1, 0)
def numberOf (s t : ByteArray) : Int × Int := if 9 < s.size then (0, 9) else if (bt s 0 = 48 ∧ 1 < s.size) ∨ (0 < t.size ∧ isIn (bt t 0) = true) then (0, 10) else (2, 0)
set_option maxHeartbeats 1000000 in
set_option maxRecDepth 100000 in
theorem word_any (s : ByteArray) (w : World) : Calls Try.prog 112 #[.string s] w fun e w' => e = .returned (.tuple #[.int .i64 (wordOf s).1, .int .i64 (wordOf s).2]) ∧ Below w.heap.size w w' := by
  have HK := Asd.mk (key_any s w)
  unfold wordOf
  cases hk : isKey s with
  | true =>
    rw [hk] at HK
    clear hk
    go_enter Try.func112, Try.ntmps112
    go_wp2_with (go_at_call 120; refine HK.out.mono ?_; rintro e w1 ⟨rfl, hb⟩)
    go_ret2
    exact ⟨rfl, hb⟩
  | false =>
    rw [hk] at HK
    clear hk
    by_cases h : 20 < s.size
    · rw [if_neg (by decide), if_pos h]
      have hl : (20 : Int) < (s.size : Int) := by omega
      go_enter Try.func112, Try.ntmps112
      go_wp2_with (go_at_call 120; refine HK.out.mono ?_; rintro e w1 ⟨rfl, hb⟩)
      go_ret2
      exact ⟨rfl, hb⟩
    · rw [if_neg (by decide), if_neg h]
      have hl : ¬ (20 : Int) < (s.size : Int) := by omega
      go_enter Try.func112, Try.ntmps112
      go_wp2_with (go_at_call 120; refine HK.out.mono ?_; rintro e w1 ⟨rfl, hb⟩)
      go_ret2
      exact ⟨rfl, hb⟩
theorem empty_iff (t : ByteArray) : t.toList = [] ↔ t.size = 0 := by
  rw [ByteArray.toList_eq]
  constructor
  · intro h
    have := congrArg List.length h
    simpa using this
  · intro h
    apply List.eq_nil_of_length_eq_zero
    simpa using h
set_option maxHeartbeats 4000000 in
set_option maxRecDepth 100000 in
theorem number_any (s t : ByteArray) (w : World) (h0 : 0 < s.size) : Calls Try.prog 114 #[.string s, .string t] w fun e w' => e = .returned (.tuple #[.int .i64 (numberOf s t).1, .int .i64 (numberOf s t).2]) ∧ w' = w := by
  have HW := Asd.mk (within_any (bt t 0) w)
  have hb := get_bt s
  have hbt := get_bt t
  have h0' : (0 : Int) < (s.size : Int) := by omega
  by_cases h9 : 9 < s.size
  · have e1 : numberOf s t = (0, 9) := by unfold numberOf; rw [if_pos h9]
    rw [e1]
    have hl : (9 : Int) < (s.size : Int) := by omega
    go_enter Try.func114, Try.ntmps114
    go_wp2
    go_ret2
    exact ⟨rfl, rfl⟩
  · have hl : ¬ (9 : Int) < (s.size : Int) := by omega
    have e0 : numberOf s t = if (bt s 0 = 48 ∧ 1 < s.size) ∨ (0 < t.size ∧ isIn (bt t 0) = true) then (0, 10) else (2, 0) := by unfold numberOf; rw [if_neg h9]
    rw [e0]
    clear e0
    generalize hin : isIn (bt t 0) = z at *
    clear hin
    have hs1 : (1 : Int) < (s.size : Int) ∨ ¬ (1 : Int) < (s.size : Int) := Decidable.em _
    by_cases hA : bt s 0 = 48 ∧ 1 < s.size
    · rw [if_pos (Or.inl hA)]
      obtain ⟨hA1, hA2⟩ := hA
      have hA3 : (1 : Int) < (s.size : Int) := by omega
      clear hs1
      go_enter Try.func114, Try.ntmps114
      go_wp2
      go_ret2
      exact ⟨rfl, rfl⟩
    · by_cases ht : t.size = 0
      · rw [if_neg (by rintro (h | h); exact hA h; omega)]
        have htl : (t.toList == ([] : List UInt8)) = true := by rw [(empty_iff t).2 ht]; rfl
        by_cases h48 : bt s 0 = 48
        · have hA3 : ¬ (1 : Int) < (s.size : Int) := fun h => hA ⟨h48, by omega⟩
          clear hs1 hA
          go_enter Try.func114, Try.ntmps114
          go_wp2
          go_ret2
          exact ⟨rfl, rfl⟩
        · clear hs1 hA
          go_enter Try.func114, Try.ntmps114
          go_wp2
          go_ret2
          exact ⟨rfl, rfl⟩
      · have htl : (t.toList == ([] : List UInt8)) = false := by
          have : ¬ t.toList = [] := fun h => ht ((empty_iff t).1 h)
          simpa using this
        have ht0 : (0 : Int) < (t.size : Int) := by omega
        have ht1 : 0 < t.size := by omega
        cases z with
        | true =>
          rw [if_pos (Or.inr ⟨ht1, rfl⟩)]
          by_cases h48 : bt s 0 = 48
          · have hA3 : ¬ (1 : Int) < (s.size : Int) := fun h => hA ⟨h48, by omega⟩
            clear hs1 hA ht
            go_enter Try.func114, Try.ntmps114
            go_wp2_with (go_at_call 111; refine HW.out.mono ?_; rintro e w1 ⟨rfl, rfl⟩)
            go_ret2
            exact ⟨rfl, rfl⟩
          · clear hs1 hA ht
            go_enter Try.func114, Try.ntmps114
            go_wp2_with (go_at_call 111; refine HW.out.mono ?_; rintro e w1 ⟨rfl, rfl⟩)
            go_ret2
            exact ⟨rfl, rfl⟩
        | false =>
          rw [if_neg (by rintro (h | h); exact hA h; cases h.2)]
          by_cases h48 : bt s 0 = 48
          · have hA3 : ¬ (1 : Int) < (s.size : Int) := fun h => hA ⟨h48, by omega⟩
            clear hs1 hA ht
            go_enter Try.func114, Try.ntmps114
            go_wp2_with (go_at_call 111; refine HW.out.mono ?_; rintro e w1 ⟨rfl, rfl⟩)
            go_ret2
            exact ⟨rfl, rfl⟩
          · clear hs1 hA ht
            go_enter Try.func114, Try.ntmps114
            go_wp2_with (go_at_call 111; refine HW.out.mono ?_; rintro e w1 ⟨rfl, rfl⟩)
            go_ret2
            exact ⟨rfl, rfl⟩
end Go.Proofs.Ythfoaehjnoiniaa
