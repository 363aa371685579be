/- lex.sign by its contract. -/
import Derived.Test.YthfoaehjnoiniaaLexC
namespace Go.Proofs.Ythfoaehjnoiniaa
open Go.RowKit Go.PlainAid
def sgs : List UInt8 := [40, 41, 123, 125, 44, 59, 58, 46, 61, 60, 43, 45, 42, 47, 37, 33]
def twos : List ByteArray := [⟨#[61, 61]⟩, ⟨#[60, 61]⟩, ⟨#[45, 62]⟩]
def pre (t p : ByteArray) : Bool := Go.Lib.hasPrefix t.data.toList p.data.toList
/-- The longest sign that a text begins with. -/
def signOf (t : ByteArray) : ByteArray := match twos.find? (pre t) with
  | some p => p
  | none => if 0 < t.size ∧ 0 ≤ Go.Lib.indexByte sgs (bt t 0).toNat.toUInt8 then t.extract 0 1 else ⟨#[]⟩
set_option maxHeartbeats 2000000 in
set_option maxRecDepth 100000 in
theorem sign_any (t : ByteArray) (w : World) : Calls Try.prog 115 #[.string t] w fun e w' => e = .returned (.string (signOf t)) ∧ Below w.heap.size w w' := by
  have hblk := Blk.new w 9 (twos.map Value.string).toArray
  have hbel : Below w.heap.size w (w.alloc (.cells (twos.map Value.string).toArray 9)) := (Below.refl _ _).alloc (Nat.le_refl _) _
  have hbt := get_bt t
  have HB := Asd.mk hblk
  have HW := Asd.mk hbel
  have HP : Asd (∀ p V, Calls Try.prog 121 #[.string t, .string p] V fun e w' => e = .returned (.bool (pre t p)) ∧ w' = V) := ⟨fun p V => Try.strings_HasPrefix t p V⟩
  have HI : Asd (∀ V, Calls Try.prog 122 #[.string ⟨#[40, 41, 123, 125, 44, 59, 58, 46, 61, 60, 43, 45, 42, 47, 37, 33]⟩, .int .u8 (bt t 0)] V fun e w' => e = .returned (.int .i64 (Go.Lib.indexByte sgs (bt t 0).toNat.toUInt8)) ∧ w' = V) := ⟨fun V => Try.strings_IndexByte _ (bt t 0) V⟩
  clear hblk hbel
  go_enter Try.func115, Try.ntmps115
  go_wp2
  go_loopw [4, 7] (fun _ i wr => ∃ k : Nat, k ≤ 3 ∧ i = .int .i64 (k : Nat) ∧ wr = w.alloc (.cells (twos.map Value.string).toArray 9) ∧ Asd (∀ j p, j < k → twos[j]? = some p → pre t p = false)) (fun _ i _ => 3 - (intOf i).toNat)
  case atStart => exact ⟨0, Nat.zero_le _, rfl, rfl, ⟨fun j p h => by omega⟩⟩
  case round =>
    obtain ⟨k, hk, rfl, rfl, HN⟩ := hrel
    have hk0 : (0 : Int) ≤ (k : Int) := Int.natCast_nonneg _
    by_cases hlt : k < 3
    · obtain ⟨p, hp⟩ : ∃ p, twos[k]? = some p := ⟨_, List.getElem?_eq_getElem (show k < twos.length from hlt)⟩
      have c0 : (w.alloc (.cells (twos.map Value.string).toArray 9)).cell? ⟨w.heap.size, k, none⟩ = some (.string p) := by
        rw [HB.out.cell k, List.getElem?_toArray, List.getElem?_map, hp]; rfl
      have hk1 : (k : Int) < 3 := by omega
      have HPP := Asd.mk hp
      cases hpp : pre t p with
      | true =>
        have HC := Asd.mk (HP.out p (w.alloc (.cells (twos.map Value.string).toArray 9)))
        rw [hpp] at HC
        have HE : Asd (signOf t = p) := ⟨by
          have h1 : twos.find? (pre t) = some p := by
            rw [List.find?_eq_some_iff_getElem]
            obtain ⟨hl, he⟩ := List.getElem?_eq_some_iff.1 hp
            exact ⟨hpp, k, hl, he, fun j hj => by rw [HN.out j _ hj (List.getElem?_eq_getElem (by omega))]; rfl⟩
          unfold signOf
          rw [h1]⟩
        clear hp hpp
        go_wp2_with (go_at_call 121; refine HC.out.mono ?_; rintro e w1 ⟨rfl, rfl⟩)
        go_ret
        exact ⟨by rw [HE.out]; rfl, HW.out⟩
      | false =>
        have HC := Asd.mk (HP.out p (w.alloc (.cells (twos.map Value.string).toArray 9)))
        rw [hpp] at HC
        have HN2 : Asd (∀ j p, j < k + 1 → twos[j]? = some p → pre t p = false) := ⟨fun j q hj hq => by
          rcases Nat.lt_or_ge j k with h | h
          · exact HN.out j q h hq
          · obtain rfl : j = k := by omega
            rw [hp] at hq
            injection hq with hq
            rw [← hq]; exact hpp⟩
        clear hp hpp
        go_wp2_with (go_at_call 121; refine HC.out.mono ?_; rintro e w1 ⟨rfl, rfl⟩)
        go_roundw
        case rel => exact ⟨k + 1, by omega, by go_num, by trivial, HN2⟩
        case measure => simp [intOf]; omega
    · obtain rfl : k = 3 := by omega
      have HE : Asd (signOf t = if 0 < t.size ∧ 0 ≤ Go.Lib.indexByte sgs (bt t 0).toNat.toUInt8 then t.extract 0 1 else ⟨#[]⟩) := ⟨by
        have h1 : twos.find? (pre t) = none := by
          rw [List.find?_eq_none]
          intro q hq
          obtain ⟨j, hj, rfl⟩ := List.mem_iff_getElem.1 hq
          rw [HN.out j _ hj (List.getElem?_eq_getElem hj)]
          simp
        unfold signOf
        rw [h1]⟩
      by_cases ht : t.size = 0
      · have htl : (t.toList == ([] : List UInt8)) = true := by rw [(empty_iff t).2 ht]; rfl
        have HE2 : Asd (signOf t = ⟨#[]⟩) := ⟨by rw [HE.out, if_neg (by omega)]⟩
        clear ht HE
        go_wp2
        go_ret
        exact ⟨by rw [HE2.out]; rfl, HW.out⟩
      · have htl : (t.toList == ([] : List UInt8)) = false := by
          have : ¬ t.toList = [] := fun h => ht ((empty_iff t).1 h)
          simpa using this
        have ht0 : (0 : Int) < (t.size : Int) := by omega
        have ht1 : (1 : Int) ≤ (t.size : Int) := by omega
        have HC := Asd.mk (HI.out (w.alloc (.cells (twos.map Value.string).toArray 9)))
        have ht2 : 0 < t.size := by omega
        generalize Go.Lib.indexByte sgs (bt t 0).toNat.toUInt8 = q at *
        by_cases hq : 0 ≤ q
        · have HE2 : Asd (signOf t = t.extract 0 1) := ⟨by rw [HE.out, if_pos ⟨ht2, hq⟩]⟩
          clear ht HE HI
          go_wp2_with (go_at_call 122; refine HC.out.mono ?_; rintro e w1 ⟨rfl, rfl⟩)
          go_ret
          exact ⟨by rw [HE2.out]; rfl, HW.out⟩
        · have HE2 : Asd (signOf t = ⟨#[]⟩) := ⟨by rw [HE.out, if_neg (fun h => hq h.2)]⟩
          clear ht HE HI
          go_wp2_with (go_at_call 122; refine HC.out.mono ?_; rintro e w1 ⟨rfl, rfl⟩)
          go_ret
          exact ⟨by rw [HE2.out]; rfl, HW.out⟩
end Go.Proofs.Ythfoaehjnoiniaa
