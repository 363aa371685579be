/- lex.All's closure 'run' by its contract: as far as the bytes are so. -/
import Derived.Test.YthfoaehjnoiniaaLexA
namespace Go.Proofs.Ythfoaehjnoiniaa
open Go.RowKit Go.PlainAid
def runF (s : ByteArray) (p : Int → Bool) : Nat → Nat → Nat
  | 0, i => i
  | f + 1, i => if i < s.size ∧ p (bt s i) = true then runF s p f (i + 1) else i
/-- The first place from i on where the bytes are no longer so. -/
def runE (s : ByteArray) (p : Int → Bool) (i : Nat) : Nat := runF s p (s.size - i) i
theorem runE_step {s : ByteArray} {p : Int → Bool} {i : Nat} (h : i < s.size) (hp : p (bt s i) = true) : runE s p i = runE s p (i + 1) := by
  unfold runE
  rw [show s.size - i = (s.size - (i + 1)) + 1 from by omega]
  conv => lhs; unfold runF
  rw [if_pos ⟨h, hp⟩]
theorem runE_stop {s : ByteArray} {p : Int → Bool} {i : Nat} (h : ¬ (i < s.size ∧ p (bt s i) = true)) : runE s p i = i := by
  unfold runE
  cases hd : s.size - i with
  | zero => rfl
  | succ n => unfold runF; rw [if_neg h]
theorem runF_ge (s : ByteArray) (p : Int → Bool) : ∀ f i, i ≤ runF s p f i
  | 0, i => Nat.le_refl _
  | f + 1, i => by
    unfold runF
    split
    · exact Nat.le_trans (Nat.le_succ _) (runF_ge s p f (i + 1))
    · exact Nat.le_refl _
theorem runF_le (s : ByteArray) (p : Int → Bool) : ∀ f i, i ≤ s.size → runF s p f i ≤ s.size
  | 0, i, h => h
  | f + 1, i, h => by
    unfold runF
    split
    · rename_i h'; exact runF_le s p f (i + 1) h'.1
    · exact h
theorem runE_ge (s : ByteArray) (p : Int → Bool) (i : Nat) : i ≤ runE s p i := runF_ge s p _ i
theorem runE_le (s : ByteArray) (p : Int → Bool) {i : Nat} (h : i ≤ s.size) : runE s p i ≤ s.size := runF_le s p _ i h
set_option maxHeartbeats 1000000 in
set_option maxRecDepth 100000 in
theorem run_nl (s : ByteArray) (i : Nat) (ab sb : Nat) (w : World) (ha : Blk w ab 3 #[.int .i64 i]) (hs : Blk w sb 9 #[.string s]) (hi : i ≤ s.size) (hsz : s.size ≤ 9223372036854775806) :
    Calls Try.prog 108 #[.func (.func 109) #[] #[], .pointer (some ⟨ab, 0, none⟩), .pointer (some ⟨sb, 0, none⟩)] w fun e w' => e = .returned (.string (s.extract i (runE s isNl i))) ∧ Blk w' ab 3 #[.int .i64 (runE s isNl i)] ∧ w.grownBy w' (some ab) := by
  have hsb : some sb ≠ some ab := fun e => by
    injection e with e
    subst e
    have := ha.symm.trans hs
    simp at this
  have HSB := Asd.mk hsb
  have HS0 := Asd.mk hs
  have hcs : w.cell? ⟨sb, 0, none⟩ = some (.string s) := hs.cell 0
  have hca : w.cell? ⟨ab, 0, none⟩ = some (.int .i64 i) := ha.cell 0
  have HA0 := Asd.mk ha
  clear hs ha hsb
  go_enter Try.func108, Try.ntmps108
  go_wp2
  clear hcs hca
  go_loopg [17] (s.size - i) (fun gk _ wr => ∃ k : Nat, i ≤ k ∧ k ≤ s.size ∧ gk = s.size - k ∧ Blk wr ab 3 #[.int .i64 k] ∧ w.grownBy wr (some ab) ∧ Asd (runE s isNl i = runE s isNl k))
  case atStart => exact ⟨i, Nat.le_refl _, hi, rfl, HA0.out, World.grownBy.refl _ _, ⟨rfl⟩⟩
  case round =>
    obtain ⟨k, hk, hks, rfl, ha, hg, HE⟩ := hrel
    have hs := HS0.out.grown hg HSB.out
    have c0 : wr.cell? ⟨sb, 0, none⟩ = some (.string s) := hs.cell 0
    have c1 : wr.cell? ⟨ab, 0, none⟩ = some (.int .i64 k) := ha.cell 0
    have f1 : wr.frozen? ⟨ab, 0, none⟩ = false := ha.free 0
    have hk0 : (0 : Int) ≤ (k : Int) := Int.natCast_nonneg _
    have hb := get_bt s
    clear hs
    by_cases hlt : k < s.size
    · cases hp : isNl (bt s k) with
      | true =>
        have HC := Asd.mk (nl_any (bt s k) wr)
        rw [hp] at HC
        have HE2 := Asd.mk (HE.out.trans (runE_step hlt hp))
        have hks1 : (k : Int) < (s.size : Int) := by omega
        clear hp HE
        go_wp2_with (go_at_call 109; refine HC.out.mono ?_; rintro e w1 ⟨rfl, rfl⟩)
        go_roundg (s.size - (k + 1))
        case rel => exact ⟨k + 1, by omega, by omega, rfl, ha.set_ 0 _, grown_set hg (.inl rfl) _, HE2⟩
        case measure => omega
      | false =>
        have HC := Asd.mk (nl_any (bt s k) wr)
        rw [hp] at HC
        have HE2 := Asd.mk (HE.out.trans (runE_stop (fun h => by rw [hp] at h; cases h.2)))
        have hks1 : (k : Int) < (s.size : Int) := by omega
        clear hp HE
        go_wp2_with (go_at_call 109; refine HC.out.mono ?_; rintro e w1 ⟨rfl, rfl⟩)
        go_ret
        rw [HE2.out]
        exact ⟨rfl, ha, hg⟩
    · have hke : k = s.size := by omega
      have HE2 := Asd.mk (HE.out.trans (runE_stop (fun h => hlt h.1)))
      have hks1 : ¬ (k : Int) < (s.size : Int) := by omega
      clear HE hke
      go_wp2
      go_ret
      rw [HE2.out]
      exact ⟨rfl, ha, hg⟩
set_option maxHeartbeats 1000000 in
set_option maxRecDepth 100000 in
theorem run_in (s : ByteArray) (i : Nat) (ab sb : Nat) (w : World) (ha : Blk w ab 3 #[.int .i64 i]) (hs : Blk w sb 9 #[.string s]) (hi : i ≤ s.size) (hsz : s.size ≤ 9223372036854775806) :
    Calls Try.prog 108 #[.func (.func 111) #[] #[], .pointer (some ⟨ab, 0, none⟩), .pointer (some ⟨sb, 0, none⟩)] w fun e w' => e = .returned (.string (s.extract i (runE s isIn i))) ∧ Blk w' ab 3 #[.int .i64 (runE s isIn i)] ∧ w.grownBy w' (some ab) := by
  have hsb : some sb ≠ some ab := fun e => by
    injection e with e
    subst e
    have := ha.symm.trans hs
    simp at this
  have HSB := Asd.mk hsb
  have HS0 := Asd.mk hs
  have hcs : w.cell? ⟨sb, 0, none⟩ = some (.string s) := hs.cell 0
  have hca : w.cell? ⟨ab, 0, none⟩ = some (.int .i64 i) := ha.cell 0
  have HA0 := Asd.mk ha
  clear hs ha hsb
  go_enter Try.func108, Try.ntmps108
  go_wp2
  clear hcs hca
  go_loopg [17] (s.size - i) (fun gk _ wr => ∃ k : Nat, i ≤ k ∧ k ≤ s.size ∧ gk = s.size - k ∧ Blk wr ab 3 #[.int .i64 k] ∧ w.grownBy wr (some ab) ∧ Asd (runE s isIn i = runE s isIn k))
  case atStart => exact ⟨i, Nat.le_refl _, hi, rfl, HA0.out, World.grownBy.refl _ _, ⟨rfl⟩⟩
  case round =>
    obtain ⟨k, hk, hks, rfl, ha, hg, HE⟩ := hrel
    have hs := HS0.out.grown hg HSB.out
    have c0 : wr.cell? ⟨sb, 0, none⟩ = some (.string s) := hs.cell 0
    have c1 : wr.cell? ⟨ab, 0, none⟩ = some (.int .i64 k) := ha.cell 0
    have f1 : wr.frozen? ⟨ab, 0, none⟩ = false := ha.free 0
    have hk0 : (0 : Int) ≤ (k : Int) := Int.natCast_nonneg _
    have hb := get_bt s
    clear hs
    by_cases hlt : k < s.size
    · cases hp : isIn (bt s k) with
      | true =>
        have HC := Asd.mk (within_any (bt s k) wr)
        rw [hp] at HC
        have HE2 := Asd.mk (HE.out.trans (runE_step hlt hp))
        have hks1 : (k : Int) < (s.size : Int) := by omega
        clear hp HE
        go_wp2_with (go_at_call 111; refine HC.out.mono ?_; rintro e w1 ⟨rfl, rfl⟩)
        go_roundg (s.size - (k + 1))
        case rel => exact ⟨k + 1, by omega, by omega, rfl, ha.set_ 0 _, grown_set hg (.inl rfl) _, HE2⟩
        case measure => omega
      | false =>
        have HC := Asd.mk (within_any (bt s k) wr)
        rw [hp] at HC
        have HE2 := Asd.mk (HE.out.trans (runE_stop (fun h => by rw [hp] at h; cases h.2)))
        have hks1 : (k : Int) < (s.size : Int) := by omega
        clear hp HE
        go_wp2_with (go_at_call 111; refine HC.out.mono ?_; rintro e w1 ⟨rfl, rfl⟩)
        go_ret
        rw [HE2.out]
        exact ⟨rfl, ha, hg⟩
    · have hke : k = s.size := by omega
      have HE2 := Asd.mk (HE.out.trans (runE_stop (fun h => hlt h.1)))
      have hks1 : ¬ (k : Int) < (s.size : Int) := by omega
      clear HE hke
      go_wp2
      go_ret
      rw [HE2.out]
      exact ⟨rfl, ha, hg⟩
set_option maxHeartbeats 1000000 in
set_option maxRecDepth 100000 in
theorem run_dig (s : ByteArray) (i : Nat) (ab sb : Nat) (w : World) (ha : Blk w ab 3 #[.int .i64 i]) (hs : Blk w sb 9 #[.string s]) (hi : i ≤ s.size) (hsz : s.size ≤ 9223372036854775806) :
    Calls Try.prog 108 #[.func (.func 113) #[] #[], .pointer (some ⟨ab, 0, none⟩), .pointer (some ⟨sb, 0, none⟩)] w fun e w' => e = .returned (.string (s.extract i (runE s isDig i))) ∧ Blk w' ab 3 #[.int .i64 (runE s isDig i)] ∧ w.grownBy w' (some ab) := by
  have hsb : some sb ≠ some ab := fun e => by
    injection e with e
    subst e
    have := ha.symm.trans hs
    simp at this
  have HSB := Asd.mk hsb
  have HS0 := Asd.mk hs
  have hcs : w.cell? ⟨sb, 0, none⟩ = some (.string s) := hs.cell 0
  have hca : w.cell? ⟨ab, 0, none⟩ = some (.int .i64 i) := ha.cell 0
  have HA0 := Asd.mk ha
  clear hs ha hsb
  go_enter Try.func108, Try.ntmps108
  go_wp2
  clear hcs hca
  go_loopg [17] (s.size - i) (fun gk _ wr => ∃ k : Nat, i ≤ k ∧ k ≤ s.size ∧ gk = s.size - k ∧ Blk wr ab 3 #[.int .i64 k] ∧ w.grownBy wr (some ab) ∧ Asd (runE s isDig i = runE s isDig k))
  case atStart => exact ⟨i, Nat.le_refl _, hi, rfl, HA0.out, World.grownBy.refl _ _, ⟨rfl⟩⟩
  case round =>
    obtain ⟨k, hk, hks, rfl, ha, hg, HE⟩ := hrel
    have hs := HS0.out.grown hg HSB.out
    have c0 : wr.cell? ⟨sb, 0, none⟩ = some (.string s) := hs.cell 0
    have c1 : wr.cell? ⟨ab, 0, none⟩ = some (.int .i64 k) := ha.cell 0
    have f1 : wr.frozen? ⟨ab, 0, none⟩ = false := ha.free 0
    have hk0 : (0 : Int) ≤ (k : Int) := Int.natCast_nonneg _
    have hb := get_bt s
    clear hs
    by_cases hlt : k < s.size
    · cases hp : isDig (bt s k) with
      | true =>
        have HC := Asd.mk (digit_any (bt s k) wr)
        rw [hp] at HC
        have HE2 := Asd.mk (HE.out.trans (runE_step hlt hp))
        have hks1 : (k : Int) < (s.size : Int) := by omega
        clear hp HE
        go_wp2_with (go_at_call 113; refine HC.out.mono ?_; rintro e w1 ⟨rfl, rfl⟩)
        go_roundg (s.size - (k + 1))
        case rel => exact ⟨k + 1, by omega, by omega, rfl, ha.set_ 0 _, grown_set hg (.inl rfl) _, HE2⟩
        case measure => omega
      | false =>
        have HC := Asd.mk (digit_any (bt s k) wr)
        rw [hp] at HC
        have HE2 := Asd.mk (HE.out.trans (runE_stop (fun h => by rw [hp] at h; cases h.2)))
        have hks1 : (k : Int) < (s.size : Int) := by omega
        clear hp HE
        go_wp2_with (go_at_call 113; refine HC.out.mono ?_; rintro e w1 ⟨rfl, rfl⟩)
        go_ret
        rw [HE2.out]
        exact ⟨rfl, ha, hg⟩
    · have hke : k = s.size := by omega
      have HE2 := Asd.mk (HE.out.trans (runE_stop (fun h => hlt h.1)))
      have hks1 : ¬ (k : Int) < (s.size : Int) := by omega
      clear HE hke
      go_wp2
      go_ret
      rw [HE2.out]
      exact ⟨rfl, ha, hg⟩
end Go.Proofs.Ythfoaehjnoiniaa
