/- lex.All and lex.Lex by their contracts. -/
import Derived.Test.YthfoaehjnoiniaaLexP
namespace Go.Proofs.Ythfoaehjnoiniaa
open Go.RowKit Go.PlainAid
theorem E_tok : ElemT Try.prog 101 115 3 32 := ElemT.mk' Try.underlying101 (z := .agg #[.int .i64 0, .string ⟨#[]⟩, .int .i64 0]) (by kernel_rfl) rfl (by decide)
/-- What a lexer has answered. -/
def LexPost (r : LexR) (w : World) (e : Ending) (w' : World) : Prop := match r with
  | .ok l => ∃ v, e = .returned (.tuple #[v, .int .i64 0, .int .i64 0]) ∧ Own rTok w' NoB w.heap.size 115 v l.length l ∧ Below w.heap.size w w'
  | .bad er a => e = .returned (.tuple #[.slice none 0 0, .int .i64 er, .int .i64 a]) ∧ Below w.heap.size w w'
theorem set_new (W : World) (p : Addr) (u : Value) (cs : Array Value) (e : TypeId) : ((W.setCell p u).alloc (.cells cs e)).heap[W.heap.size]? = some (.cells cs e (0, 0)) := by
  have h := heap_alloc_new (W.setCell p u) (.cells cs e)
  have e1 : (W.setCell p u).heap.size = W.heap.size := by simp [World.setCell]
  rw [e1] at h
  exact h
/-- What stands between two tokens. -/
structure LInv (s : ByteArray) (w wr : World) (i n : Nat) (v : Value) (out : List Tk) : Prop where
  hs : Blk wr w.heap.size 9 #[.string s]
  ha : Blk wr (w.heap.size + 1) 3 #[.int .i64 i]
  own : Own rTok wr NoB w.heap.size 115 v n out
  nx : Below w.heap.size w wr
  sz : w.heap.size + 2 ≤ wr.heap.size
section
variable {s : ByteArray} {w wr w1 : World} {i n : Nat} {v : Value} {out : List Tk}
theorem LInv.call (h : LInv s w wr i n v out) (hb : Below wr.heap.size wr w1) : LInv s w w1 i n v out :=
  ⟨h.hs.call hb, h.ha.call hb, h.own.call hb, below_call h.nx hb, Nat.le_trans h.sz hb.size⟩
theorem LInv.drew (h : LInv s w wr i n v out) (q : Nat) : LInv s w (wr.drewN q) i n v out := h.call (below_drew' (Below.refl _ _) q)
theorem LInv.alloc (h : LInv s w wr i n v out) (o : Obj) : LInv s w (wr.alloc o) i n v out := h.call ((Below.refl _ _).alloc (Nat.le_refl _) _)
theorem LInv.run (h : LInv s w wr i n v out) {j : Nat} (hj : Blk w1 (w.heap.size + 1) 3 #[.int .i64 j]) (hg : wr.grownBy w1 (some (w.heap.size + 1))) : LInv s w w1 j n v out :=
  ⟨h.hs.grown hg (by simp), hj, h.own.kept hg (.inr fun e => h.own.blk_ne h.ha (by decide) e.symm) (fun _ h => h.elim), h.nx.grown hg (by have := h.sz; omega) (fun q hq => by injection hq with hq; omega), Nat.le_trans h.sz hg.size⟩
theorem LInv.set (h : LInv s w wr i n v out) (j : Nat) : LInv s w (wr.setCell ⟨w.heap.size + 1, 0, none⟩ (.int .i64 j)) j n v out :=
  h.run (h.ha.set_ 0 _) (grown_set (World.grownBy.refl _ _) (.inl rfl) _)
theorem LInv.app (h : LInv s w wr i n v out) {v' : Value} {n' : Nat} {out' : List Tk} (ho : Own rTok w1 NoB w.heap.size 115 v' n' out') (hg : wr.grownBy w1 v.ownBlock) : LInv s w w1 i n' v' out' :=
  ⟨h.hs.grown hg (h.own.blk_ne h.hs (by decide)), h.ha.grown hg (h.own.blk_ne h.ha (by decide)), ho, h.nx.grown hg (by have := h.sz; omega) (fun q hq => (h.own.lt q hq).1), Nat.le_trans h.sz hg.size⟩
theorem LInv.start (s : ByteArray) (w : World) : LInv s w ((w.alloc (.cells #[.string s] 9)).alloc (.cells #[.int .i64 0] 3)) 0 0 (.slice none 0 0) [] :=
  ⟨(Blk.new w 9 #[.string s]).alloc _, by have := two_new' w (.cells #[.string s] 9) #[.int .i64 0] 3; exact this, Own.nil rTok _ (fun _ h => h.elim) _ _, ((Below.refl _ _).alloc (Nat.le_refl _) _).alloc (by simp) _, by simp⟩
end
set_option maxHeartbeats 4000000 in
set_option maxRecDepth 100000 in
theorem all_any (s : ByteArray) (w : World) (hsz : s.size ≤ 1000000) : Calls Try.prog 89 #[.string s] w (LexPost (lexA s 0 []) w) := by
  have hmf : ∀ (fn : Fn) (first cap : Array Value) (w : World), (Instr.makeFunc fn first cap).run Try.prog w = .ok (.func fn first cap) w := fun _ _ _ _ => rfl
  go_enter Try.func89, Try.ntmps89
  go_wp2
  clear hmf
  go_loopg [7] s.size (fun gk v wr => ∃ (i n : Nat) (out : List Tk), i ≤ s.size ∧ n ≤ i ∧ gk = s.size - i ∧ LInv s w wr i n v out ∧ Asd (lexA s 0 [] = lexA s i out))
  case atStart => exact ⟨0, 0, [], Nat.zero_le _, Nat.le_refl _, rfl, LInv.start s w, ⟨rfl⟩⟩
  case round =>
    obtain ⟨i, n, out, hi, hn, rfl, hL, HE⟩ := hrel
    have c0 : wr.cell? ⟨w.heap.size, 0, none⟩ = some (.string s) := hL.hs.cell 0
    have c1 : wr.cell? ⟨w.heap.size + 1, 0, none⟩ = some (.int .i64 i) := hL.ha.cell 0
    have f1 : wr.frozen? ⟨w.heap.size + 1, 0, none⟩ = false := hL.ha.free 0
    have hi0 : (0 : Int) ≤ (i : Int) := Int.natCast_nonneg _
    have hb := get_bt s
    have HL0 := Asd.mk hL
    have hsz2 := hL.sz
    clear hL
    by_cases hlt : i < s.size
    · have hlt' : (i : Int) < (s.size : Int) := by omega
      go_wp2
      go_quiet (fail)
      have hL := HL0.out.drew nq
      clear c0 c1 f1 HL0
      generalize wr.drewN nq = wr at *
      have c0 : wr.cell? ⟨w.heap.size, 0, none⟩ = some (.string s) := hL.hs.cell 0
      have c1 : wr.cell? ⟨w.heap.size + 1, 0, none⟩ = some (.int .i64 i) := hL.ha.cell 0
      have f1 : wr.frozen? ⟨w.heap.size + 1, 0, none⟩ = false := hL.ha.free 0
      have HL := Asd.mk hL
      clear hL
      by_cases h32 : isBlank (bt s i) = true
      · have HE2 := Asd.mk (HE.out.trans (lexA_blank hlt h32))
        have hcs : bt s i = 32 ∨ bt s i = 9 ∨ bt s i = 10 ∨ bt s i = 13 := by
          simp [isBlank] at h32; omega
        clear h32 HE
        rcases hcs with h | h | h | h <;>
        · go_wp2
          go_roundg (s.size - (i + 1))
          case rel => exact ⟨i + 1, n, out, by omega, by omega, rfl, HL.out.set (i + 1), HE2⟩
          case measure => omega
      · have hn : ¬ bt s i = 32 ∧ ¬ bt s i = 9 ∧ ¬ bt s i = 10 ∧ ¬ bt s i = 13 := by
          simp [isBlank] at h32; omega
        have hn1 : (bt s i == 32) = false := beq_false_of_ne hn.1
        have hn2 : (bt s i == 9) = false := beq_false_of_ne hn.2.1
        have hn3 : (bt s i == 10) = false := beq_false_of_ne hn.2.2.1
        have hn4 : (bt s i == 13) = false := beq_false_of_ne hn.2.2.2
        clear hn
        by_cases h35 : bt s i = 35
        · have HE2 := Asd.mk (HE.out.trans (lexA_note hlt h35))
          have hgt := runE_gt (p := isNl) hlt (by rw [h35]; rfl)
          have hle := runE_le s isNl hi
          have HR := Asd.mk (run_nl s i (w.heap.size + 1) w.heap.size wr HL.out.ha HL.out.hs hi (by omega))
          clear hn1 hn2 hn3 hn4 h32 HE
          go_wp2_with (go_at_call 108; refine HR.out.mono ?_; rintro e w1 ⟨rfl, ha1, hg1⟩)
          go_roundg (s.size - runE s isNl i)
          case rel => exact ⟨_, n, out, by omega, by omega, rfl, HL.out.run ha1 hg1, HE2⟩
          case measure => omega
        · have h35b : (bt s i == 35) = false := beq_false_of_ne h35
          by_cases h4 : isSmall (bt s i) = true
          · have hgt := runE_gt (p := isIn) hlt (by unfold isIn; rw [h4]; rfl)
            have hle := runE_le s isIn hi
            have HR := Asd.mk (run_in s i (w.heap.size + 1) w.heap.size wr HL.out.ha HL.out.hs hi (by omega))
            have hE := HE.out.trans (lexA_word hlt h4)
            have HSm : Asd (∀ V, Calls Try.prog 110 #[.int .u8 (bt s i)] V fun e w' => e = .returned (.bool true) ∧ w' = V) := ⟨fun V => by have := small_any (bt s i) V; rwa [h4] at this⟩
            have HW : Asd (∀ V, Calls Try.prog 112 #[.string (s.extract i (runE s isIn i))] V fun e w' => e = .returned (.tuple #[.int .i64 (wordOf (s.extract i (runE s isIn i))).1, .int .i64 (wordOf (s.extract i (runE s isIn i))).2]) ∧ Below V.heap.size V w') := ⟨fun V => word_any _ V⟩
            clear h4 HE h32
            generalize runE s isIn i = j at *
            generalize s.extract i j = tx at *
            generalize wordOf tx = wo at *
            obtain ⟨wk, we⟩ := wo
            by_cases hwe : we = 0
            · subst hwe
              have HE2 := Asd.mk (hE.trans (if_pos rfl))
              clear hE
              go_wp2_with (first
                | (go_at_call 110; refine (HSm.out _).mono ?_; rintro e w1 ⟨rfl, rfl⟩)
                | (go_at_call 108; refine HR.out.mono ?_; rintro e w1 ⟨rfl, ha1, hg1⟩; have HL1 := Asd.mk (HL.out.run ha1 hg1); clear ha1 hg1)
                | (go_at_call 112; refine (HW.out _).mono ?_; rintro e w2 ⟨rfl, hb2⟩; have HL2 := Asd.mk (HL1.out.call hb2); have hsz3 := HL2.out.sz)
                | (at_builtin; refine wpList_app1 rfl (.tmp 81) _ _ rfl E_tok rfl (HL2.out.alloc _).own ⟨w2.heap.size, 0, none⟩ (wk, tx, i) [.int .i64 wk, .string tx, .int .i64 (i : Nat)] rfl (news_at (cs := #[.int .i64 wk, .string tx, .int .i64 (i : Nat)]) (heap_alloc_new w2 _)) (by simp [Value.oneCell']) 1 rfl (by omega) (by simp only [maxLen]; omega) (by simp; omega) ?_; intro gq capq w3 hown3 hg3 hat3))
              have hL3 := LInv.app (HL2.out.alloc _) hown3 hg3
              go_roundg (s.size - j)
              case rel => exact ⟨_, n + 1, _, by omega, by omega, rfl, hL3, HE2⟩
              case measure => omega
            · have HE2 := Asd.mk (hE.trans (if_neg hwe))
              clear hE
              go_wp2_with (first
                | (go_at_call 110; refine (HSm.out _).mono ?_; rintro e w1 ⟨rfl, rfl⟩)
                | (go_at_call 108; refine HR.out.mono ?_; rintro e w1 ⟨rfl, ha1, hg1⟩; have HL1 := Asd.mk (HL.out.run ha1 hg1); clear ha1 hg1)
                | (go_at_call 112; refine (HW.out _).mono ?_; rintro e w2 ⟨rfl, hb2⟩; have HL2 := Asd.mk (HL1.out.call hb2); have hsz3 := HL2.out.sz))
              go_ret3
              rw [HE2.out]
              exact ⟨rfl, HL2.out.nx⟩
          · have HSm : Asd (∀ V, Calls Try.prog 110 #[.int .u8 (bt s i)] V fun e w' => e = .returned (.bool false) ∧ w' = V) := ⟨fun V => by have := small_any (bt s i) V; rwa [Bool.eq_false_iff.2 h4] at this⟩
            by_cases h5 : isDig (bt s i) = true
            · have hgt := runE_gt (p := isDig) hlt h5
              have hle := runE_le s isDig hi
              have HR := Asd.mk (run_dig s i (w.heap.size + 1) w.heap.size wr HL.out.ha HL.out.hs hi (by omega))
              have hE := HE.out.trans (lexA_num hlt h5)
              have HDg : Asd (∀ V, Calls Try.prog 113 #[.int .u8 (bt s i)] V fun e w' => e = .returned (.bool true) ∧ w' = V) := ⟨fun V => by have := digit_any (bt s i) V; rwa [h5] at this⟩
              have HW : Asd (∀ V, Calls Try.prog 114 #[.string (s.extract i (runE s isDig i)), .string (s.extract (runE s isDig i) s.size)] V fun e w' => e = .returned (.tuple #[.int .i64 (numberOf (s.extract i (runE s isDig i)) (s.extract (runE s isDig i) s.size)).1, .int .i64 (numberOf (s.extract i (runE s isDig i)) (s.extract (runE s isDig i) s.size)).2]) ∧ w' = V) := ⟨fun V => number_any _ _ V (by rw [ByteArray.size_extract]; omega)⟩
              clear h4 h5 HE h32
              generalize runE s isDig i = j at *
              generalize s.extract i j = tx at *
              generalize numberOf tx (s.extract j s.size) = wo at *
              obtain ⟨wk, we⟩ := wo
              have hj1 : (j : Int) ≤ (s.size : Int) := by omega
              have hj0 : (0 : Int) ≤ (j : Int) := Int.natCast_nonneg _
              by_cases hwe : we = 0
              · subst hwe
                have HE2 := Asd.mk (hE.trans (if_pos rfl))
                clear hE
                go_wp2_with (first
                | (go_at_call 110; refine (HSm.out _).mono ?_; rintro e w1 ⟨rfl, rfl⟩)
                | (go_at_call 113; refine (HDg.out _).mono ?_; rintro e w1 ⟨rfl, rfl⟩)
                | (go_at_call 108; refine HR.out.mono ?_; rintro e w1 ⟨rfl, ha1, hg1⟩; have HL1 := Asd.mk (HL.out.run ha1 hg1); have c0 : w1.cell? ⟨w.heap.size, 0, none⟩ = some (.string s) := HL1.out.hs.cell 0; have c1 : w1.cell? ⟨w.heap.size + 1, 0, none⟩ = some (.int .i64 j) := HL1.out.ha.cell 0; have hsz3 := HL1.out.sz; clear ha1 hg1)
                | (go_at_call 114; refine (HW.out _).mono ?_; rintro e w2 ⟨rfl, rfl⟩)
                | (at_builtin; refine wpList_app1 rfl (.tmp 81) _ _ rfl E_tok rfl (HL1.out.alloc _).own ⟨w2.heap.size, 0, none⟩ (wk, tx, i) [.int .i64 wk, .string tx, .int .i64 (i : Nat)] rfl (news_at (cs := #[.int .i64 wk, .string tx, .int .i64 (i : Nat)]) (heap_alloc_new w2 _)) (by simp [Value.oneCell']) 1 rfl (by omega) (by simp only [maxLen]; omega) (by simp; omega) ?_; intro gq capq w3 hown3 hg3 hat3))
                have hL3 := LInv.app (HL1.out.alloc _) hown3 hg3
                go_roundg (s.size - j)
                case rel => exact ⟨_, n + 1, _, by omega, by omega, rfl, hL3, HE2⟩
                case measure => omega
              · have HE2 := Asd.mk (hE.trans (if_neg hwe))
                clear hE
                go_wp2_with (first
                | (go_at_call 110; refine (HSm.out _).mono ?_; rintro e w1 ⟨rfl, rfl⟩)
                | (go_at_call 113; refine (HDg.out _).mono ?_; rintro e w1 ⟨rfl, rfl⟩)
                | (go_at_call 108; refine HR.out.mono ?_; rintro e w1 ⟨rfl, ha1, hg1⟩; have HL1 := Asd.mk (HL.out.run ha1 hg1); have c0 : w1.cell? ⟨w.heap.size, 0, none⟩ = some (.string s) := HL1.out.hs.cell 0; have c1 : w1.cell? ⟨w.heap.size + 1, 0, none⟩ = some (.int .i64 j) := HL1.out.ha.cell 0; have hsz3 := HL1.out.sz; clear ha1 hg1)
                | (go_at_call 114; refine (HW.out _).mono ?_; rintro e w2 ⟨rfl, rfl⟩))
                go_ret3
                rw [HE2.out]
                exact ⟨rfl, HL1.out.nx⟩
            · have hE := HE.out.trans (lexA_sign hlt (Bool.eq_false_iff.2 h32) h35 (Bool.eq_false_iff.2 h4) (Bool.eq_false_iff.2 h5))
              have HDg : Asd (∀ V, Calls Try.prog 113 #[.int .u8 (bt s i)] V fun e w' => e = .returned (.bool false) ∧ w' = V) := ⟨fun V => by have := digit_any (bt s i) V; rwa [Bool.eq_false_iff.2 h5] at this⟩
              have HW : Asd (∀ V, Calls Try.prog 115 #[.string (s.extract i s.size)] V fun e w' => e = .returned (.string (signOf (s.extract i s.size))) ∧ Below V.heap.size V w') := ⟨fun V => sign_any _ V⟩
              have hle := signOf_size (s.extract i s.size)
              have hle2 : (signOf (s.extract i s.size)).size ≤ s.size - i := Nat.le_trans hle (by rw [ByteArray.size_extract]; omega)
              have hi1 : (i : Int) ≤ (s.size : Int) := by omega
              clear h4 h5 HE h32 hle
              generalize signOf (s.extract i s.size) = tx at *
              by_cases hwe : tx.size = 0
              · have HE2 := Asd.mk (hE.trans (if_pos hwe))
                have htl : (tx.toList == ([] : List UInt8)) = true := by rw [(empty_iff tx).2 hwe]; rfl
                clear hE
                go_wp2_with (first
                | (go_at_call 110; refine (HSm.out _).mono ?_; rintro e w1 ⟨rfl, rfl⟩)
                | (go_at_call 113; refine (HDg.out _).mono ?_; rintro e w1 ⟨rfl, rfl⟩)
                | (go_at_call 115; refine (HW.out _).mono ?_; rintro e w2 ⟨rfl, hb2⟩; have HL2 := Asd.mk (HL.out.call hb2); have c1 : w2.cell? ⟨w.heap.size + 1, 0, none⟩ = some (.int .i64 i) := HL2.out.ha.cell 0; have f1 : w2.frozen? ⟨w.heap.size + 1, 0, none⟩ = false := HL2.out.ha.free 0; have hsz3 := HL2.out.sz))
                go_ret3
                rw [HE2.out]
                exact ⟨rfl, (HL2.out.set i).nx⟩
              · have HE2 := Asd.mk (hE.trans (if_neg hwe))
                have htl : (tx.toList == ([] : List UInt8)) = false := by
                  have : ¬ tx.toList = [] := fun h => hwe ((empty_iff tx).1 h)
                  simpa using this
                clear hE
                go_wp2_with (first
                | (go_at_call 110; refine (HSm.out _).mono ?_; rintro e w1 ⟨rfl, rfl⟩)
                | (go_at_call 113; refine (HDg.out _).mono ?_; rintro e w1 ⟨rfl, rfl⟩)
                | (go_at_call 115; refine (HW.out _).mono ?_; rintro e w2 ⟨rfl, hb2⟩; have HL2 := Asd.mk (HL.out.call hb2); have c1 : w2.cell? ⟨w.heap.size + 1, 0, none⟩ = some (.int .i64 i) := HL2.out.ha.cell 0; have f1 : w2.frozen? ⟨w.heap.size + 1, 0, none⟩ = false := HL2.out.ha.free 0; have hsz3 := HL2.out.sz; have HL3 : Asd (LInv s w (w2.setCell ⟨w.heap.size + 1, 0, none⟩ (.int .i64 ((i : Int) + (tx.size : Int)))) (i + tx.size) n u7 out) := Asd.mk (HL2.out.set (i + tx.size)))
                | (at_builtin; refine wpList_app1 rfl (.tmp 81) _ _ rfl E_tok rfl (HL3.out.alloc _).own ⟨w2.heap.size, 0, none⟩ (4, tx, i) [.int .i64 4, .string tx, .int .i64 (i : Nat)] rfl (news_at (cs := #[.int .i64 4, .string tx, .int .i64 (i : Nat)]) (set_new w2 ⟨w.heap.size + 1, 0, none⟩ (.int .i64 ((i : Int) + (tx.size : Int))) _ _)) (by simp [Value.oneCell']) 1 rfl (by omega) (by simp only [maxLen]; omega) (by simp; omega) ?_; intro gq capq w3 hown3 hg3 hat3))
                have hL3 := LInv.app (HL3.out.alloc _) hown3 hg3
                go_roundg (s.size - (i + tx.size))
                case rel => exact ⟨_, n + 1, _, by omega, by omega, rfl, hL3, HE2⟩
                case measure => omega
    · have HE2 := Asd.mk (HE.out.trans (lexA_end hlt))
      have hie : ¬ (i : Int) < (s.size : Int) := by omega
      have HL2 := HL0
      have c0 := c0
      clear HE hb
      go_wp2_with (first
        | (at_builtin; refine wpList_app1 rfl (.tmp 88) _ _ rfl E_tok rfl (HL2.out.alloc _).own ⟨wr.heap.size, 0, none⟩ ((0 : Int), ⟨#[]⟩, s.size) [.int .i64 (0 : Int), .string ⟨#[]⟩, .int .i64 (s.size : Nat)] rfl (news_at (cs := #[.int .i64 (0 : Int), .string ⟨#[]⟩, .int .i64 (s.size : Nat)]) (heap_alloc_new wr _)) (by simp [Value.oneCell']) 1 rfl (by omega) (by simp only [maxLen]; omega) (by simp; omega) ?_; intro gq capq w3 hown3 hg3 hat3))
      have hL3 := LInv.app (HL2.out.alloc _) hown3 hg3
      go_ret3
      rw [HE2.out]
      exact ⟨_, rfl, by have h1 := hown3.len; rw [h1]; exact hL3.own, hL3.nx⟩
theorem lex_any (s : ByteArray) (w : World) (hsz : s.size ≤ 8192) : Calls Try.prog 64 #[.string s] w (LexPost (lexA s 0 []) w) := by
  have HA := Asd.mk (all_any s w (by omega))
  have hl : ¬ (8192 : Int) < (s.size : Int) := by omega
  cases hr : lexA s 0 [] with
  | ok l =>
    rw [hr] at HA
    clear hr
    go_enter Try.func64, Try.ntmps64
    go_wp2_with (go_at_call 89; refine HA.out.mono ?_; rintro e w1 ⟨v, rfl, h1, h2⟩)
    go_ret3
    exact ⟨v, rfl, h1, h2⟩
  | bad er a =>
    rw [hr] at HA
    clear hr
    go_enter Try.func64, Try.ntmps64
    go_wp2_with (go_at_call 89; refine HA.out.mono ?_; rintro e w1 ⟨rfl, h2⟩)
    go_ret3
    exact ⟨rfl, h2⟩
theorem lex_big (s : ByteArray) (w : World) (hsz : 8192 < s.size) : Calls Try.prog 64 #[.string s] w (LexPost (.bad 9 8192) w) := by
  have hl : (8192 : Int) < (s.size : Int) := by omega
  go_enter Try.func64, Try.ntmps64
  go_wp2
  go_ret3
  exact ⟨rfl, Below.refl _ _⟩
end Go.Proofs.Ythfoaehjnoiniaa
