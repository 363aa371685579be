/- parse's reader: its small methods by their contracts. -/
import Derived.Test.YthfoaehjnoiniaaProg
import Derived.Test.YthfoaehjnoiniaaLabS
import Derived.WalkLawsBesides
namespace Go.Proofs.Ythfoaehjnoiniaa
open Go.RowKit
structure Rdr (r : Src) (w : World) (i d : Nat) : Prop where
  blk : Blk w r.g 137 #[.slice r.A r.L.length r.c, .int .i64 i, .int .i64 d]
  tok : Sl rTok w r.S r.A r.L
  off : ∀ b, r.S b → b < w.heap.size ∧ some b ≠ some r.g
  len : r.L.length ≤ 1000000
abbrev Src.ptr (r : Src) : Value := .pointer (some ⟨r.g, 0, none⟩)
section
variable {r : Src} {w w' : World} {i d : Nat}
theorem Rdr.below (h : Rdr r w i d) (hb : Below w.heap.size w w') : Rdr r w' i d :=
  ⟨h.blk.call hb, h.tok.below hb (fun b hs => (h.off b hs).1), fun b hs => ⟨Nat.lt_of_lt_of_le (h.off b hs).1 hb.size, (h.off b hs).2⟩, h.len⟩
theorem Rdr.step (h : Rdr r w i d) {i' d' : Nat} (hg : w.grownBy w' (some r.g)) (hb : Blk w' r.g 137 #[.slice r.A r.L.length r.c, .int .i64 i', .int .i64 d']) : Rdr r w' i' d' :=
  ⟨hb, h.tok.grown hg (fun b hs => h.off b hs), fun b hs => ⟨Nat.lt_of_lt_of_le (h.off b hs).1 hg.size, (h.off b hs).2⟩, h.len⟩
theorem Rdr.setI (h : Rdr r w i d) (i' : Nat) : Rdr r (w.setCell ⟨r.g, 1, none⟩ (.int .i64 i')) i' d :=
  h.step (grown_set (World.grownBy.refl _ _) (.inl rfl) _) (h.blk.set_ 1 _)
end
theorem Rdr.cells {r : Src} {w : World} {i d : Nat} (h : Rdr r w i d) : w.cell? ⟨r.g, 0, none⟩ = some (.slice r.A r.L.length r.c) ∧ w.cell? ⟨r.g, 1, none⟩ = some (.int .i64 i) ∧ w.cell? ⟨r.g, 2, none⟩ = some (.int .i64 d) ∧ w.frozen? ⟨r.g, 1, none⟩ = false ∧ w.frozen? ⟨r.g, 2, none⟩ = false :=
  ⟨h.blk.cell 0, h.blk.cell 1, h.blk.cell 2, h.blk.free 1, h.blk.free 2⟩
set_option maxHeartbeats 1000000 in
set_option maxRecDepth 100000 in
theorem now_any {r : Src} {w : World} {i d : Nat} (h : Rdr r w i d) {k : Int} {s : ByteArray} {a : Nat} (ht : r.L[i]? = some (k, s, a)) :
    Calls Try.prog 92 #[r.ptr] w fun e w' => e = .returned (.agg #[.int .i64 k, .string s, .int .i64 a]) ∧ Below w.heap.size w w' := by
  obtain ⟨c0, c1, -, -, -⟩ := h.cells
  have hi : i < r.L.length := (List.getElem?_eq_some_iff.1 ht).1
  have hl := h.len
  obtain ⟨ad, hA, _, t0, t1, t2⟩ := h.tok.tok ht
  rw [hA] at c0
  simp only at t0 t1 t2
  have hi0 : (0 : Int) ≤ (i : Int) := Int.natCast_nonneg _
  have hi1 : (i : Int) < (r.L.length : Int) := by omega
  generalize r.L.length = n at *
  clear ht hA h
  have := World.new_ne w _ c0
  go_enter Try.func92, Try.ntmps92
  go_wp2
  go_region_held3 (fun w' => w'.cell? ⟨r.g, 0, none⟩ = some (.slice (some ad) n r.c) ∧ w'.cell? ⟨r.g, 1, none⟩ = some (.int .i64 i) ∧ w'.cell? (ad.add (i * 3)) = some (.int .i64 k) ∧ w'.cell? ⟨(ad.add (i * 3)).block, (ad.add (i * 3)).off + 1, none⟩ = some (.string s) ∧ w'.cell? ⟨(ad.add (i * 3)).block, (ad.add (i * 3)).off + 2, none⟩ = some (.int .i64 a)) (go_keep) (fail)
  go_wp2
  exact bodyPost_ret (v := .agg #[.int .i64 k, .string s, .int .i64 a]) (by simp [results, Try.results92, go_sem]) rfl ⟨rfl, below_drew' ((Below.refl _ _).alloc (Nat.le_refl _) _) 1⟩
/-! ### what stands there -/
set_option maxHeartbeats 2000000 in
set_option maxRecDepth 100000 in
theorem is_any {r : Src} {w : World} {i d : Nat} (h : Rdr r w i d) {t : Tk} (ht : r.L[i]? = some t) (s : ByteArray) :
    Calls Try.prog 118 #[r.ptr, .string s] w fun e w' => e = .returned (.bool (isTk t s)) ∧ Below w.heap.size w w' := by
  obtain ⟨k, x, a⟩ := t
  have HN := Asd.mk (fun (w : World) (h : Rdr r w i d) => now_any h ht)
  have HR := Asd.mk h
  have e1 : isTk (k, x, a) s = ((x.toList == s.toList) && ((k == 4) || (k == 3))) := by
    unfold isTk
    by_cases hx : x = s
    · subst hx; simp; rfl
    · have hxl : ¬ x.toList = s.toList := fun e => hx (by
        rw [ByteArray.ext_iff, ← Array.toList_inj]
        rwa [ByteArray.toList_eq, ByteArray.toList_eq] at e)
      simp [hx, hxl]
  rw [e1]
  clear h ht e1
  cases hb : (x.toList == s.toList) with
  | true =>
    cases h4 : (k == 4) with
    | true =>
      go_enter Try.func118, Try.ntmps118
      go_wp2_with (go_at_call 92; refine (HN.out _ HR.out).mono ?_; rintro e w1 ⟨rfl, hb⟩)
      go_ret
      exact ⟨rfl, (hb.alloc hb.size _)⟩
    | false =>
      cases h3 : (k == 3) with
      | true =>
        go_enter Try.func118, Try.ntmps118
        go_wp2_with (go_at_call 92; refine (HN.out _ HR.out).mono ?_; rintro e w1 ⟨rfl, hb⟩)
        go_ret
        exact ⟨rfl, (hb.alloc hb.size _)⟩
      | false =>
        go_enter Try.func118, Try.ntmps118
        go_wp2_with (go_at_call 92; refine (HN.out _ HR.out).mono ?_; rintro e w1 ⟨rfl, hb⟩)
        go_ret
        exact ⟨rfl, (hb.alloc hb.size _)⟩
  | false =>
    go_enter Try.func118, Try.ntmps118
    go_wp2_with (go_at_call 92; refine (HN.out _ HR.out).mono ?_; rintro e w1 ⟨rfl, hb⟩)
    go_ret
    exact ⟨rfl, (hb.alloc hb.size _)⟩
set_option maxHeartbeats 2000000 in
set_option maxRecDepth 100000 in
theorem may_no {r : Src} {w : World} {i d : Nat} (h : Rdr r w i d) {t : Tk} (ht : r.L[i]? = some t) (s : ByteArray) (hs : isTk t s = false) :
    Calls Try.prog 94 #[r.ptr, .string s] w fun e w' => e = .returned (.bool false) ∧ Below w.heap.size w w' := by
  have HI := Asd.mk (is_any h ht s)
  rw [hs] at HI
  clear h ht hs
  go_enter Try.func94, Try.ntmps94
  go_wp2_with (go_at_call 118; refine HI.out.mono ?_; rintro e w1 ⟨rfl, hb⟩)
  go_ret
  exact ⟨rfl, hb⟩
set_option maxHeartbeats 2000000 in
set_option maxRecDepth 100000 in
theorem may_yes {r : Src} {w : World} {i d : Nat} (h : Rdr r w i d) {t : Tk} (ht : r.L[i]? = some t) (s : ByteArray) (hs : isTk t s = true) :
    Calls Try.prog 94 #[r.ptr, .string s] w fun e w' => e = .returned (.bool true) ∧ Rdr r w' (i + 1) d ∧ w.grownBy w' (some r.g) := by
  have HI := Asd.mk (is_any h ht s)
  rw [hs] at HI
  have hi : i < r.L.length := (List.getElem?_eq_some_iff.1 ht).1
  have hl := h.len
  have HR := Asd.mk h
  clear h ht hs
  go_enter Try.func94, Try.ntmps94
  go_wp2_with (go_at_call 118; refine HI.out.mono ?_; rintro e w1 ⟨rfl, hb⟩; have h1 := HR.out.below hb; obtain ⟨-, c1, -, f1, -⟩ := h1.cells; have HR1 := Asd.mk h1; clear h1)
  go_ret
  exact ⟨rfl, by have := HR1.out.setI (i + 1); simpa using this, grown_set (grown_below hb _) (.inl rfl) _⟩
theorem fld_tok0 (x : Int) (y : ByteArray) (z : Int) (w : World) : (Instr.field 115 (.agg #[.int .i64 x, .string y, .int .i64 z]) 0).run Try.prog w = .ok (.int .i64 x) w := by kernel_rfl
theorem fld_tok1 (x : Int) (y : ByteArray) (z : Int) (w : World) : (Instr.field 115 (.agg #[.int .i64 x, .string y, .int .i64 z]) 1).run Try.prog w = .ok (.string y) w := by kernel_rfl
theorem fld_tok2 (x : Int) (y : ByteArray) (z : Int) (w : World) : (Instr.field 115 (.agg #[.int .i64 x, .string y, .int .i64 z]) 2).run Try.prog w = .ok (.int .i64 z) w := by kernel_rfl
set_option maxHeartbeats 2000000 in
set_option maxRecDepth 100000 in
theorem fail_any {r : Src} {w : World} {i d : Nat} (h : Rdr r w i d) {k : Int} {s : ByteArray} {a : Nat} (ht : r.L[i]? = some (k, s, a)) (er : Int) :
    Calls Try.prog 116 #[r.ptr, .int .i64 er] w fun e w' => e = .panicked [{ v := .iface 135 (.agg #[.int .i64 er, .int .i64 a]), recovered := false }] ∧ Below w.heap.size w w' := by
  have HI := Asd.mk (now_any h ht)
  have F := fld_tok2 k s a
  clear h ht
  go_enter Try.func116, Try.ntmps116
  go_wp2_with (go_at_call 92; refine HI.out.mono ?_; rintro e w1 ⟨rfl, hb⟩)
  exact ⟨rfl, rfl, hb⟩
set_option maxHeartbeats 2000000 in
set_option maxRecDepth 100000 in
theorem must_yes {r : Src} {w : World} {i d : Nat} (h : Rdr r w i d) {k : Int} {x : ByteArray} {a : Nat} (ht : r.L[i]? = some (k, x, a)) (s : ByteArray) (hs : isTk (k, x, a) s = true) :
    Calls Try.prog 91 #[r.ptr, .string s] w fun e w' => e = .returned (.int .i64 a) ∧ Rdr r w' (i + 1) d ∧ w.grownBy w' (some r.g) := by
  have HI := Asd.mk (now_any h ht)
  have HM := Asd.mk fun w' hb => may_yes (w := w') (h.below hb) ht s hs
  have F := fld_tok2 k x a
  clear h ht hs
  go_enter Try.func91, Try.ntmps91
  go_wp2_with (first
    | (go_at_call 92; refine HI.out.mono ?_; rintro e w1 ⟨rfl, hb⟩)
    | (go_at_call 94; refine (HM.out _ hb).mono ?_; rintro e w2 ⟨rfl, hr2, hg2⟩))
  go_ret
  exact ⟨rfl, hr2, grown_trans' (grown_below hb _) hg2⟩
set_option maxHeartbeats 2000000 in
set_option maxRecDepth 100000 in
theorem must_no {r : Src} {w : World} {i d : Nat} (h : Rdr r w i d) {k : Int} {x : ByteArray} {a : Nat} (ht : r.L[i]? = some (k, x, a)) (s : ByteArray) (hs : isTk (k, x, a) s = false) :
    Calls Try.prog 91 #[r.ptr, .string s] w fun e w' => e = .panicked [{ v := .iface 135 (.agg #[.int .i64 11, .int .i64 a]), recovered := false }] ∧ Below w.heap.size w w' := by
  have HI := Asd.mk (now_any h ht)
  have HM := Asd.mk fun w' hb => may_no (w := w') (h.below hb) ht s hs
  have HF := Asd.mk fun w' hb => fail_any (w := w') (h.below hb) ht 11
  have F := fld_tok2 k x a
  clear h ht hs
  go_enter Try.func91, Try.ntmps91
  go_wp2_with (first
    | (go_at_call 92; refine HI.out.mono ?_; rintro e w1 ⟨rfl, hb⟩)
    | (go_at_call 94; refine (HM.out _ hb).mono ?_; rintro e w2 ⟨rfl, hb2⟩)
    | (go_at_call 116; refine (HF.out _ (below_call hb hb2)).mono ?_; rintro e w3 ⟨rfl, hb3⟩))
  exact ⟨rfl, rfl, below_call (below_call hb hb2) hb3⟩
set_option maxHeartbeats 2000000 in
set_option maxRecDepth 100000 in
theorem of_yes {r : Src} {w : World} {i d : Nat} (h : Rdr r w i d) {k : Int} {x : ByteArray} {a : Nat} (ht : r.L[i]? = some (k, x, a)) :
    Calls Try.prog 117 #[r.ptr, .int .i64 k] w fun e w' => e = .returned (.agg #[.int .i64 k, .string x, .int .i64 a]) ∧ Rdr r w' (i + 1) d ∧ w.grownBy w' (some r.g) := by
  have HN := Asd.mk (fun (w : World) (h : Rdr r w i d) => now_any h ht)
  have hi : i < r.L.length := (List.getElem?_eq_some_iff.1 ht).1
  have hl := h.len
  have HR := Asd.mk (h.below ((Below.refl _ _).alloc (Nat.le_refl _) (.cells #[.int .i64 0, .string ⟨#[]⟩, .int .i64 0] 115)))
  have hne : (k != k) = false := by simp
  have HR0 := Asd.mk h
  clear h ht
  go_enter Try.func117, Try.ntmps117
  go_wp2_with fail
  refine (HN.out _ HR.out).mono ?_
  rintro e w1 ⟨rfl, hb⟩
  have h0 := HR.out.below hb
  have h1 := h0.below ((Below.refl _ _).alloc (Nat.le_refl _) (.cells #[.int .i64 k, .string x, .int .i64 a] 115))
  obtain ⟨-, c1, -, f1, -⟩ := h1.cells
  have HR1 := Asd.mk h1
  have hB := (Blk.new w 115 #[.int .i64 0, .string ⟨#[]⟩, .int .i64 0]).call hb
  have hz := hb.size
  simp at hz
  have hgl := h0.blk.lt
  have hn1 : ¬ r.g = w1.heap.size := by omega
  have hn2 : ¬ w1.heap.size = r.g := by omega
  have hn3 : ¬ r.g = w.heap.size := by
    have := HR0.out.blk.lt
    omega
  have hn4 : ¬ w.heap.size = r.g := fun e => hn3 e.symm
  have hB3 := (hB.far (p := ⟨r.g, 1, none⟩) hn4 (.int .i64 ((i : Int) + 1))).alloc (.cells #[.int .i64 k, .string x, .int .i64 a] 115)
  have b0 := hB3.cell 0
  have b1 := hB3.cell 1
  have b2 := hB3.cell 2
  have d0 := hB3.free 0
  have d1 := hB3.free 1
  have d2 := hB3.free 2
  have HB := Asd.mk hb
  have HBL := Asd.mk hB
  have H0 := Asd.mk h0
  clear h1 h0 hb hB hB3
  go_wp2
  have hG : w.grownBy w1 (some r.g) := grown_trans' (World.grownBy_alloc w _ _) (grown_below HB.out _)
  refine bodyPost_ret (v := .agg #[.int .i64 k, .string x, .int .i64 a]) (by simp [results, Try.results117, go_sem, b0, b1, b2]) rfl ⟨rfl, ?_, ?_⟩
  · refine HR0.out.step ?_ (((((by have := H0.out.blk.set_ 1 (.int .i64 ((i : Int) + 1)); simpa using this : Blk (w1.setCell ⟨r.g, 1, none⟩ (.int .i64 ((i : Int) + 1))) r.g 137 #[.slice r.A r.L.length r.c, .int .i64 ((i + 1 : Nat) : Int), .int .i64 d]).alloc _).far hn3 _).far hn3 _).far hn3 _)
    exact grown_set (grown_set (grown_set (grown_trans' (grown_set hG (.inl rfl) _) (World.grownBy_alloc _ _ _)) (.inr (Nat.le_refl _)) _) (.inr (Nat.le_refl _)) _) (.inr (Nat.le_refl _)) _
  · exact grown_set (grown_set (grown_set (grown_trans' (grown_set hG (.inl rfl) _) (World.grownBy_alloc _ _ _)) (.inr (Nat.le_refl _)) _) (.inr (Nat.le_refl _)) _) (.inr (Nat.le_refl _)) _
set_option maxHeartbeats 2000000 in
set_option maxRecDepth 100000 in
theorem of_no {r : Src} {w : World} {i d : Nat} (h : Rdr r w i d) {k : Int} {x : ByteArray} {a : Nat} (ht : r.L[i]? = some (k, x, a)) (q : Int) (hq : k ≠ q) :
    Calls Try.prog 117 #[r.ptr, .int .i64 q] w fun e w' => e = .panicked [{ v := .iface 135 (.agg #[.int .i64 11, .int .i64 a]), recovered := false }] ∧ Below w.heap.size w w' := by
  have hal := (Below.refl w.heap.size w).alloc (Nat.le_refl _) (.cells #[.int .i64 0, .string ⟨#[]⟩, .int .i64 0] 115)
  have HR0 := Asd.mk (h.below hal)
  have HN := Asd.mk (fun (w : World) (h : Rdr r w i d) => now_any h ht)
  have HF := Asd.mk fun (w : World) (h : Rdr r w i d) => fail_any h ht 11
  have hne : (k != q) = true := by simpa using hq
  have HAL := Asd.mk hal
  clear h ht hq hal
  go_enter Try.func117, Try.ntmps117
  go_wp2_with (first
    | (go_at_call 92; refine (HN.out _ HR0.out).mono ?_; rintro e w1 ⟨rfl, hb⟩)
    | (go_at_call 116; refine (HF.out _ ((HR0.out.below hb).below ((Below.refl _ _).alloc (Nat.le_refl _) _))).mono ?_; rintro e w2 ⟨rfl, hb2⟩))
  exact ⟨rfl, rfl, below_call (below_call HAL.out (hb.alloc hb.size _)) hb2⟩
theorem name_yes {r : Src} {w : World} {i d : Nat} (h : Rdr r w i d) {x : ByteArray} {a : Nat} (ht : r.L[i]? = some (1, x, a)) :
    Calls Try.prog 93 #[r.ptr] w fun e w' => e = .returned (.string x) ∧ Rdr r w' (i + 1) d ∧ w.grownBy w' (some r.g) := by
  have HO := Asd.mk (of_yes h ht)
  have F := fld_tok1 1 x a
  clear h ht
  go_enter Try.func93, Try.ntmps93
  go_wp2_with (go_at_call 117; refine HO.out.mono ?_; rintro e w1 ⟨rfl, hr, hg⟩)
  go_ret
  exact ⟨rfl, hr, hg⟩
theorem name_no {r : Src} {w : World} {i d : Nat} (h : Rdr r w i d) {k : Int} {x : ByteArray} {a : Nat} (ht : r.L[i]? = some (k, x, a)) (hk : k ≠ 1) :
    Calls Try.prog 93 #[r.ptr] w fun e w' => e = .panicked [{ v := .iface 135 (.agg #[.int .i64 11, .int .i64 a]), recovered := false }] ∧ Below w.heap.size w w' := by
  have HO := Asd.mk (of_no h ht 1 hk)
  clear h ht hk
  go_enter Try.func93, Try.ntmps93
  go_wp2_with (go_at_call 117; refine HO.out.mono ?_; rintro e w1 ⟨rfl, hb⟩)
  exact ⟨rfl, rfl, hb⟩
end Go.Proofs.Ythfoaehjnoiniaa
