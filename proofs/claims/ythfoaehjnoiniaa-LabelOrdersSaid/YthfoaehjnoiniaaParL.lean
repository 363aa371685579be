/- (*parse.reader).labels by its contract. -/
import Derived.Test.YthfoaehjnoiniaaParA
import Derived.Test.YthfoaehjnoiniaaStrs
namespace Go.Proofs.Ythfoaehjnoiniaa
open Go.RowKit
theorem E_prm : ElemT Try.prog 37 56 3 40 := ElemT.mk' Try.underlying37 (z := .agg #[.string ⟨#[]⟩, .string ⟨#[]⟩, .int .i64 0]) (by kernel_rfl) rfl (by decide)
structure LbI (r : Src) (d : Nat) (w wr : World) (i n : Nat) (v : Value) (out : List Prm) : Prop where
  rd : Rdr r wr i d
  own : Own rPrm wr NoB w.heap.size 56 v n out
  gr : w.grownBy wr (some r.g)
  gl : r.g < w.heap.size
  so : ∀ b, r.S b → b < w.heap.size
section
variable {r : Src} {d : Nat} {w wr w1 : World} {i i' n n' : Nat} {v v' : Value} {out out' : List Prm}
theorem LbI.call (h : LbI r d w wr i n v out) (hb : Below wr.heap.size wr w1) : LbI r d w w1 i n v out :=
  ⟨h.rd.below hb, h.own.call hb, grown_trans' h.gr (grown_below hb _), h.gl, h.so⟩
theorem LbI.alloc (h : LbI r d w wr i n v out) (o : Obj) : LbI r d w (wr.alloc o) i n v out := h.call ((Below.refl _ _).alloc (Nat.le_refl _) _)
theorem LbI.step (h : LbI r d w wr i n v out) (hr : Rdr r w1 i' d) (hg : wr.grownBy w1 (some r.g)) : LbI r d w w1 i' n v out :=
  ⟨hr, h.own.kept hg (by
    cases hv : v.ownBlock with
    | none => exact .inl rfl
    | some k =>
      have := (h.own.lt k hv).1
      have := h.gl
      exact .inr (fun e => by injection e with e; omega)) (fun _ h => h.elim), grown_trans' h.gr hg, h.gl, h.so⟩
theorem LbI.app (h : LbI r d w wr i n v out) (ho : Own rPrm w1 NoB w.heap.size 56 v' n' out') (hg : wr.grownBy w1 v.ownBlock) : LbI r d w w1 i n' v' out' := by
  have hne : some r.g ≠ v.ownBlock := fun e => by
    have := (h.own.lt r.g e.symm).1
    have := h.gl
    omega
  have hbl := h.rd.blk.grown hg hne
  refine ⟨⟨hbl, h.rd.tok.keep (fun b hs => ?_), fun b hs => ⟨Nat.lt_of_lt_of_le (h.rd.off b hs).1 hg.size, (h.rd.off b hs).2⟩, h.rd.len⟩, ho, ?_, h.gl, h.so⟩
  · exact hg.block b (h.rd.off b hs).1 (fun e => by have := (h.own.lt b e.symm).1; have := h.so b hs; omega)
  · refine ⟨hg.os.trans h.gr.os, hg.tape.trans h.gr.tape, hg.output.trans h.gr.output, Nat.le_trans h.gr.size hg.size, fun b hb hne2 => ?_⟩
    rw [hg.block b (Nat.lt_of_lt_of_le hb h.gr.size) (fun e => by have := (h.own.lt b e.symm).1; omega), h.gr.block b hb hne2]
end
def LabPost (r : Src) (res : PR (List Prm)) (w : World) (e : Ending) (w' : World) : Prop := match res with
  | .ok out => ∃ v, e = .returned v ∧ Own rPrm w' NoB w.heap.size 56 v out.length out ∧ w.grownBy w' (some r.g)
  | .bad er a => e = .panicked [{ v := .iface 135 (.agg #[.int .i64 er, .int .i64 a]), recovered := false }] ∧ w.grownBy w' (some r.g)
set_option maxHeartbeats 4000000 in
set_option maxRecDepth 100000 in
theorem labels_any {r : Src} {w : World} {d : Nat} (h : Rdr r w 0 d) (hE : EndTk r.L) (hl : r.L.length ≤ 100000) :
    Calls Try.prog 66 #[r.ptr] w (LabPost r (labelsS r.L) w) := by
  have hp := hE.pos
  have F0 := fld_tok0
  have F2 := fld_tok2
  obtain ⟨k, x, a, htk⟩ : ∃ k x a, tk r.L 0 = (k, x, a) := ⟨_, _, _, rfl⟩
  have ht0 := tk_at hp
  rw [htk] at ht0
  have HT := Asd.mk htk
  cases hs : isTk (k, x, a) bLabels with
  | false =>
    have HM := Asd.mk (must_no h ht0 bLabels hs)
    have HS := Asd.mk (show labelsS r.L = .bad 11 a by unfold labelsS; rw [htk, hs]; rfl)
    clear h ht0 hs htk hE hl hp
    unfold bLabels at HM
    go_enter Try.func66, Try.ntmps66
    go_wp2_with (go_at_call 91; refine HM.out.mono ?_; rintro e w1 ⟨rfl, hb⟩)
    refine ⟨rfl, ?_⟩
    rw [HS.out]
    exact ⟨rfl, grown_below hb _⟩
  | true =>
    have HM := Asd.mk (must_yes h ht0 bLabels hs)
    have hn0 : 1 < r.L.length := hE.next hp (by rw [htk]; exact isTk_kind hs)
    have HS := Asd.mk (show labelsS r.L = labOut r.L r.L.length 1 [] by unfold labelsS; rw [htk, hs]; rfl)
    have HH := Asd.mk h
    have HE := Asd.mk hE
    clear h ht0 hs htk hE hp
    unfold bLabels at HM
    go_enter Try.func66, Try.ntmps66
    go_wp2_with (go_at_call 91; refine HM.out.mono ?_; rintro e w1 ⟨rfl, hr1, hg1⟩)
    have hL0 : LbI r d w w1 1 0 (.slice none 0 0) [] := ⟨hr1, Own.nil rPrm _ (fun _ h => h.elim) _ _, hg1, HH.out.blk.lt, fun b hb => (HH.out.off b hb).1⟩
    clear hr1 hg1
    go_loopg [3] (r.L.length - 1) (fun gk v wr => ∃ (i n f : Nat) (out : List Prm), i < r.L.length ∧ n ≤ i ∧ gk = r.L.length - i ∧ r.L.length ≤ f + i ∧ LbI r d w wr i n v out ∧ Asd (labelsS r.L = labOut r.L f i out))
    case atStart => exact ⟨1, 0, r.L.length, [], hn0, by omega, rfl, by omega, hL0, HS⟩
    case round =>
      obtain ⟨i, n, f, out, hi, hn, rfl, hf, hL, HS⟩ := hrel
      have HL := Asd.mk hL
      obtain ⟨k, x, a, htk⟩ : ∃ k x a, tk r.L i = (k, x, a) := ⟨_, _, _, rfl⟩
      have ht := tk_at hi
      rw [htk] at ht
      have HN := Asd.mk fun (w' : World) (h : Rdr r w' i d) => now_any h ht
      by_cases h0 : k = 0
      · subst h0
        have HS2 := Asd.mk (HS.out.trans (labOut_end (by rw [htk])))
        clear htk ht hL HS
        go_wp2_with (go_at_call 92; refine (HN.out _ HL.out.rd).mono ?_; rintro e w1 ⟨rfl, hb⟩)
        go_ret
        rw [HS2.out]
        have hlen := HL.out.own.len
        subst hlen
        exact ⟨_, rfl, HL.out.own.call hb, grown_trans' HL.out.gr (grown_below hb _)⟩
      · have hne0 : (k != 0) = true := by simpa using h0
        by_cases h1 : k = 1
        · subst h1
          have hi1 : i + 1 < r.L.length := HE.out.next hi (by rw [htk]; exact Int.one_ne_zero)
          have HY := Asd.mk fun (w' : World) (h : Rdr r w' i d) => name_yes h ht
          obtain ⟨f, rfl⟩ : ∃ f', f = f' + 1 := ⟨f - 1, by omega⟩
          have hsp := HS.out.trans (labOut_name (by rw [htk]))
          rw [htk] at hsp
          have HS2 := Asd.mk hsp
          clear htk ht hL HS h0 hsp
          go_wp2_with fail
          refine (HN.out _ HL.out.rd).mono ?_
          rintro e w1 ⟨rfl, hb⟩
          have HL1 := Asd.mk (HL.out.call hb)
          clear hb
          go_wp2_with fail
          refine (HN.out _ HL1.out.rd).mono ?_
          rintro e w2 ⟨rfl, hb⟩
          have HL2 := Asd.mk (HL1.out.call hb)
          clear hb
          go_wp2_with fail
          refine (HY.out _ HL2.out.rd).mono ?_
          rintro e w3 ⟨rfl, hr3, hg3⟩
          have hL3 := HL2.out.step hr3 hg3
          clear hr3 hg3 HN HY HL HL1 HL2
          go_wp2_with fail
          go_loopg [3, 5, 6] (r.L.length - (i + 1)) (fun gk v lv av wr => ∃ (j n f2 : Nat) (out : List Prm) (last : ByteArray) (alone : Bool), j < r.L.length ∧ i + 1 ≤ j ∧ n + 1 ≤ j ∧ gk = r.L.length - j ∧ r.L.length ≤ f2 + j ∧ lv = .string last ∧ av = .bool alone ∧ LbI r d w wr j n v out ∧ Asd (labelsS r.L = labK r.L f a (labIn r.L f2 j last alone out)))
          case atStart => exact ⟨i + 1, n, f, out, x, true, hi1, Nat.le_refl _, by omega, rfl, by omega, rfl, rfl, hL3, HS2⟩
          case round =>
            clear hL3 HS2 hn
            obtain ⟨j, n, f2, out, last, alone, hj, hij, hn, rfl, hf2, rfl, rfl, hL, HS⟩ := hrel
            have HL := Asd.mk hL
            obtain ⟨k2, x2, a2, htk⟩ : ∃ k x a, tk r.L j = (k, x, a) := ⟨_, _, _, rfl⟩
            have ht := tk_at hj
            rw [htk] at ht
            cases hs : isTk (k2, x2, a2) bLt with
            | true =>
              have hj1 : j + 1 < r.L.length := HE.out.next hj (by rw [htk]; exact isTk_kind hs)
              obtain ⟨f2, rfl⟩ : ∃ f', f2 = f' + 1 := ⟨f2 - 1, by omega⟩
              obtain ⟨k3, x3, a3, htk3⟩ : ∃ k x a, tk r.L (j + 1) = (k, x, a) := ⟨_, _, _, rfl⟩
              have ht3 := tk_at hj1
              rw [htk3] at ht3
              have HM := Asd.mk fun (w' : World) (h : Rdr r w' j d) => may_yes h ht bLt hs
              unfold bLt at HM
              have HN := Asd.mk fun (w' : World) (h : Rdr r w' (j + 1) d) => now_any h ht3
              by_cases h3 : k3 = 1
              · subst h3
                have hj2 : j + 2 < r.L.length := HE.out.next hj1 (by rw [htk3]; exact Int.one_ne_zero)
                have HY := Asd.mk fun (w' : World) (h : Rdr r w' (j + 1) d) => name_yes h ht3
                have hsp := HS.out
                rw [labIn_more (by rw [htk]; exact hs) (by rw [htk3]), htk3] at hsp
                have HS2 := Asd.mk hsp
                clear htk ht htk3 ht3 hL HS hsp hs
                go_wp2_with fail
                refine (HM.out _ HL.out.rd).mono ?_
                rintro e w1 ⟨rfl, hr1, hg1⟩
                have HL1 := Asd.mk (HL.out.step hr1 hg1)
                clear hr1 hg1
                go_wp2_with fail
                refine (HN.out _ HL1.out.rd).mono ?_
                rintro e w2 ⟨rfl, hb⟩
                have HL2 := Asd.mk (HL1.out.call hb)
                clear hb
                go_wp2_with fail
                refine (HY.out _ HL2.out.rd).mono ?_
                rintro e w3 ⟨rfl, hr3, hg3⟩
                have HL3b := Asd.mk (HL2.out.step hr3 hg3)
                have HL3 := Asd.mk ((HL2.out.step hr3 hg3).alloc (.cells #[.string last, .string x3, .int .i64 a3] 56))
                clear hr3 hg3 HN HY HL HL1 HL2 HM
                go_wp2_with (at_builtin; refine wpList_app1 rfl (.tmp 28) _ _ rfl E_prm rfl (HL3.out.alloc _).own ⟨w3.heap.size + 1, 0, none⟩ (last, x3, a3) [.string last, .string x3, .int .i64 (a3 : Nat)] rfl (news_at (cs := #[.string last, .string x3, .int .i64 (a3 : Nat)]) (two_new' w3 _ _ _)) (by simp [Value.oneCell']) 1 rfl (by omega) (by simp only [maxLen]; omega) (by have := HL3.out.gr.size; simp at this ⊢; omega) ?_; intro gq capq w4 hown4 hg4 hat4; have b1 : w4.cell? ⟨w3.heap.size, 1, none⟩ = some (.string x3) := (((Blk.new w3 56 #[.string last, .string x3, .int .i64 a3]).alloc _).grown hg4 (fun e => by have := (HL3b.out.own.lt _ e.symm).2; omega)).cell 1)
                have hL4 := LbI.app (HL3.out.alloc _) hown4 hg4
                go_roundg (r.L.length - (j + 2))
                case rel => exact ⟨j + 2, n + 1, f2, _, x3, false, hj2, by omega, by omega, rfl, by omega, rfl, rfl, hL4, HS2⟩
                case measure => omega
              · have HY := Asd.mk fun (w' : World) (h : Rdr r w' (j + 1) d) => name_no h ht3 h3
                have hsp := HS.out
                rw [labIn_bad (by rw [htk]; exact hs) (by rw [htk3]; exact h3), htk3] at hsp
                have HS2 := Asd.mk hsp
                clear htk ht htk3 ht3 hL HS hsp hs h3
                go_wp2_with fail
                refine (HM.out _ HL.out.rd).mono ?_
                rintro e w1 ⟨rfl, hr1, hg1⟩
                have HL1 := Asd.mk (HL.out.step hr1 hg1)
                clear hr1 hg1
                go_wp2_with fail
                refine (HN.out _ HL1.out.rd).mono ?_
                rintro e w2 ⟨rfl, hb⟩
                have HL2 := Asd.mk (HL1.out.call hb)
                clear hb
                go_wp2_with fail
                refine (HY.out _ HL2.out.rd).mono ?_
                rintro e w3 ⟨rfl, hb⟩
                go_wp2_with fail
                refine ⟨rfl, ?_⟩
                rw [HS2.out]
                exact ⟨rfl, grown_trans' HL2.out.gr (grown_below hb _)⟩
            | false =>
              have HM := Asd.mk fun (w' : World) (h : Rdr r w' j d) => may_no h ht bLt hs
              unfold bLt at HM
              have hsp := HS.out
              rw [labIn_stop (by rw [htk]; exact hs), labK, htk] at hsp
              cases hs2 : isTk (k2, x2, a2) bSemi with
              | true =>
                have hj1 : j + 1 < r.L.length := HE.out.next hj (by rw [htk]; exact isTk_kind hs2)
                have HU := Asd.mk fun (w' : World) (h : Rdr r w' j d) => must_yes h ht bSemi hs2
                unfold bSemi at HU
                rw [if_pos hs2] at hsp
                cases alone with
                | true =>
                  have HS2 := Asd.mk hsp
                  clear htk ht hL HS hsp hs hs2
                  go_wp2_with fail
                  refine (HM.out _ HL.out.rd).mono ?_
                  rintro e w1 ⟨rfl, hb⟩
                  have HL1 := Asd.mk (HL.out.call hb)
                  clear hb
                  go_wp2_with (at_builtin; refine wpList_app1 rfl (.tmp 35) _ _ rfl E_prm rfl (HL1.out.alloc _).own ⟨w1.heap.size, 0, none⟩ (last, ⟨#[]⟩, a) [.string last, .string ⟨#[]⟩, .int .i64 (a : Nat)] rfl (news_at (cs := #[.string last, .string ⟨#[]⟩, .int .i64 (a : Nat)]) (heap_alloc_new w1 _)) (by simp [Value.oneCell']) 1 rfl (by omega) (by simp only [maxLen]; omega) (by have := HL1.out.gr.size; simp at this ⊢; omega) ?_; intro gq capq w4 hown4 hg4 hat4)
                  have hL4 := LbI.app (HL1.out.alloc _) hown4 hg4
                  go_wp2_with fail
                  refine (HU.out _ hL4.rd).mono ?_
                  rintro e w5 ⟨rfl, hr5, hg5⟩
                  have hL5 := hL4.step hr5 hg5
                  clear hr5 hg5 hL4
                  go_wp2_with fail
                  go_roundg (r.L.length - (j + 1))
                  case rel => exact ⟨j + 1, n + 1, f, _, hj1, by omega, rfl, by omega, hL5, HS2⟩
                  case measure => omega
                | false =>
                  have HS2 := Asd.mk hsp
                  clear htk ht hL HS hsp hs hs2
                  go_wp2_with fail
                  refine (HM.out _ HL.out.rd).mono ?_
                  rintro e w1 ⟨rfl, hb⟩
                  have HL1 := Asd.mk (HL.out.call hb)
                  clear hb
                  go_wp2_with fail
                  refine (HU.out _ HL1.out.rd).mono ?_
                  rintro e w5 ⟨rfl, hr5, hg5⟩
                  have hL5 := HL1.out.step hr5 hg5
                  clear hr5 hg5
                  go_wp2_with fail
                  go_roundg (r.L.length - (j + 1))
                  case rel => exact ⟨j + 1, n, f, _, hj1, by omega, rfl, by omega, hL5, HS2⟩
                  case measure => omega
              | false =>
                have HU := Asd.mk fun (w' : World) (h : Rdr r w' j d) => must_no h ht bSemi hs2
                unfold bSemi at HU
                rw [if_neg (by rw [hs2]; decide)] at hsp
                cases alone with
                | true =>
                  have HS2 := Asd.mk hsp
                  clear htk ht hL HS hsp hs hs2
                  go_wp2_with fail
                  refine (HM.out _ HL.out.rd).mono ?_
                  rintro e w1 ⟨rfl, hb⟩
                  have HL1 := Asd.mk (HL.out.call hb)
                  clear hb
                  go_wp2_with (at_builtin; refine wpList_app1 rfl (.tmp 35) _ _ rfl E_prm rfl (HL1.out.alloc _).own ⟨w1.heap.size, 0, none⟩ (last, ⟨#[]⟩, a) [.string last, .string ⟨#[]⟩, .int .i64 (a : Nat)] rfl (news_at (cs := #[.string last, .string ⟨#[]⟩, .int .i64 (a : Nat)]) (heap_alloc_new w1 _)) (by simp [Value.oneCell']) 1 rfl (by omega) (by simp only [maxLen]; omega) (by have := HL1.out.gr.size; simp at this ⊢; omega) ?_; intro gq capq w4 hown4 hg4 hat4)
                  have hL4 := LbI.app (HL1.out.alloc _) hown4 hg4
                  go_wp2_with fail
                  refine (HU.out _ hL4.rd).mono ?_
                  rintro e w5 ⟨rfl, hb⟩
                  go_wp2_with fail
                  refine ⟨rfl, ?_⟩
                  rw [HS2.out]
                  exact ⟨rfl, grown_trans' hL4.gr (grown_below hb _)⟩
                | false =>
                  have HS2 := Asd.mk hsp
                  clear htk ht hL HS hsp hs hs2
                  go_wp2_with fail
                  refine (HM.out _ HL.out.rd).mono ?_
                  rintro e w1 ⟨rfl, hb⟩
                  have HL1 := Asd.mk (HL.out.call hb)
                  clear hb
                  go_wp2_with fail
                  refine (HU.out _ HL1.out.rd).mono ?_
                  rintro e w5 ⟨rfl, hb⟩
                  go_wp2_with fail
                  refine ⟨rfl, ?_⟩
                  rw [HS2.out]
                  exact ⟨rfl, grown_trans' HL1.out.gr (grown_below hb _)⟩
        · have HY := Asd.mk fun (w' : World) (h : Rdr r w' i d) => name_no h ht h1
          obtain ⟨f, rfl⟩ : ∃ f', f = f' + 1 := ⟨f - 1, by omega⟩
          have hsp := HS.out.trans (labOut_bad (by rw [htk]; exact h0) (by rw [htk]; exact h1))
          rw [htk] at hsp
          have HS2 := Asd.mk hsp
          clear htk ht hL HS h0 h1 hsp
          go_wp2_with fail
          refine (HN.out _ HL.out.rd).mono ?_
          rintro e w1 ⟨rfl, hb⟩
          have HL1 := Asd.mk (HL.out.call hb)
          clear hb
          go_wp2_with fail
          refine (HN.out _ HL1.out.rd).mono ?_
          rintro e w2 ⟨rfl, hb⟩
          have HL2 := Asd.mk (HL1.out.call hb)
          clear hb
          go_wp2_with fail
          refine (HY.out _ HL2.out.rd).mono ?_
          rintro e w3 ⟨rfl, hb⟩
          go_wp2_with fail
          refine ⟨rfl, ?_⟩
          rw [HS2.out]
          exact ⟨rfl, grown_trans' HL2.out.gr (grown_below hb _)⟩
end Go.Proofs.Ythfoaehjnoiniaa
