/- The walk of FnExactExprWords. -/
import Derived.Test.YtfjmjlpobbjjdaaDoorWdF
import Derived.Test.YtfjmjlpobbjjdaaDoorMkE
import Derived.Test.YtfjmjlpobbjjdaaDoorEtL
namespace Go.Proofs.YtfjmjlpobbjjdaaDoor
open Go.RowKit Ilp
set_option linter.unusedVariables false
set_option linter.unusedSimpArgs false

theorem MkS.mine {T T' : TypeId} {B B' : Nat} {w w' : World} {A : Option Addr} {vs : List Value} (h : MkS T B w w') (hm : Mine w B' T' A vs) (hT : T' ≠ T) : Mine w' B' T' A vs := by
  rcases hm with rfl | ⟨g, cur, rfl, hB, hg, ht⟩
  · exact .inl rfl
  · refine .inr ⟨g, cur, rfl, hB, ?_, ht⟩
    by_cases hb : B ≤ g
    · rcases h.bl g hb (heap_lt hg) with e | ⟨cs, cs', e1, _⟩
      · exact e.trans hg
      · rw [hg] at e1
        simp only [Option.some.injEq, Obj.cells.injEq] at e1
        exact absurd e1.2.1 hT
    · exact (h.be.block g (by omega)).trans hg
set_option maxRecDepth 20000 in
/-- The marks into one. -/
theorem markExprV (k n : Int) (g : ByteArray) (A : Option Addr) (l c d B : Nat) (ts : List Ex) (W : World) (h : NewE 25 W B d ts A) (hl : Hid (ts.length = l)) (hB : B ≤ W.heap.size) (hw : wgts ts ≤ 10000000) :
    Calls Tryd.prog 41 #[.agg #[.int .i64 k, .int .i64 n, .string g, .slice A l c], .int .i64 1] W fun e w' => ∃ k' : Nat, e = .returned (.int .i64 (k' : Int)) ∧ (k' : Int) ≤ 1000000000 ∧ MkS 25 B W w' := by
  obtain ⟨w0, hw0⟩ : ∃ w0, w0 = W.alloc (.cells #[.int .i64 k, .int .i64 n, .string g, .slice A l c] 25) := ⟨_, rfl⟩
  have hb0 : Below W.heap.size W w0 := by rw [hw0]; exact (Below.refl _ _).alloc (Nat.le_refl _) _
  have M0 := Lib.hid (MkS.of (T := 25) hb0 hB)
  have hb : Blk w0 W.heap.size 25 [.int .i64 k, .int .i64 n, .string g, .slice A l c] := by rw [hw0]; exact Blk.alloc_ W _ _
  obtain ⟨a0, a1, a2, a3⟩ := blkE_cells hb
  have C := Lib.hid (markExprS_all d ts A l c B 1 w0 (h.keep M0.out) hl (Nat.le_trans hB hb0.size) (by omega) (by omega))
  have HW := Lib.hid hw
  clear h hB hb0 hb hw
  go_enter Tryd.func41, Tryd.ntmps41
  go_upto_region 1 with (fail)
  rw [← hw0]
  clear hw0
  go_wp2_with fail
  refine C.out.mono ?_
  rintro e w1 ⟨k', rfl, _, hk2, hm⟩
  have R := Lib.hid (M0.out.trans hm)
  have HK : Hid ((k' : Int) ≤ 1000000000) := by have := HW.out; unfold Hid; omega
  clear hm hk2 a0 a1 a2 a3
  go_wp2_with fail
  go_ret
  exact ⟨k', rfl, HK.out, R.out⟩
/-- The argument in its box, the copy in its box, the words twice. -/
structure EwS (w : World) (k n : Int) (g : ByteArray) (A : Option Addr) (l c : Nat) (t : Ex) (X : Nat) (rA : Option Addr) (rc B d : Nat) (Ag Aw : Option Addr) (zs : List Value) (Bw : Nat) (W5 W : World) : Prop where
  bx : BoxE w W k n g A l c t
  cp : CopS X k n g rA l rc t W
  ne : NewE 25 W B d t.kids rA
  mg : Mine W B 9 Ag zs
  mw : Mine W Bw 9 Aw zs
  b5 : Below W5.heap.size W5 W
  hB : B ≤ W.heap.size
theorem EwS.next {w : World} {k n : Int} {g : ByteArray} {A : Option Addr} {l c : Nat} {t : Ex} {X : Nat} {rA : Option Addr} {rc B d : Nat} {Ag Aw : Option Addr} {zs : List Value} {Bw : Nat} {W5 W W' : World} (h : EwS w k n g A l c t X rA rc B d Ag Aw zs Bw W5 W) (hb : Below W.heap.size W W') : EwS w k n g A l c t X rA rc B d Ag Aw zs Bw W5 W' :=
  ⟨h.bx.next hb, h.cp.next hb, h.ne.keep (MkS.of hb h.hB), h.mg.below hb, h.mw.below hb, h.b5.trans (hb.mono h.b5.size), Nat.le_trans h.hB hb.size⟩

set_option maxHeartbeats 8000000 in
set_option maxRecDepth 20000 in
theorem law_FnExactExprWords (x0 : Array Value) (t : ExprT) (w : World) (hsh : w.ShapedOpen Tryd.prog) (hT : Tabs w) (h0 : IsExpr w x0 t) :
    Calls Tryd.prog 13 #[.agg x0] w fun e w' => e = .returned (.bool true) ∧ Below w.heap.size w w' := by
  obtain ⟨k, n, g, A, l, c, rfl, ha⟩ := isExpr_open h0
  clear h0 hsh
  have HT := Lib.hid hT
  have S0 := Lib.hid (boxE_start ha)
  clear ha hT
  obtain ⟨xs, hxs⟩ : ∃ xs : List ByteArray, xs = (wordsOf t).map mkB := ⟨_, rfl⟩
  obtain ⟨m, hm⟩ : ∃ m, m = (wordsOf t).length := ⟨_, rfl⟩
  have HL : Hid (xs.length = m) := by unfold Hid; rw [hxs, hm]; simp
  have hm60 : (m : Int) ≤ 60 := by have := wordsOf_len t; omega
  have HXS : Hid (wsB (wordsOf t) = strB xs) := by unfold Hid wsB; rw [hxs]
  have HM := Lib.hid hm
  clear hxs hm
  go_enter Tryd.func13, Tryd.ntmps13
  go_wp2_with fail
  generalize w.alloc (.cells #[.int .i64 k, .int .i64 n, .string g, .slice A l c] 36) = w0 at *
  refine (szExprV k n g A l c t 1048576 w0 S0.out.ka (by omega) (by omega)).mono ?_
  rintro e w1 ⟨r, rfl, hr1, hb1⟩
  have S1 := Lib.hid (S0.out.next hb1)
  by_cases hneg : r < 0
  · have HB1 := Lib.hid S1.out.be
    clear hr1 hb1
    go_wp2_with fail
    go_ret
    exact ⟨rfl, HB1.out⟩
  have hwt : Hid (wtExpr t ≤ 1048576) := by unfold Hid; omega
  clear hr1 hb1
  obtain ⟨q0, q1, q2, q3⟩ := blkE_cells S1.out.ba
  go_wp2_with fail
  refine (toExprV k n g A l c t w1 S1.out.ka hwt.out).mono ?_
  rintro e w2 ⟨pA, pc, rfl, kp, hb2⟩
  have S2 := Lib.hid (S1.out.next hb2)
  have KP2 := Lib.hid kp
  clear hb2 kp q0 q1 q2 q3
  go_wp2_with fail
  refine (specExprWords k n g pA l pc t w2 KP2.out hwt.out).mono ?_
  rintro e w3 ⟨vw, rfl, hown3, hb3⟩
  obtain ⟨Aw, cw, rfl, hcw, hmw⟩ := Mine.of_own hown3
  rw [HXS.out] at hmw
  rw [← HM.out]
  have S3 := Lib.hid (S2.out.next hb3)
  have W3 := Lib.hid hmw
  have HR3 := Lib.hid hmw.row
  clear hb3 hown3 hcw hmw S0 S1 S2 KP2
  generalize w2.heap.size = bw at *
  obtain ⟨q0, q1, q2, q3⟩ := blkE_cells S3.out.ba
  go_wp2_with fail
  refine (toExprM k n g A l c t w3 S3.out.ka hwt.out).mono ?_
  rintro e w6 ⟨rA, rc, d, rfl, kr, hne, hkl, hb6⟩
  have S6 := Lib.hid (S3.out.next hb6)
  have W6 := Lib.hid (W3.out.below hb6)
  have hal := (Below.refl w6.heap.size w6).alloc (Nat.le_refl _) (.cells #[.int .i64 k, .int .i64 n, .string g, .slice rA l rc] 25)
  have S7 := Lib.hid (S6.out.next hal)
  have W7 := Lib.hid (W6.out.below hal)
  have X7 : Hid (CopS w6.heap.size k n g rA l rc t _) := ⟨Blk.alloc_ w6 25 [.int .i64 k, .int .i64 n, .string g, .slice rA l rc], kr.below hal⟩
  have N7 := Lib.hid (hne.keep (MkS.of hal hb6.size))
  have B7 : Hid (Below w3.heap.size w3 (w6.alloc (.cells #[.int .i64 k, .int .i64 n, .string g, .slice rA l rc] 25))) := hb6.trans (hal.mono hb6.size)
  clear hb6 kr hal q0 q1 q2 q3 S6 W6 W3 hne
  go_wp2_with fail
  generalize w6.alloc (.cells #[.int .i64 k, .int .i64 n, .string g, .slice rA l rc] 25) = w7 at *
  generalize w6.heap.size = x6 at *
  obtain ⟨q0, q1, q2, q3⟩ := blkE_cells X7.out.ba
  go_wp2_with fail
  refine (implExprWords k n g rA l rc t w7 X7.out.ka hwt.out (HT.out.keep S7.out.be)).mono ?_
  rintro e w8 ⟨vg, rfl, hown8, hb8⟩
  obtain ⟨Ag, cg, rfl, hcg, hmg⟩ := Mine.of_own (hown8.mono B7.out.size)
  rw [HXS.out] at hmg
  rw [← HM.out]
  have E8 : Hid (EwS w k n g A l c t x6 rA rc w3.heap.size d Ag Aw (strB xs) bw w3 w8) := ⟨S7.out.next hb8, X7.out.next hb8, N7.out.keep (MkS.of hb8 B7.out.size), hmg, W7.out.below hb8, B7.out.trans (hb8.mono B7.out.size), Nat.le_trans B7.out.size hb8.size⟩
  clear hb8 hown8 hcg hmg S7 X7 N7 W7 B7 q0 q1 q2 q3
  have hkw : wgts t.kids ≤ 10000000 := by have h1 := wgt_eq t; have h2 : wgt t ≤ 1048576 := hwt.out; omega
  have HKW := Lib.hid hkw
  clear hkw
  go_wp2_with fail
  refine (eqStringS_same Ag Aw cg cw m xs w8 E8.out.mg.row E8.out.mw.row HL (by omega)).mono ?_
  rintro e wa ⟨rfl, hba⟩
  have Ea := Lib.hid (E8.out.next hba)
  have hdr := (Below.refl wa.heap.size wa).drew
  have Sd := Lib.hid (Ea.out.next hdr)
  clear hba hdr E8
  go_wp2_with fail
  go_region_held3 (fun W => (W.cell? ⟨w.heap.size, 0, none⟩ = some (.int .i64 k) ∧ W.cell? ⟨w.heap.size, 1, none⟩ = some (.int .i64 n) ∧ W.cell? ⟨w.heap.size, 2, none⟩ = some (.string g) ∧ W.cell? ⟨w.heap.size, 3, none⟩ = some (.slice A l c)) ∧ (W.cell? ⟨x6, 0, none⟩ = some (.int .i64 k) ∧ W.cell? ⟨x6, 1, none⟩ = some (.int .i64 n) ∧ W.cell? ⟨x6, 2, none⟩ = some (.string g) ∧ W.cell? ⟨x6, 3, none⟩ = some (.slice rA l rc)))
    ((first | exact ⟨blkE_cells Sc.out.bx.ba, blkE_cells Sc.out.cp.ba⟩ | exact ⟨blkE_cells Sb.out.bx.ba, blkE_cells Sb.out.cp.ba⟩ | exact ⟨blkE_cells Sd.out.bx.ba, blkE_cells Sd.out.cp.ba⟩))
    ((first
      | (go_at_call 20
         refine (toExprV k n g A l c t _ Sd.out.bx.ka hwt.out).mono ?_
         rintro e wb ⟨zA, zc, rfl, kz, hbb⟩
         have Sb := Lib.hid (Sd.out.next hbb)
         have KZb := Lib.hid kz
         clear hbb kz)
      | (go_at_call 23
         refine (eqExprV Sb.out.cp.ka KZb.out).mono ?_
         rintro e wc ⟨rfl, hbc⟩
         have Sc := Lib.hid (Sb.out.next hbc)
         clear hbc)))
  obtain ⟨q0, q1, q2, q3⟩ := blkE_cells Sc.out.cp.ba
  go_wp2_with fail
  refine (markExprV k n g rA l rc d w3.heap.size t.kids wc Sc.out.ne hkl Sc.out.hB HKW.out).mono ?_
  rintro e we ⟨k', rfl, hk', hmk⟩
  have GE := Lib.hid (hmk.mine Sc.out.mg (by decide))
  have WE := Lib.hid (hmk.mine Sc.out.mw (by decide))
  have BE : Hid (Below w3.heap.size w3 we) := Sc.out.b5.trans hmk.be
  have hnk : ¬ ((k' : Int) < 0) := by omega
  clear hmk q0 q1 q2 q3 Sc Sd Ea
  go_wp2_with fail
  refine (eqStringS_same Ag Aw cg cw m xs we GE.out.row WE.out.row HL (by omega)).mono ?_
  rintro e wf ⟨rfl, hbf⟩
  have GF := Lib.hid (GE.out.below hbf)
  have WF := Lib.hid (WE.out.below hbf)
  have BF : Hid (Below w3.heap.size w3 wf) := BE.out.trans (hbf.mono BE.out.size)
  clear hbf GE WE BE
  go_wp2_with fail
  refine (markStringS Ag m cg w3.heap.size 1 xs wf GF.out HL BF.out.size (by omega) (by omega) (by omega)).mono ?_
  rintro e wg ⟨rfl, hmg, hbg⟩
  have hsg := hbg.size
  have GG := Lib.hid hmg
  have BG : Hid (Below w3.heap.size w3 wg) := BF.out.trans hbg
  have hn1 : ((1 + m : Nat) : Int) ≤ 1048578 := by omega
  clear hmg hbg GF WF BF
  obtain ⟨q, hq⟩ : ∃ q, q = 1 + m := ⟨_, rfl⟩
  have hq0 : (0 : Int) < (q : Int) := by omega
  rw [← hq] at hn1 ⊢
  have HQ := Lib.hid hq
  have CH : Hid (∀ W, Row W W.heap.size Ag (strB (marksFrom 1 m)) → Calls Tryd.prog 43 #[.slice Ag m cg, .int .i64 1] W fun e w' => e = .returned (.int .i64 (q : Int)) ∧ Below W.heap.size W w') := fun W h => by
    have := heldStringS Ag m cg 1 W h (by omega) (by omega) (by omega)
    rw [← HQ.out] at this
    exact this
  have hqn : ((q : Int) != (q : Int)) = false := by simp
  clear hq
  go_wp2_with fail
  refine (CH.out wg GG.out.row).mono ?_
  rintro e wh ⟨rfl, hbh⟩
  have GH := Lib.hid (GG.out.below hbh)
  have BH : Hid (Below w3.heap.size w3 wh) := BG.out.trans (hbh.mono BG.out.size)
  have SH := Lib.hid (S3.out.next BH.out)
  clear hbh GG BG
  obtain ⟨q0, q1, q2, q3⟩ := blkE_cells SH.out.ba
  go_wp2_with fail
  refine (toExprV k n g A l c t wh SH.out.ka hwt.out).mono ?_
  rintro e wi ⟨sA, sc, rfl, ks, hbi⟩
  have GI := Lib.hid (GH.out.below hbi)
  have BI : Hid (Below w3.heap.size w3 wi) := BH.out.trans (hbi.mono BH.out.size)
  have SI := Lib.hid (SH.out.next hbi)
  have KI := Lib.hid ks
  clear hbi ks GH BH q0 q1 q2 q3 SH
  go_wp2_with fail
  refine (implExprWords k n g sA l sc t wi KI.out hwt.out (HT.out.keep SI.out.be)).mono ?_
  rintro e wj ⟨vh, rfl, hownj, hbj⟩
  obtain ⟨Ah, ch, rfl, _, hmh⟩ := Mine.of_own hownj
  rw [HXS.out] at hmh
  rw [← HM.out]
  have GJ := Lib.hid (GI.out.below hbj)
  have BJ : Hid (Below w3.heap.size w3 wj) := BI.out.trans (hbj.mono BI.out.size)
  have MJ := Lib.hid hmh
  clear hbj hownj hmh GI BI SI KI
  go_wp2_with fail
  refine (eqStringS_same Ah Aw ch cw m xs wj MJ.out.row ((HR3.out.below BJ.out).more BJ.out.size) HL (by omega)).mono ?_
  rintro e wk ⟨rfl, hbk⟩
  have GK := Lib.hid (GJ.out.below hbk)
  have BK : Hid (Below w3.heap.size w3 wk) := BJ.out.trans (hbk.mono BJ.out.size)
  clear hbk GJ BJ MJ
  go_wp2_with fail
  refine (CH.out wk GK.out.row).mono ?_
  rintro e wl ⟨rfl, hbl⟩
  have BL : Hid (Below w.heap.size w wl) := S3.out.be.trans ((BK.out.trans (hbl.mono BK.out.size)).mono S3.out.be.size)
  clear hbl
  go_wp2_with fail
  go_ret
  exact ⟨rfl, BL.out⟩
end Go.Proofs.YtfjmjlpobbjjdaaDoor
