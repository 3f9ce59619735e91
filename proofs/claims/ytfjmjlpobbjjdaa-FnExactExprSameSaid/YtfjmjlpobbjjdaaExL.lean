/- The walk of FnExactExprSame. -/
import Derived.Test.YtfjmjlpobbjjdaaExV
import Derived.Deep.RegionWith
import Derived.Deep.RegionHeld3
namespace Go.Proofs.Ytfjmjlpobbjjdaa
open Go.RowKit Ilp
set_option linter.unusedVariables false

structure StExpr (w W : World) (ak an : Int) (ag : ByteArray) (aA : Option Addr) (al ac : Nat) (bk bn : Int) (bg : ByteArray) (bA : Option Addr) (bl bc : Nat) (t u : ExprT) : Prop where
  ba : Blk W w.heap.size 24 [.int .i64 ak, .int .i64 an, .string ag, .slice aA al ac]
  bb : Blk W (w.heap.size + 1) 24 [.int .i64 bk, .int .i64 bn, .string bg, .slice bA bl bc]
  ka : IsEV W [.int .i64 ak, .int .i64 an, .string ag, .slice aA al ac] t
  kb : IsEV W [.int .i64 bk, .int .i64 bn, .string bg, .slice bA bl bc] u
  be : Below w.heap.size w W
theorem StExpr.next {w W W2 : World} {ak an : Int} {ag : ByteArray} {aA : Option Addr} {al ac : Nat} {bk bn : Int} {bg : ByteArray} {bA : Option Addr} {bl bc : Nat} {t u : ExprT} (h : StExpr w W ak an ag aA al ac bk bn bg bA bl bc t u) (hb : Below W.heap.size W W2) : StExpr w W2 ak an ag aA al ac bk bn bg bA bl bc t u :=
  ⟨h.ba.below hb h.ba.lt, h.bb.below hb h.bb.lt, h.ka.below hb, h.kb.below hb, h.be.trans (hb.mono h.be.size)⟩
theorem blkExpr_cells {W : World} {B : Nat} {T : TypeId} {v0 v1 v2 v3 : Value} (h : Blk W B T [v0, v1, v2, v3]) : W.cell? ⟨B, 0, none⟩ = some (v0) ∧ W.cell? ⟨B, 1, none⟩ = some (v1) ∧ W.cell? ⟨B, 2, none⟩ = some (v2) ∧ W.cell? ⟨B, 3, none⟩ = some (v3) :=
  ⟨by have := h.cell 0; simpa using this, by have := h.cell 1; simpa using this, by have := h.cell 2; simpa using this, by have := h.cell 3; simpa using this⟩
set_option maxHeartbeats 8000000 in
set_option maxRecDepth 20000 in
theorem law_FnExactExprSame (x0 : Array Value) (t : ExprT) (x1 : Array Value) (u : ExprT) (w : World) (h0 : IsExpr w x0 t) (h1 : IsExpr w x1 u) :
    Calls Try.prog 3 #[.agg x0, .agg x1] w fun e w' => e = .returned (.bool true) ∧ Below w.heap.size w w' := by
  obtain ⟨ak, an, ag, aA, al, ac, rfl, ha⟩ := isExpr_open h0
  obtain ⟨bk, bn, bg, bA, bl, bc, rfl, hb⟩ := isExpr_open h1
  clear h0 h1
  have hst : StExpr w ((w.alloc (.cells #[.int .i64 ak, .int .i64 an, .string ag, .slice aA al ac] 24)).alloc (.cells #[.int .i64 bk, .int .i64 bn, .string bg, .slice bA bl bc] 24)) ak an ag aA al ac bk bn bg bA bl bc t u := by
    have hbe : Below w.heap.size w ((w.alloc (.cells #[.int .i64 ak, .int .i64 an, .string ag, .slice aA al ac] 24)).alloc (.cells #[.int .i64 bk, .int .i64 bn, .string bg, .slice bA bl bc] 24)) := by go_grown
    refine ⟨(Blk.alloc_ w 24 [.int .i64 ak, .int .i64 an, .string ag, .slice aA al ac]).alloc _, ?_, ha.below hbe, hb.below hbe, hbe⟩
    have := Blk.alloc_ (w.alloc (.cells #[.int .i64 ak, .int .i64 an, .string ag, .slice aA al ac] 24)) 24 [.int .i64 bk, .int .i64 bn, .string bg, .slice bA bl bc]
    simpa using this
  have HST := Lib.hid hst
  clear hst ha hb
  go_enter Try.func3, Try.ntmps3
  go_wp2_with fail
  generalize (w.alloc (.cells #[.int .i64 ak, .int .i64 an, .string ag, .slice aA al ac] 24)).alloc (.cells #[.int .i64 bk, .int .i64 bn, .string bg, .slice bA bl bc] 24) = w0 at *
  refine (szExprV ak an ag aA al ac t 1048576 w0 HST.out.ka (by omega) (by omega)).mono ?_
  rintro e w1 ⟨r, rfl, hr1, hb1⟩
  have S1 := Lib.hid (HST.out.next hb1)
  by_cases hneg : r < 0
  · have HB1 := Lib.hid S1.out.be
    clear hr1 hb1
    go_wp2_with fail
    go_ret
    exact ⟨rfl, HB1.out⟩
  · have hwt : Hid (wtExpr t ≤ 1048576) := by unfold Hid; omega
    have hr0 : 0 ≤ r := by omega
    have hr2 : r ≤ 1048576 := by omega
    have q0 := S1.out.bb.cell 0
    have q1 := S1.out.bb.cell 1
    have q2 := S1.out.bb.cell 2
    have q3 := S1.out.bb.cell 3
    simp only [List.getElem?_cons_zero, List.getElem?_cons_succ] at q0 q1 q2 q3
    clear hr1 hb1
    go_wp2_with fail
    refine (szExprV bk bn bg bA bl bc u r w1 S1.out.kb hr0 hr2).mono ?_
    rintro e w2 ⟨r', rfl, hr3, hb2⟩
    have S2 := Lib.hid (S1.out.next hb2)
    by_cases hneg' : r' < 0
    · have HB2 := Lib.hid S2.out.be
      clear hr3 hb2
      go_wp2_with fail
      go_ret
      exact ⟨rfl, HB2.out⟩
    · have hwu : Hid (wtExpr u ≤ 1048576) := by unfold Hid; omega
      clear hr3 hb2 q0 q1 q2 q3 hr0 hr2
      have S2d := Lib.hid (S2.out.next ((Below.refl w2.heap.size w2).drew))
      go_wp2_with fail
      go_region_held3 (fun W => (W.cell? ⟨w.heap.size, 0, none⟩ = some (.int .i64 ak) ∧ W.cell? ⟨w.heap.size, 1, none⟩ = some (.int .i64 an) ∧ W.cell? ⟨w.heap.size, 2, none⟩ = some (.string ag) ∧ W.cell? ⟨w.heap.size, 3, none⟩ = some (.slice aA al ac)) ∧ (W.cell? ⟨(w.heap.size + 1), 0, none⟩ = some (.int .i64 bk) ∧ W.cell? ⟨(w.heap.size + 1), 1, none⟩ = some (.int .i64 bn) ∧ W.cell? ⟨(w.heap.size + 1), 2, none⟩ = some (.string bg) ∧ W.cell? ⟨(w.heap.size + 1), 3, none⟩ = some (.slice bA bl bc)))
        ((first | exact ⟨blkExpr_cells S6.out.ba, blkExpr_cells S6.out.bb⟩ | exact ⟨blkExpr_cells S5.out.ba, blkExpr_cells S5.out.bb⟩ | exact ⟨blkExpr_cells S4.out.ba, blkExpr_cells S4.out.bb⟩ | exact ⟨blkExpr_cells S2d.out.ba, blkExpr_cells S2d.out.bb⟩))
        ((first
          | (go_at_call_of 8 aA
             refine (toExprV ak an ag aA al ac t _ S2d.out.ka hwt.out).mono ?_
             rintro e w4 ⟨pA, pc, rfl, kp4, hb4⟩
             have S4 := Lib.hid (S2d.out.next hb4)
             have KP4 := Lib.hid kp4
             clear hb4 kp4)
          | (go_at_call_of 8 bA
             refine (toExprV bk bn bg bA bl bc u _ S4.out.kb hwu.out).mono ?_
             rintro e w5 ⟨rA, rc, rfl, kr5, hb5⟩
             have S5 := Lib.hid (S4.out.next hb5)
             have KP5 := Lib.hid (KP4.out.below hb5)
             have KR5 := Lib.hid kr5
             clear hb5 kr5)
          | (go_at_call 7
             refine (specExprV KP5.out KR5.out).mono ?_
             rintro e w6 ⟨rfl, hb6⟩
             have S6 := Lib.hid (S5.out.next hb6)
             clear hb6)))
      clear S2d S4 S5 KP4 KP5 KR5 S2 S1 HST
      have HSAME := Lib.hid (rfl : sameExpr t u = sameExpr t u)
      generalize hsm : sameExpr t u = same at *
      have HSM := Lib.hid hsm
      clear HSAME hsm
      have a20 := S6.out.ba.cell 0
      have a21 := S6.out.ba.cell 1
      have a22 := S6.out.ba.cell 2
      have a23 := S6.out.ba.cell 3
      simp only [List.getElem?_cons_zero, List.getElem?_cons_succ] at a20 a21 a22 a23
      go_wp2_with fail
      refine (toExprV ak an ag aA al ac t w6 S6.out.ka hwt.out).mono ?_
      rintro e w7 ⟨pA, pc, rfl, kp, hb7⟩
      have S7 := Lib.hid (S6.out.next hb7)
      have S8 := Lib.hid (S7.out.next ((Below.refl w7.heap.size w7).alloc (Nat.le_refl _) (.cells #[.int .i64 ak, .int .i64 an, .string ag, .slice pA al pc] 29)))
      have X8 := Lib.hid (Blk.alloc_ w7 29 [.int .i64 ak, .int .i64 an, .string ag, .slice pA al pc])
      have KP8 := Lib.hid (kp.below ((Below.refl w7.heap.size w7).alloc (Nat.le_refl _) (.cells #[.int .i64 ak, .int .i64 an, .string ag, .slice pA al pc] 29)))
      have b20 := S8.out.bb.cell 0
      have b21 := S8.out.bb.cell 1
      have b22 := S8.out.bb.cell 2
      have b23 := S8.out.bb.cell 3
      simp only [List.getElem?_cons_zero, List.getElem?_cons_succ] at b20 b21 b22 b23
      clear kp hb7 a20 a21 a22 a23
      go_wp2_with fail
      change Hid (Blk (w7.alloc (.cells #[.int .i64 ak, .int .i64 an, .string ag, .slice pA al pc] 29)) w7.heap.size 29 [.int .i64 ak, .int .i64 an, .string ag, .slice pA al pc]) at X8
      generalize w7.alloc (.cells #[.int .i64 ak, .int .i64 an, .string ag, .slice pA al pc] 29) = w8 at *
      generalize w7.heap.size = x7 at *
      refine (toExprV bk bn bg bA bl bc u w8 S8.out.kb hwu.out).mono ?_
      rintro e w9 ⟨rA, rc, rfl, kr, hb9⟩
      have S9 := Lib.hid (S8.out.next hb9)
      have X9 := Lib.hid (X8.out.below hb9 X8.out.lt)
      have KP9 := Lib.hid (KP8.out.below hb9)
      have S10 := Lib.hid (S9.out.next ((Below.refl w9.heap.size w9).alloc (Nat.le_refl _) (.cells #[.int .i64 bk, .int .i64 bn, .string bg, .slice rA bl rc] 29)))
      have X10 := Lib.hid (X9.out.alloc (.cells #[.int .i64 bk, .int .i64 bn, .string bg, .slice rA bl rc] 29))
      have Y10 := Lib.hid (Blk.alloc_ w9 29 [.int .i64 bk, .int .i64 bn, .string bg, .slice rA bl rc])
      have KP10 := Lib.hid (KP9.out.below ((Below.refl w9.heap.size w9).alloc (Nat.le_refl _) (.cells #[.int .i64 bk, .int .i64 bn, .string bg, .slice rA bl rc] 29)))
      have KR10 := Lib.hid (kr.below ((Below.refl w9.heap.size w9).alloc (Nat.le_refl _) (.cells #[.int .i64 bk, .int .i64 bn, .string bg, .slice rA bl rc] 29)))
      have c00 := X10.out.cell 0
      have c01 := X10.out.cell 1
      have c02 := X10.out.cell 2
      have c03 := X10.out.cell 3
      simp only [List.getElem?_cons_zero, List.getElem?_cons_succ] at c00 c01 c02 c03
      clear kr hb9 S7 S8 S9 X8 X9 KP8 KP9 b20 b21 b22 b23
      go_wp2_with fail
      change Hid (Blk (w9.alloc (.cells #[.int .i64 bk, .int .i64 bn, .string bg, .slice rA bl rc] 29)) w9.heap.size 29 [.int .i64 bk, .int .i64 bn, .string bg, .slice rA bl rc]) at Y10
      generalize w9.alloc (.cells #[.int .i64 bk, .int .i64 bn, .string bg, .slice rA bl rc] 29) = w10 at *
      generalize w9.heap.size = x9 at *
      refine (implExprV KP10.out KR10.out).mono ?_
      rw [HSM.out]
      rintro e w11 ⟨rfl, hb11⟩
      have S11 := Lib.hid (S10.out.next hb11)
      have X11 := Lib.hid (X10.out.below hb11 X10.out.lt)
      have Y11 := Lib.hid (Y10.out.below hb11 Y10.out.lt)
      have KP11 := Lib.hid (KP10.out.below hb11)
      have KR11 := Lib.hid (KR10.out.below hb11)
      have hss : (same != same) = false := by simp
      have S11d := Lib.hid (S11.out.next ((Below.refl w11.heap.size w11).drew))
      have X11d := Lib.hid (X11.out.below ((Below.refl w11.heap.size w11).drew) X11.out.lt)
      have KP11d := Lib.hid (KP11.out.below ((Below.refl w11.heap.size w11).drew))
      clear hb11 S10 X10 Y10 KP10 KR10 c00 c01 c02 c03
      go_wp2_with fail
      go_region_held3 (fun W => (W.cell? ⟨w.heap.size, 0, none⟩ = some (.int .i64 ak) ∧ W.cell? ⟨w.heap.size, 1, none⟩ = some (.int .i64 an) ∧ W.cell? ⟨w.heap.size, 2, none⟩ = some (.string ag) ∧ W.cell? ⟨w.heap.size, 3, none⟩ = some (.slice aA al ac)) ∧ (W.cell? ⟨x7, 0, none⟩ = some (.int .i64 ak) ∧ W.cell? ⟨x7, 1, none⟩ = some (.int .i64 an) ∧ W.cell? ⟨x7, 2, none⟩ = some (.string ag) ∧ W.cell? ⟨x7, 3, none⟩ = some (.slice pA al pc)))
        ((first | exact ⟨blkExpr_cells S13.out.ba, blkExpr_cells X13.out⟩ | exact ⟨blkExpr_cells S12.out.ba, blkExpr_cells X12.out⟩ | exact ⟨blkExpr_cells S11d.out.ba, blkExpr_cells X11d.out⟩))
        ((first
          | (go_at_call 8
             refine (toExprV ak an ag aA al ac t _ S11d.out.ka hwt.out).mono ?_
             rintro e w12 ⟨zA, zc, rfl, kz12, hb12⟩
             have S12 := Lib.hid (S11d.out.next hb12)
             have X12 := Lib.hid (X11d.out.below hb12 X11d.out.lt)
             have Y12 := Lib.hid (Y11.out.below (((Below.refl w11.heap.size w11).drew).trans hb12) Y11.out.lt)
             have KP12 := Lib.hid (KP11d.out.below hb12)
             have KR12 := Lib.hid (KR11.out.below (((Below.refl w11.heap.size w11).drew).trans hb12))
             have KZ12 := Lib.hid kz12
             clear hb12 kz12)
          | (go_at_call 10
             refine (eqExprV KP12.out KZ12.out).mono ?_
             rintro e w13 ⟨rfl, hb13⟩
             have S13 := Lib.hid (S12.out.next hb13)
             have X13 := Lib.hid (X12.out.below hb13 X12.out.lt)
             have Y13 := Lib.hid (Y12.out.below hb13 Y12.out.lt)
             have KR13 := Lib.hid (KR12.out.below hb13)
             clear hb13)))
      clear S11 X11 Y11 KP11 KR11 S11d X11d KP11d S12 X12 Y12 KP12 KR12 KZ12 X13
      have S13d := Lib.hid (S13.out.next ((Below.refl w13.heap.size w13).drew))
      have Y13d := Lib.hid (Y13.out.below ((Below.refl w13.heap.size w13).drew) Y13.out.lt)
      have KR13d := Lib.hid (KR13.out.below ((Below.refl w13.heap.size w13).drew))
      go_wp2_with fail
      go_region_held3 (fun W => (W.cell? ⟨(w.heap.size + 1), 0, none⟩ = some (.int .i64 bk) ∧ W.cell? ⟨(w.heap.size + 1), 1, none⟩ = some (.int .i64 bn) ∧ W.cell? ⟨(w.heap.size + 1), 2, none⟩ = some (.string bg) ∧ W.cell? ⟨(w.heap.size + 1), 3, none⟩ = some (.slice bA bl bc)) ∧ (W.cell? ⟨x9, 0, none⟩ = some (.int .i64 bk) ∧ W.cell? ⟨x9, 1, none⟩ = some (.int .i64 bn) ∧ W.cell? ⟨x9, 2, none⟩ = some (.string bg) ∧ W.cell? ⟨x9, 3, none⟩ = some (.slice rA bl rc)))
        ((first | exact ⟨blkExpr_cells S15.out.bb, blkExpr_cells Y15.out⟩ | exact ⟨blkExpr_cells S14.out.bb, blkExpr_cells Y14.out⟩ | exact ⟨blkExpr_cells S13d.out.bb, blkExpr_cells Y13d.out⟩))
        ((first
          | (go_at_call 8
             refine (toExprV bk bn bg bA bl bc u _ S13d.out.kb hwu.out).mono ?_
             rintro e w14 ⟨yA, yc, rfl, ky14, hb14⟩
             have S14 := Lib.hid (S13d.out.next hb14)
             have Y14 := Lib.hid (Y13d.out.below hb14 Y13d.out.lt)
             have KR14 := Lib.hid (KR13d.out.below hb14)
             have KY14 := Lib.hid ky14
             clear hb14 ky14)
          | (go_at_call 10
             refine (eqExprV KR14.out KY14.out).mono ?_
             rintro e w15 ⟨rfl, hb15⟩
             have S15 := Lib.hid (S14.out.next hb15)
             have Y15 := Lib.hid (Y14.out.below hb15 Y14.out.lt)
             clear hb15)))
      have HB15 := Lib.hid S15.out.be
      go_wp2_with fail
      go_ret
      exact ⟨rfl, HB15.out⟩

end Go.Proofs.Ytfjmjlpobbjjdaa
