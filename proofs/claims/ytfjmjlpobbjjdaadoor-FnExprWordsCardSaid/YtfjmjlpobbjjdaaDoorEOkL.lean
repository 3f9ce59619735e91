/- The walk of FnExactExprOk. -/
import Derived.Test.YtfjmjlpobbjjdaaDoorWA
import Derived.Deep.RegionWith
import Derived.Deep.RegionHeld3
namespace Go.Proofs.YtfjmjlpobbjjdaaDoor
open Go.RowKit Ilp
set_option linter.unusedVariables false

/-- An argument in its box, in memory that stands. -/
structure BoxE (w W : World) (k n : Int) (g : ByteArray) (A : Option Addr) (l c : Nat) (t : ExprT) : Prop where
  ba : Blk W w.heap.size 36 [.int .i64 k, .int .i64 n, .string g, .slice A l c]
  ka : IsEV W [.int .i64 k, .int .i64 n, .string g, .slice A l c] t
  be : Below w.heap.size w W
theorem BoxE.next {w W W2 : World} {k n : Int} {g : ByteArray} {A : Option Addr} {l c : Nat} {t : ExprT} (h : BoxE w W k n g A l c t) (hb : Below W.heap.size W W2) : BoxE w W2 k n g A l c t :=
  ⟨h.ba.below hb h.ba.lt, h.ka.below hb, h.be.trans (hb.mono h.be.size)⟩
theorem boxE_start {w : World} {k n : Int} {g : ByteArray} {A : Option Addr} {l c : Nat} {t : ExprT} (h : IsEV w [.int .i64 k, .int .i64 n, .string g, .slice A l c] t) : BoxE w (w.alloc (.cells #[.int .i64 k, .int .i64 n, .string g, .slice A l c] 36)) k n g A l c t := by
  have hbe : Below w.heap.size w (w.alloc (.cells #[.int .i64 k, .int .i64 n, .string g, .slice A l c] 36)) := by go_grown
  exact ⟨Blk.alloc_ w 36 [.int .i64 k, .int .i64 n, .string g, .slice A l c], h.below hbe, hbe⟩
theorem blkE_cells {W : World} {B : Nat} {T : TypeId} {v0 v1 v2 v3 : Value} (h : Blk W B T [v0, v1, v2, v3]) : W.cell? ⟨B, 0, none⟩ = some v0 ∧ W.cell? ⟨B, 1, none⟩ = some v1 ∧ W.cell? ⟨B, 2, none⟩ = some v2 ∧ W.cell? ⟨B, 3, none⟩ = some v3 :=
  ⟨by have := h.cell 0; simpa using this, by have := h.cell 1; simpa using this, by have := h.cell 2; simpa using this, by have := h.cell 3; simpa using this⟩

set_option maxHeartbeats 4000000 in
set_option maxRecDepth 20000 in
theorem law_FnExactExprOk (x0 : Array Value) (t : ExprT) (w : World) (hsh : w.ShapedOpen Tryd.prog) (hT : Tabs w) (h0 : IsExpr w x0 t) :
    Calls Tryd.prog 6 #[.agg x0] w fun e w' => e = .returned (.bool true) ∧ Below w.heap.size w w' := by
  obtain ⟨k, n, g, A, l, c, rfl, ha⟩ := isExpr_open h0
  clear h0 hsh
  have HT := Lib.hid hT
  have HST := Lib.hid (boxE_start ha)
  clear ha hT
  go_enter Tryd.func6, Tryd.ntmps6
  go_wp2_with fail
  generalize w.alloc (.cells #[.int .i64 k, .int .i64 n, .string g, .slice A l c] 36) = w0 at *
  refine (szExprV k n g A l c t 1048576 w0 HST.out.ka (by omega) (by omega)).mono ?_
  rintro e w1 ⟨r, rfl, hr1, hb1⟩
  have S1 := Lib.hid (HST.out.next hb1)
  by_cases hneg : r < 0
  · have HB1 := Lib.hid S1.out.be
    clear hr1 hb1
    go_wp2_with fail
    go_ret
    exact ⟨rfl, HB1.out⟩
  · have hwt : Hid (wtExpr t ≤ 1048576) := by unfold Hid; omega
    have q0 := S1.out.ba.cell 0
    have q1 := S1.out.ba.cell 1
    have q2 := S1.out.ba.cell 2
    have q3 := S1.out.ba.cell 3
    simp only [List.getElem?_cons_zero, List.getElem?_cons_succ] at q0 q1 q2 q3
    clear hr1 hb1
    go_wp2_with fail
    refine (toExprV k n g A l c t w1 S1.out.ka hwt.out).mono ?_
    rintro e w2 ⟨pA, pc, rfl, kp, hb2⟩
    have S2 := Lib.hid (S1.out.next hb2)
    have KP2 := Lib.hid kp
    clear hb2 kp q0 q1 q2 q3
    go_wp2_with fail
    refine (specExprOk k n g pA l pc t w2 KP2.out hwt.out).mono ?_
    rintro e w3 ⟨rfl, hb3⟩
    have S3 := Lib.hid (S2.out.next hb3)
    have q0 := S3.out.ba.cell 0
    have q1 := S3.out.ba.cell 1
    have q2 := S3.out.ba.cell 2
    have q3 := S3.out.ba.cell 3
    simp only [List.getElem?_cons_zero, List.getElem?_cons_succ] at q0 q1 q2 q3
    generalize hok : exprOk t = ok at *
    have HOK := Lib.hid hok
    clear hb3 KP2 hok
    go_wp2_with fail
    refine (toExprV k n g A l c t w3 S3.out.ka hwt.out).mono ?_
    rintro e w4 ⟨rA, rc, rfl, kr, hb4⟩
    have S4 := Lib.hid (S3.out.next hb4)
    have S5 := Lib.hid (S4.out.next ((Below.refl w4.heap.size w4).alloc (Nat.le_refl _) (.cells #[.int .i64 k, .int .i64 n, .string g, .slice rA l rc] 25)))
    have X5 := Lib.hid (Blk.alloc_ w4 25 [.int .i64 k, .int .i64 n, .string g, .slice rA l rc])
    have KR5 := Lib.hid (kr.below ((Below.refl w4.heap.size w4).alloc (Nat.le_refl _) (.cells #[.int .i64 k, .int .i64 n, .string g, .slice rA l rc] 25)))
    have HT5 := Lib.hid (HT.out.keep S5.out.be)
    clear hb4 kr q0 q1 q2 q3
    go_wp2_with fail
    change Hid (Blk (w4.alloc (.cells #[.int .i64 k, .int .i64 n, .string g, .slice rA l rc] 25)) w4.heap.size 25 [.int .i64 k, .int .i64 n, .string g, .slice rA l rc]) at X5
    generalize w4.alloc (.cells #[.int .i64 k, .int .i64 n, .string g, .slice rA l rc] 25) = w5 at *
    generalize w4.heap.size = x4 at *
    refine (implExprOk k n g rA l rc t w5 KR5.out hwt.out HT5.out).mono ?_
    rw [HOK.out]
    rintro e w6 ⟨rfl, hb6⟩
    have S6 := Lib.hid (S5.out.next hb6)
    have X6 := Lib.hid (X5.out.below hb6 X5.out.lt)
    have KR6 := Lib.hid (KR5.out.below hb6)
    have hss : (ok != ok) = false := by simp
    have S6d := Lib.hid (S6.out.next ((Below.refl w6.heap.size w6).drew))
    have X6d := Lib.hid (X6.out.below ((Below.refl w6.heap.size w6).drew) X6.out.lt)
    have KR6d := Lib.hid (KR6.out.below ((Below.refl w6.heap.size w6).drew))
    clear hb6
    go_wp2_with fail
    go_region_held3 (fun W => (W.cell? ⟨w.heap.size, 0, none⟩ = some (.int .i64 k) ∧ W.cell? ⟨w.heap.size, 1, none⟩ = some (.int .i64 n) ∧ W.cell? ⟨w.heap.size, 2, none⟩ = some (.string g) ∧ W.cell? ⟨w.heap.size, 3, none⟩ = some (.slice A l c)) ∧ (W.cell? ⟨x4, 0, none⟩ = some (.int .i64 k) ∧ W.cell? ⟨x4, 1, none⟩ = some (.int .i64 n) ∧ W.cell? ⟨x4, 2, none⟩ = some (.string g) ∧ W.cell? ⟨x4, 3, none⟩ = some (.slice rA l rc)))
      ((first | exact ⟨blkE_cells S8.out.ba, blkE_cells X8.out⟩ | exact ⟨blkE_cells S7.out.ba, blkE_cells X7.out⟩ | exact ⟨blkE_cells S6d.out.ba, blkE_cells X6d.out⟩))
      ((first
        | (go_at_call 20
           refine (toExprV k n g A l c t _ S6d.out.ka hwt.out).mono ?_
           rintro e w7 ⟨zA, zc, rfl, kz, hb7⟩
           have S7 := Lib.hid (S6d.out.next hb7)
           have X7 := Lib.hid (X6d.out.below hb7 X6d.out.lt)
           have KR7 := Lib.hid (KR6d.out.below hb7)
           have KZ7 := Lib.hid kz
           clear hb7 kz)
        | (go_at_call 23
           refine (eqExprV KR7.out KZ7.out).mono ?_
           rintro e w8 ⟨rfl, hb8⟩
           have S8 := Lib.hid (S7.out.next hb8)
           have X8 := Lib.hid (X7.out.below hb8 X7.out.lt)
           clear hb8)))
    have HB8 := Lib.hid S8.out.be
    go_wp2_with fail
    go_ret
    exact ⟨rfl, HB8.out⟩
end Go.Proofs.YtfjmjlpobbjjdaaDoor
