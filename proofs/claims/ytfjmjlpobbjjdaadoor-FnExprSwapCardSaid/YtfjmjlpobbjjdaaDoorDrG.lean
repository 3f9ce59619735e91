/- Draws: l4Some, l4Bent. -/
import Derived.Test.YtfjmjlpobbjjdaaDoorDrF
import Derived.Test.YtfjmjlpobbjjdaaDoorEOkL
namespace Go.Proofs.YtfjmjlpobbjjdaaDoor
open Go.RowKit Ilp
set_option linter.unusedVariables false

set_option maxHeartbeats 4000000 in
set_option maxRecDepth 20000 in
theorem l4Some (g p : Nat) (w : World) (h : Rd w g p) (hp : p ≤ 10000) :
    Calls Tryd.prog 73 #[.pointer (some ⟨g, 0, none⟩)] w (DrX g p 300 200 w.heap.size w) := by
  have hlt := h.lt
  have HXL := Lib.hid (Blk.alloc_ w 25 zero4)
  have HRL := Lib.hid (rd_alloc h (.cells zero4.toArray 25))
  have HKL := Lib.hid (keep_alloc (Keep.refl g w) (.cells zero4.toArray 25))
  clear h
  go_enter Tryd.func73, Tryd.ntmps73
  go_wp2_with fail
  refine (pick g p 4 _ HRL.out (by omega) (by omega) (by omega)).mono ?_
  rintro e w0 ⟨r0, rfl, hr0, hr1, hR, hK, hs⟩
  have HX0 : Hid (Blk w0 w.heap.size 25 zero4) := hK.blk HXL.out (by omega)
  have HR0 := Lib.hid hR
  have HK0 : Hid (Keep g w w0) := HKL.out.trans hK
  have hr2 : r0 ≤ 3 := by have := hr1 (by omega); omega
  have hpw : 2 ^ (1 + r0) ≤ 16 := by
    have : 2 ^ (1 + r0) ≤ 2 ^ 4 := Nat.pow_le_pow_right (by omega) (by omega)
    omega
  have HE1 := Lib.hid (l4Expr (1 + r0) (1 + (r0 : Int)) 100 160 g (p + 1) w0 hR (by omega) (by omega) (by omega) (by omega) (by omega))
  have hl2 : w.heap.size < w0.heap.size := HX0.out.lt
  clear hr0 hr1 hs hR hK HXL HRL HKL hpw
  go_wp2_with fail
  refine HE1.out.mono ?_
  rintro e w1 ⟨xk, xn, xs, xA, xl, xc, x, p1, rfl, hx, hxw, hxc, hp1, hp2, hR1, hK1⟩
  have hba : Below w1.heap.size w1 (w1.alloc (.cells #[.int .i64 xk, .int .i64 xn, .string xs, .slice xA xl xc] 25)) := (Below.refl _ _).alloc (Nat.le_refl _) _
  have HX1 : Hid (Blk (w1.alloc (.cells #[.int .i64 xk, .int .i64 xn, .string xs, .slice xA xl xc] 25)) w.heap.size 25 zero4) := (hK1.blk HX0.out (by omega)).alloc _
  have HR1 := Lib.hid (rd_alloc hR1 (.cells #[.int .i64 xk, .int .i64 xn, .string xs, .slice xA xl xc] 25))
  have HK1 := Lib.hid (keep_alloc (HK0.out.trans hK1) (.cells #[.int .i64 xk, .int .i64 xn, .string xs, .slice xA xl xc] 25))
  have HE : Hid (IsEN (w.heap.size + 1) _ [.int .i64 xk, .int .i64 xn, .string xs, .slice xA xl xc] x) := (hx.down (by omega)).below hba
  have HY1 := Lib.hid (Blk.alloc_ w1 25 [.int .i64 xk, .int .i64 xn, .string xs, .slice xA xl xc])
  have HC := Lib.hid hxc
  have HW := Lib.hid hxw
  have hl3 : w.heap.size < w1.heap.size := (hK1.blk HX0.out (by omega)).lt
  clear hx hxw hxc hR1 hK1 hba HX0 HR0 HK0 HE1
  go_upto_region 2 with (fail)
  change Hid (Blk (w1.alloc (.cells #[.int .i64 xk, .int .i64 xn, .string xs, .slice xA xl xc] 25)) w1.heap.size 25 [.int .i64 xk, .int .i64 xn, .string xs, .slice xA xl xc]) at HY1
  generalize w1.alloc (.cells #[.int .i64 xk, .int .i64 xn, .string xs, .slice xA xl xc] 25) = w2 at *
  generalize w1.heap.size = y at *
  obtain ⟨a0, a1, a2, a3⟩ := blkE_cells HY1.out
  go_wp2_with fail
  refine (specExprOk xk xn xs xA xl xc x w2 HE.out.ev (by have := HW.out; omega)).mono ?_
  rintro e w3 ⟨rfl, hb3⟩
  have HX3 := Lib.hid (HX1.out.below hb3 HX1.out.lt)
  have HR3 := Lib.hid (HR1.out.keep hb3)
  have HK3 : Hid (Keep g w w3) := HK1.out.trans (Keep.of hb3)
  have HY3 := Lib.hid (HY1.out.below hb3 HY1.out.lt)
  have HE3 := Lib.hid (HE.out.below hb3)
  clear hb3 a0 a1 a2 a3 HX1 HR1 HK1 HY1 HE
  cases exprOk x with
  | true =>
    obtain ⟨a0, a1, a2, a3⟩ := blkE_cells HY3.out
    have RES := Lib.hid (drx_put (K := 300) (M := 200) (p := p) HX3.out HK3.out HR3.out (by omega) (by omega) hlt rfl HE3.out (by have := HW.out; omega) HC.out)
    have x0 : w3.cell? ⟨w.heap.size, 0, none⟩ = some (.int .i64 0) := HX3.out.cell 0
    have x1 : w3.cell? ⟨w.heap.size, 1, none⟩ = some (.int .i64 0) := HX3.out.cell 1
    have x2 : w3.cell? ⟨w.heap.size, 2, none⟩ = some (.string ⟨#[]⟩) := HX3.out.cell 2
    have x3 : w3.cell? ⟨w.heap.size, 3, none⟩ = some (.slice none 0 0) := HX3.out.cell 3
    have y0 := HX3.out.frozen 0
    have y1 := HX3.out.frozen 1
    have y2 := HX3.out.frozen 2
    have y3 := HX3.out.frozen 3
    have B1 := HX3.out.put 0 (.int .i64 xk)
    have B2 := B1.put 1 (.int .i64 xn)
    have B3 := B2.put 2 (.string xs)
    have B4 := B3.put 3 (.slice xA xl xc)
    have q0 := B1.cell 0
    have q1 := B2.cell 1
    have q2 := B3.cell 2
    have q3 := B4.cell 3
    simp only [zero4, List.set_cons_zero, List.set_cons_succ, List.getElem?_cons_zero, List.getElem?_cons_succ] at q0 q1 q2 q3
    clear B1 B2 B3 B4
    clear HX3 HK3 HR3 HE3 HY3
    go_wp2_with fail
    refine bodyPost_ret (v := .agg #[.int .i64 xk, .int .i64 xn, .string xs, .slice xA xl xc]) (by simp [results, Tryd.results73, go_sem, q0, q1, q2, q3]) rfl ?_
    exact RES.out
  | false =>
    have HE4 := Lib.hid (l4Expr 2 2 100 160 g p1 w3 HR3.out (by omega) (by omega) (by omega) (by omega) (by omega))
    have hl5 : w.heap.size < w3.heap.size := HX3.out.lt
    clear HE3 HY3
    go_wp2_with fail
    refine HE4.out.mono ?_
    rintro e w4 ⟨zk, zn, zs, zA, zl, zc, z, p2, rfl, hz, hzw, hzc, hp3, hp4, hR4, hK4⟩
    have HX4 : Hid (Blk w4 w.heap.size 25 zero4) := hK4.blk HX3.out (by omega)
    have RES := Lib.hid (drx_put (K := 300) (M := 200) (p := p) HX4.out (HK3.out.trans hK4) hR4 (by omega) (by omega) hlt rfl (hz.down (by omega)) (by omega) hzc)
    have x0 : w4.cell? ⟨w.heap.size, 0, none⟩ = some (.int .i64 0) := HX4.out.cell 0
    have x1 : w4.cell? ⟨w.heap.size, 1, none⟩ = some (.int .i64 0) := HX4.out.cell 1
    have x2 : w4.cell? ⟨w.heap.size, 2, none⟩ = some (.string ⟨#[]⟩) := HX4.out.cell 2
    have x3 : w4.cell? ⟨w.heap.size, 3, none⟩ = some (.slice none 0 0) := HX4.out.cell 3
    have y0 := HX4.out.frozen 0
    have y1 := HX4.out.frozen 1
    have y2 := HX4.out.frozen 2
    have y3 := HX4.out.frozen 3
    have B1 := HX4.out.put 0 (.int .i64 zk)
    have B2 := B1.put 1 (.int .i64 zn)
    have B3 := B2.put 2 (.string zs)
    have B4 := B3.put 3 (.slice zA zl zc)
    have q0 := B1.cell 0
    have q1 := B2.cell 1
    have q2 := B3.cell 2
    have q3 := B4.cell 3
    simp only [zero4, List.set_cons_zero, List.set_cons_succ, List.getElem?_cons_zero, List.getElem?_cons_succ] at q0 q1 q2 q3
    clear B1 B2 B3 B4
    clear hz hzw hzc hp3 hp4 hR4 hK4 HX4 HE4 HX3 HK3 HR3
    go_wp2_with fail
    refine bodyPost_ret (v := .agg #[.int .i64 zk, .int .i64 zn, .string zs, .slice zA zl zc]) (by simp [results, Tryd.results73, go_sem, q0, q1, q2, q3]) rfl ?_
    exact RES.out
end Go.Proofs.YtfjmjlpobbjjdaaDoor
