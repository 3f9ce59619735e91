/- The walk of FnExactExprOf. -/
import Derived.Test.YtfjmjlpobbjjdaaDoorEtL
import Derived.Test.YtfjmjlpobbjjdaaDoorEvU
import Derived.Test.YtfjmjlpobbjjdaaDoorInts
namespace Go.Proofs.YtfjmjlpobbjjdaaDoor
open Go.RowKit Ilp
set_option linter.unusedVariables false

set_option maxHeartbeats 8000000 in
set_option maxRecDepth 20000 in
theorem law_FnExactExprOf (x0 : Array Value) (t : ExprT) (An : Option Addr) (nn cn : Nat) (zn : List ByteArray) (At : Option Addr) (mt ct : Nat) (zt : List Int) (w : World) (hsh : w.ShapedOpen Tryd.prog) (hT : Tabs w) (h0 : IsExpr w x0 t) (h1 : IsStrs w An nn cn zn) (h2 : IsRow .i64 w At mt ct zt) :
    Calls Tryd.prog 4 #[.agg x0, .slice An nn cn, .slice At mt ct] w fun e w' => e = .returned (.bool true) ∧ Below w.heap.size w w' := by
  obtain ⟨k, n, g, A, l, c, rfl, ha⟩ := isExpr_open h0
  obtain ⟨hrn, hln, hcn, hnn, hcn2, hwn⟩ := h1.row
  obtain ⟨hrt, hlt, hct, hmt, hct2, hwt⟩ := h2.row
  replace hrt : Row w w.heap.size At (ints (zt.take mt)) := hrt
  generalize zn.take nn = ns at hrn hln hwn
  generalize zt.take mt = xs at hrt hlt hwt
  clear h0 h1 h2 hsh
  have HT := Lib.hid hT
  have LN := Lib.hid hln
  have LT := Lib.hid hlt
  have WN := Lib.hid hwn
  have S0 := Lib.hid (lawS_start ha hrn hrt)
  clear ha hrn hrt hT hln hlt hwn hwt hcn hct hcn2 hct2
  go_enter Tryd.func4, Tryd.ntmps4
  by_cases hbig : (1048576 : Int) < (mt : Int)
  · have hbig2 : (mt : Int) > 1048576 := hbig
    have HB1 := Lib.hid S0.out.bx.be
    go_wp2_with fail
    go_ret
    exact ⟨rfl, HB1.out⟩
  have hbig2 : ¬ (mt : Int) > 1048576 := hbig
  have hmt2 : (mt : Int) ≤ 1048576 := by omega
  clear hbig hmt
  go_wp2_with fail
  generalize w.alloc (.cells #[.int .i64 k, .int .i64 n, .string g, .slice A l c] 36) = w0 at *
  refine (szExprV k n g A l c t 1048576 w0 S0.out.bx.ka (by omega) (by omega)).mono ?_
  rintro e w1 ⟨r, rfl, hr1, hb1⟩
  have S1 := Lib.hid (S0.out.next hb1)
  by_cases hneg : r < 0
  · have HB1 := Lib.hid S1.out.bx.be
    clear hr1 hb1
    go_wp2_with fail
    go_ret
    exact ⟨rfl, HB1.out⟩
  have hwt : Hid (wtExpr t ≤ 1048576) := by unfold Hid; omega
  have hr2 : r ≤ 1048576 := by omega
  have hr3 : 0 ≤ r := by omega
  clear hr1 hb1
  go_wp2_with fail
  refine (szStringS An cn nn r ns w1 S1.out.rn LN hnn WN.out hr3 hr2).mono ?_
  rintro e w2 ⟨r2, rfl, hs2, rfl⟩
  by_cases hneg2 : r2 < 0
  · have HB1 := Lib.hid S1.out.bx.be
    clear hs2
    go_wp2_with fail
    go_ret
    exact ⟨rfl, HB1.out⟩
  have hnn2 : (nn : Int) ≤ 1048576 := by have := LN.out; omega
  clear hs2 hneg hr2 hr3 hnn
  obtain ⟨q0, q1, q2, q3⟩ := blkE_cells S1.out.bx.ba
  go_wp2_with fail
  refine (toExprV k n g A l c t w1 S1.out.bx.ka hwt.out).mono ?_
  rintro e w2 ⟨pA, pc, rfl, kp, hb2⟩
  have S2 := Lib.hid (S1.out.next hb2)
  have KP2 := Lib.hid kp
  clear hb2 kp q0 q1 q2 q3
  go_wp2_with fail
  refine (toStringS An cn nn ns w2 S2.out.rn LN hnn2).mono ?_
  rintro e w3 ⟨rfl, hk3, hb3⟩
  have S3 := Lib.hid (S2.out.next hb3)
  have KP3 := Lib.hid (KP2.out.below hb3)
  have N3 := Lib.hid hk3
  clear hb3 hk3
  go_wp2_with fail
  refine (toIntS At ct mt xs w3 S3.out.rt LT hmt2).mono ?_
  rintro e w4 ⟨rfl, hk4, hb4⟩
  have S4 := Lib.hid (S3.out.next hb4)
  have KP4 := Lib.hid (KP3.out.below hb4)
  have N4 := Lib.hid (blk_next N3.out hb4)
  have T4 := Lib.hid hk4
  clear hb4 hk4
  go_wp2_with fail
  refine (specExprOf k n g pA l pc t _ nn nn ns _ mt mt xs w4 KP4.out hwt.out N4.out.row T4.out.row LN LT hnn2 hmt2).mono ?_
  rintro e w5 ⟨rfl, hb5⟩
  have S5 := Lib.hid (S4.out.next hb5)
  clear hb5 S0 S1 S2 S3 S4 KP2 KP3 KP4 N3 N4 T4
  obtain ⟨q0, q1, q2, q3⟩ := blkE_cells S5.out.bx.ba
  generalize hR : ofE (lstL ns) xs t = R at *
  have HR := Lib.hid hR
  have hn1 : (R.getD 0 != R.getD 0) = false := by simp
  have hn2 : (R.isSome != R.isSome) = false := by simp
  generalize hRn : R.getD 0 = Rn at *
  generalize hRb : R.isSome = Rb at *
  have HRn := Lib.hid hRn
  have HRb := Lib.hid hRb
  clear hR hRn hRb
  go_wp2_with fail
  refine (toExprV k n g A l c t w5 S5.out.bx.ka hwt.out).mono ?_
  rintro e w6 ⟨rA, rc, rfl, kr, hb6⟩
  have S6 := Lib.hid (S5.out.next hb6)
  have hal := (Below.refl w6.heap.size w6).alloc (Nat.le_refl _) (.cells #[.int .i64 k, .int .i64 n, .string g, .slice rA l rc] 25)
  have S7 := Lib.hid (S6.out.next hal)
  have X7 : Hid (CopS w6.heap.size k n g rA l rc t _) := ⟨Blk.alloc_ w6 25 [.int .i64 k, .int .i64 n, .string g, .slice rA l rc], kr.below hal⟩
  clear hb6 kr hal q0 q1 q2 q3 S5 S6
  go_wp2_with fail
  generalize w6.alloc (.cells #[.int .i64 k, .int .i64 n, .string g, .slice rA l rc] 25) = w7 at *
  generalize w6.heap.size = x6 at *
  refine (toStringS An cn nn ns w7 S7.out.rn LN hnn2).mono ?_
  rintro e w8 ⟨rfl, hk8, hb8⟩
  have S8 := Lib.hid (S7.out.next hb8)
  have X8 := Lib.hid (X7.out.next hb8)
  have N8 := Lib.hid hk8
  clear hb8 hk8 S7 X7
  generalize w7.heap.size = x7 at *
  go_wp2_with fail
  refine (toIntS At ct mt xs w8 S8.out.rt LT hmt2).mono ?_
  rintro e w9 ⟨rfl, hk9, hb9⟩
  have S9 := Lib.hid (S8.out.next hb9)
  have X9 := Lib.hid (X8.out.next hb9)
  have N9 := Lib.hid (blk_next N8.out hb9)
  have T9 := Lib.hid hk9
  clear hb9 hk9 S8 X8 N8
  generalize w8.heap.size = x8 at *
  obtain ⟨q0, q1, q2, q3⟩ := blkE_cells X9.out.ba
  go_wp2_with fail
  refine (implExprOf k n g rA l rc t _ nn nn ns _ mt mt xs w9 X9.out.ka hwt.out N9.out.row T9.out.row LN LT hnn2 hmt2 (HT.out.keep S9.out.bx.be)).mono ?_
  rw [HR.out]
  rintro e wa ⟨he, hba⟩
  rw [HRn.out, HRb.out] at he
  subst he
  have Sa := Lib.hid (S9.out.next hba)
  have Xa := Lib.hid (X9.out.next hba)
  have Na := Lib.hid (blk_next N9.out hba)
  have Ta := Lib.hid (blk_next T9.out hba)
  have hdr := (Below.refl wa.heap.size wa).drew
  have Sd := Lib.hid (Sa.out.next hdr)
  have Xd := Lib.hid (Xa.out.next hdr)
  have Nd := Lib.hid (blk_next Na.out hdr)
  have Td := Lib.hid (blk_next Ta.out hdr)
  clear hba S9 X9 N9 T9 q0 q1 q2 q3 hdr
  go_wp2_with fail
  go_region_held3 (fun W => (W.cell? ⟨w.heap.size, 0, none⟩ = some (.int .i64 k) ∧ W.cell? ⟨w.heap.size, 1, none⟩ = some (.int .i64 n) ∧ W.cell? ⟨w.heap.size, 2, none⟩ = some (.string g) ∧ W.cell? ⟨w.heap.size, 3, none⟩ = some (.slice A l c)) ∧ (W.cell? ⟨x6, 0, none⟩ = some (.int .i64 k) ∧ W.cell? ⟨x6, 1, none⟩ = some (.int .i64 n) ∧ W.cell? ⟨x6, 2, none⟩ = some (.string g) ∧ W.cell? ⟨x6, 3, none⟩ = some (.slice rA l rc)))
    ((first | exact ⟨blkE_cells Sc.out.bx.ba, blkE_cells Xc.out.ba⟩ | exact ⟨blkE_cells Sb.out.bx.ba, blkE_cells Xb.out.ba⟩ | exact ⟨blkE_cells Sd.out.bx.ba, blkE_cells Xd.out.ba⟩))
    ((first
      | (go_at_call 20
         refine (toExprV k n g A l c t _ Sd.out.bx.ka hwt.out).mono ?_
         rintro e wb ⟨zA, zc, rfl, kz, hbb⟩
         have Sb := Lib.hid (Sd.out.next hbb)
         have Xb := Lib.hid (Xd.out.next hbb)
         have Nb := Lib.hid (blk_next Nd.out hbb)
         have Tb := Lib.hid (blk_next Td.out hbb)
         have KZb := Lib.hid kz
         clear hbb kz)
      | (go_at_call 23
         refine (eqExprV Xb.out.ka KZb.out).mono ?_
         rintro e wc ⟨rfl, hbc⟩
         have Sc := Lib.hid (Sb.out.next hbc)
         have Xc := Lib.hid (Xb.out.next hbc)
         have Nc := Lib.hid (blk_next Nb.out hbc)
         have Tc := Lib.hid (blk_next Tb.out hbc)
         clear hbc)))
  go_wp2_with fail
  refine (toStringS An cn nn ns wc Sc.out.rn LN hnn2).mono ?_
  rintro e we ⟨rfl, hke, hbe⟩
  have Se := Lib.hid (Sc.out.next hbe)
  have Ne := Lib.hid (blk_next Nc.out hbe)
  have Te := Lib.hid (blk_next Tc.out hbe)
  have NNe := Lib.hid hke
  clear hbe hke
  go_wp2_with fail
  refine (eqStringS_same _ _ _ _ nn ns we Ne.out.row NNe.out.row LN (by omega)).mono ?_
  rintro e wf ⟨rfl, hbf⟩
  have Sf := Lib.hid (Se.out.next hbf)
  have Tf := Lib.hid (blk_next Te.out hbf)
  clear hbf
  go_wp2_with fail
  refine (toIntS At ct mt xs wf Sf.out.rt LT hmt2).mono ?_
  rintro e wg ⟨rfl, hkg, hbg⟩
  have Sg := Lib.hid (Sf.out.next hbg)
  have Tg := Lib.hid (blk_next Tf.out hbg)
  have TTg := Lib.hid hkg
  clear hbg hkg
  go_wp2_with fail
  refine (eqIntS_same _ _ _ _ mt xs wg Tg.out.row TTg.out.row LT (by omega)).mono ?_
  rintro e wh ⟨rfl, hbh⟩
  have HBh := Lib.hid (Sg.out.next hbh).bx.be
  clear hbh
  go_wp2_with fail
  go_ret
  exact ⟨rfl, HBh.out⟩
end Go.Proofs.YtfjmjlpobbjjdaaDoor
