/- The walk of FnExactExprType. -/
import Derived.Test.YtfjmjlpobbjjdaaDoorEB
import Derived.Test.YtfjmjlpobbjjdaaDoorEOkL
namespace Go.Proofs.YtfjmjlpobbjjdaaDoor
open Go.RowKit Ilp
set_option linter.unusedVariables false

/-- The arguments: one in its box, names, what goes with each. -/
structure LawS (w : World) (k n : Int) (g : ByteArray) (A : Option Addr) (l c : Nat) (t : Ex) (An : Option Addr) (ns : List ByteArray) (At : Option Addr) (vs : List Value) (W : World) : Prop where
  bx : BoxE w W k n g A l c t
  rn : Row W W.heap.size An (strB ns)
  rt : Row W W.heap.size At vs
section
variable {w W W' : World} {k n : Int} {g : ByteArray} {A : Option Addr} {l c : Nat} {t : Ex} {An : Option Addr} {ns : List ByteArray} {At : Option Addr} {vs : List Value}
theorem LawS.next (h : LawS w k n g A l c t An ns At vs W) (hb : Below W.heap.size W W') : LawS w k n g A l c t An ns At vs W' :=
  ⟨h.bx.next hb, (h.rn.below hb).more hb.size, (h.rt.below hb).more hb.size⟩
theorem lawS_start (h : IsEV w [.int .i64 k, .int .i64 n, .string g, .slice A l c] t) (hn : Row w w.heap.size An (strB ns)) (ht : Row w w.heap.size At vs) : LawS w k n g A l c t An ns At vs (w.alloc (.cells #[.int .i64 k, .int .i64 n, .string g, .slice A l c] 36)) := by
  have hb := boxE_start h
  exact ⟨hb, (hn.below hb.be).more hb.be.size, (ht.below hb.be).more hb.be.size⟩
end
/-- Copies of the arguments: one in its box, names, what goes with each. -/
structure CopS (X : Nat) (k n : Int) (g : ByteArray) (A : Option Addr) (l c : Nat) (t : Ex) (W : World) : Prop where
  ba : Blk W X 25 [.int .i64 k, .int .i64 n, .string g, .slice A l c]
  ka : IsEV W [.int .i64 k, .int .i64 n, .string g, .slice A l c] t
theorem CopS.next {X : Nat} {k n : Int} {g : ByteArray} {A : Option Addr} {l c : Nat} {t : Ex} {W W' : World} (h : CopS X k n g A l c t W) (hb : Below W.heap.size W W') : CopS X k n g A l c t W' := ⟨h.ba.below hb h.ba.lt, h.ka.below hb⟩
theorem blk_next {W W' : World} {X : Nat} {T : TypeId} {vs : List Value} (h : Blk W X T vs) (hb : Below W.heap.size W W') : Blk W' X T vs := h.below hb h.lt

set_option maxHeartbeats 8000000 in
set_option maxRecDepth 20000 in
theorem law_FnExactExprType (x0 : Array Value) (t : ExprT) (An : Option Addr) (nn cn : Nat) (zn : List ByteArray) (At : Option Addr) (mt ct : Nat) (zt : List ByteArray) (w : World) (hsh : w.ShapedOpen Tryd.prog) (hT : Tabs w) (h0 : IsExpr w x0 t) (h1 : IsStrs w An nn cn zn) (h2 : IsStrs w At mt ct zt) :
    Calls Tryd.prog 8 #[.agg x0, .slice An nn cn, .slice At mt ct] w fun e w' => e = .returned (.bool true) ∧ Below w.heap.size w w' := by
  obtain ⟨k, n, g, A, l, c, rfl, ha⟩ := isExpr_open h0
  obtain ⟨hrn, hln, hcn, hnn, hcn2, hwn⟩ := h1.row
  obtain ⟨hrt, hlt, hct, hmt, hct2, hwt⟩ := h2.row
  generalize zn.take nn = ns at hrn hln hwn
  generalize zt.take mt = ts at hrt hlt hwt
  clear h0 h1 h2 hsh
  have HT := Lib.hid hT
  have LN := Lib.hid hln
  have LT := Lib.hid hlt
  have WN := Lib.hid hwn
  have WT := Lib.hid hwt
  have S0 := Lib.hid (lawS_start ha hrn hrt)
  clear ha hrn hrt hT hln hlt hwn hwt hcn hct hcn2 hct2
  go_enter Tryd.func8, Tryd.ntmps8
  go_wp2_with fail
  generalize w.alloc (.cells #[.int .i64 k, .int .i64 n, .string g, .slice A l c] 36) = w0 at *
  refine (szExprV k n g A l c t 1048576 w0 S0.out.bx.ka (by omega) (by omega)).mono ?_
  rintro e w1 ⟨r, rfl, hr1, hb1⟩
  have S1 := Lib.hid (S0.out.next hb1)
  by_cases hneg : r < 0
  · have HB1 := Lib.hid S1.out.bx.be
    clear hr1 hb1
    go_wp2_with fail
    go_ret
    exact ⟨rfl, HB1.out⟩
  have hwt : Hid (wtExpr t ≤ 1048576) := by unfold Hid; omega
  have hr2 : r ≤ 1048576 := by omega
  have hr3 : 0 ≤ r := by omega
  clear hr1 hb1
  go_wp2_with fail
  refine (szStringS An cn nn r ns w1 S1.out.rn LN hnn WN.out hr3 hr2).mono ?_
  rintro e w2 ⟨r2, rfl, hs2, rfl⟩
  by_cases hneg2 : r2 < 0
  · have HB1 := Lib.hid S1.out.bx.be
    clear hs2
    go_wp2_with fail
    go_ret
    exact ⟨rfl, HB1.out⟩
  have hnn2 : (nn : Int) ≤ 1048576 := by have := LN.out; omega
  have hr4 : r2 ≤ 1048576 := by omega
  have hr5 : 0 ≤ r2 := by omega
  clear hs2 hneg hr2 hr3
  go_wp2_with fail
  refine (szStringS At ct mt r2 ts w1 S1.out.rt LT hmt WT.out hr5 hr4).mono ?_
  rintro e w2 ⟨r3, rfl, hs3, rfl⟩
  by_cases hneg3 : r3 < 0
  · have HB1 := Lib.hid S1.out.bx.be
    clear hs3
    go_wp2_with fail
    go_ret
    exact ⟨rfl, HB1.out⟩
  have hmt2 : (mt : Int) ≤ 1048576 := by have := LT.out; omega
  clear hs3 hr4 hr5 hnn hmt
  obtain ⟨q0, q1, q2, q3⟩ := blkE_cells S1.out.bx.ba
  go_wp2_with fail
  refine (toExprV k n g A l c t w1 S1.out.bx.ka hwt.out).mono ?_
  rintro e w2 ⟨pA, pc, rfl, kp, hb2⟩
  have S2 := Lib.hid (S1.out.next hb2)
  have KP2 := Lib.hid kp
  clear hb2 kp q0 q1 q2 q3
  go_wp2_with fail
  refine (toStringS An cn nn ns w2 S2.out.rn LN hnn2).mono ?_
  rintro e w3 ⟨rfl, hk3, hb3⟩
  have S3 := Lib.hid (S2.out.next hb3)
  have KP3 := Lib.hid (KP2.out.below hb3)
  have N3 := Lib.hid hk3
  clear hb3 hk3
  go_wp2_with fail
  refine (toStringS At ct mt ts w3 S3.out.rt LT hmt2).mono ?_
  rintro e w4 ⟨rfl, hk4, hb4⟩
  have S4 := Lib.hid (S3.out.next hb4)
  have KP4 := Lib.hid (KP3.out.below hb4)
  have N4 := Lib.hid (blk_next N3.out hb4)
  have T4 := Lib.hid hk4
  clear hb4 hk4
  go_wp2_with fail
  refine (specExprType k n g pA l pc t _ nn nn ns _ mt mt ts w4 KP4.out hwt.out N4.out.row T4.out.row LN LT hnn2 hmt2).mono ?_
  rintro e w5 ⟨rfl, hb5⟩
  have S5 := Lib.hid (S4.out.next hb5)
  clear hb5 S0 S1 S2 S3 S4 KP2 KP3 KP4 N3 N4 T4
  obtain ⟨q0, q1, q2, q3⟩ := blkE_cells S5.out.bx.ba
  generalize hR : mkB (tyE (lstL ns) (lstL ts) t) = R at *
  have HR := Lib.hid hR
  clear hR
  go_wp2_with fail
  refine (toExprV k n g A l c t w5 S5.out.bx.ka hwt.out).mono ?_
  rintro e w6 ⟨rA, rc, rfl, kr, hb6⟩
  have S6 := Lib.hid (S5.out.next hb6)
  have hal := (Below.refl w6.heap.size w6).alloc (Nat.le_refl _) (.cells #[.int .i64 k, .int .i64 n, .string g, .slice rA l rc] 25)
  have S7 := Lib.hid (S6.out.next hal)
  have X7 : Hid (CopS w6.heap.size k n g rA l rc t _) := ⟨Blk.alloc_ w6 25 [.int .i64 k, .int .i64 n, .string g, .slice rA l rc], kr.below hal⟩
  clear hb6 kr hal q0 q1 q2 q3 S5 S6
  go_wp2_with fail
  generalize w6.alloc (.cells #[.int .i64 k, .int .i64 n, .string g, .slice rA l rc] 25) = w7 at *
  generalize w6.heap.size = x6 at *
  refine (toStringS An cn nn ns w7 S7.out.rn LN hnn2).mono ?_
  rintro e w8 ⟨rfl, hk8, hb8⟩
  have S8 := Lib.hid (S7.out.next hb8)
  have X8 := Lib.hid (X7.out.next hb8)
  have N8 := Lib.hid hk8
  clear hb8 hk8 S7 X7
  generalize w7.heap.size = x7 at *
  go_wp2_with fail
  refine (toStringS At ct mt ts w8 S8.out.rt LT hmt2).mono ?_
  rintro e w9 ⟨rfl, hk9, hb9⟩
  have S9 := Lib.hid (S8.out.next hb9)
  have X9 := Lib.hid (X8.out.next hb9)
  have N9 := Lib.hid (blk_next N8.out hb9)
  have T9 := Lib.hid hk9
  clear hb9 hk9 S8 X8 N8
  generalize w8.heap.size = x8 at *
  obtain ⟨q0, q1, q2, q3⟩ := blkE_cells X9.out.ba
  go_wp2_with fail
  refine (implExprType k n g rA l rc t _ nn nn ns _ mt mt ts w9 X9.out.ka hwt.out N9.out.row T9.out.row LN LT hnn2 hmt2 (HT.out.keep S9.out.bx.be)).mono ?_
  rw [HR.out]
  rintro e wa ⟨rfl, hba⟩
  have Sa := Lib.hid (S9.out.next hba)
  have Xa := Lib.hid (X9.out.next hba)
  have Na := Lib.hid (blk_next N9.out hba)
  have Ta := Lib.hid (blk_next T9.out hba)
  have hss : (R.toList != R.toList) = false := by simp
  have hdr := (Below.refl wa.heap.size wa).drew
  have Sd := Lib.hid (Sa.out.next hdr)
  have Xd := Lib.hid (Xa.out.next hdr)
  have Nd := Lib.hid (blk_next Na.out hdr)
  have Td := Lib.hid (blk_next Ta.out hdr)
  clear hba S9 X9 N9 T9 q0 q1 q2 q3 hdr
  go_wp2_with fail
  go_region_held3 (fun W => (W.cell? ⟨w.heap.size, 0, none⟩ = some (.int .i64 k) ∧ W.cell? ⟨w.heap.size, 1, none⟩ = some (.int .i64 n) ∧ W.cell? ⟨w.heap.size, 2, none⟩ = some (.string g) ∧ W.cell? ⟨w.heap.size, 3, none⟩ = some (.slice A l c)) ∧ (W.cell? ⟨x6, 0, none⟩ = some (.int .i64 k) ∧ W.cell? ⟨x6, 1, none⟩ = some (.int .i64 n) ∧ W.cell? ⟨x6, 2, none⟩ = some (.string g) ∧ W.cell? ⟨x6, 3, none⟩ = some (.slice rA l rc)))
    ((first | exact ⟨blkE_cells Sc.out.bx.ba, blkE_cells Xc.out.ba⟩ | exact ⟨blkE_cells Sb.out.bx.ba, blkE_cells Xb.out.ba⟩ | exact ⟨blkE_cells Sd.out.bx.ba, blkE_cells Xd.out.ba⟩))
    ((first
      | (go_at_call 20
         refine (toExprV k n g A l c t _ Sd.out.bx.ka hwt.out).mono ?_
         rintro e wb ⟨zA, zc, rfl, kz, hbb⟩
         have Sb := Lib.hid (Sd.out.next hbb)
         have Xb := Lib.hid (Xd.out.next hbb)
         have Nb := Lib.hid (blk_next Nd.out hbb)
         have Tb := Lib.hid (blk_next Td.out hbb)
         have KZb := Lib.hid kz
         clear hbb kz)
      | (go_at_call 23
         refine (eqExprV Xb.out.ka KZb.out).mono ?_
         rintro e wc ⟨rfl, hbc⟩
         have Sc := Lib.hid (Sb.out.next hbc)
         have Xc := Lib.hid (Xb.out.next hbc)
         have Nc := Lib.hid (blk_next Nb.out hbc)
         have Tc := Lib.hid (blk_next Tb.out hbc)
         clear hbc)))
  go_wp2_with fail
  refine (toStringS An cn nn ns wc Sc.out.rn LN hnn2).mono ?_
  rintro e we ⟨rfl, hke, hbe⟩
  have Se := Lib.hid (Sc.out.next hbe)
  have Ne := Lib.hid (blk_next Nc.out hbe)
  have Te := Lib.hid (blk_next Tc.out hbe)
  have NNe := Lib.hid hke
  clear hbe hke
  go_wp2_with fail
  refine (eqStringS_same _ _ _ _ nn ns we Ne.out.row NNe.out.row LN (by omega)).mono ?_
  rintro e wf ⟨rfl, hbf⟩
  have Sf := Lib.hid (Se.out.next hbf)
  have Tf := Lib.hid (blk_next Te.out hbf)
  clear hbf
  go_wp2_with fail
  refine (toStringS At ct mt ts wf Sf.out.rt LT hmt2).mono ?_
  rintro e wg ⟨rfl, hkg, hbg⟩
  have Sg := Lib.hid (Sf.out.next hbg)
  have Tg := Lib.hid (blk_next Tf.out hbg)
  have TTg := Lib.hid hkg
  clear hbg hkg
  go_wp2_with fail
  refine (eqStringS_same _ _ _ _ mt ts wg Tg.out.row TTg.out.row LT (by omega)).mono ?_
  rintro e wh ⟨rfl, hbh⟩
  have HBh := Lib.hid (Sg.out.next hbh).bx.be
  clear hbh
  go_wp2_with fail
  go_ret
  exact ⟨rfl, HBh.out⟩
end Go.Proofs.YtfjmjlpobbjjdaaDoor
