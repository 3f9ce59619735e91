/- The walk of FnExprType. -/
import Derived.Test.YtfjmjlpobbjjdaaDoorDrI
import Derived.Test.YtfjmjlpobbjjdaaDoorEvU
import Derived.Test.YtfjmjlpobbjjdaaDoorEvD
import Derived.Test.YtfjmjlpobbjjdaaDoorInts
namespace Go.Proofs.YtfjmjlpobbjjdaaDoor
open Go.RowKit Ilp
set_option linter.unusedVariables false
set_option linter.unusedSimpArgs false

theorem tyE_cases (ns ts : List ByteArray) (t : Ex) : tyE (lstL ns) (lstL ts) t = [] ∨ ∃ u, exTm t = some u ∧ ns.length = ts.length ∧ allTy ts = true ∧ tyE (lstL ns) (lstL ts) t = u.type (lstL ns) (lstL ts) ∧ u.type (lstL ns) (lstL ts) ≠ [] ∧ (u.type (lstL ns) (lstL ts) = wInt ∨ u.type (lstL ns) (lstL ts) = wBool) := by
  cases hu : exTm t with
  | none => left; unfold tyE; rw [hu]
  | some u =>
    by_cases hl : ns.length = ts.length
    · cases ha : allTy ts with
      | false => exact .inl (tyE_bad ha)
      | true =>
        rw [tyE_some hu hl ha]
        rcases type_three (lstL ns) (lstL ts) ha (by rw [lstL_length, lstL_length]; exact hl) u with h | h | h
        · exact .inl h
        · exact .inr ⟨u, rfl, hl, rfl, rfl, by rw [h]; decide, .inl h⟩
        · exact .inr ⟨u, rfl, hl, rfl, rfl, by rw [h]; decide, .inr h⟩
    · exact .inl (tyE_len hl)
theorem mkB_eq (T : List UInt8) : ((mkB T).toList == []) = decide (T = []) ∧ ((mkB T).toList == [105, 110, 116]) = decide (T = wInt) ∧ ((mkB T).toList == [98, 111, 111, 108]) = decide (T = wBool) := ⟨mkB_is _ _, mkB_is _ _, mkB_is _ _⟩
theorem wgt_kid {t x : Ex} (h : x ∈ t.kids) : wgt x ≤ wgt t := by
  have := wgt_eq t; have := wgts_mem h; omega
theorem ints_zero (n : Nat) : (madeCells (Value.cells (.int .i64 0)) n) = (ints (List.replicate n 0)).toArray := made_ints n

set_option maxHeartbeats 8000000 in
set_option maxRecDepth 20000 in
theorem law_FnExprType (a : Option Addr) (n c : Nat) (z : List Int) (w : World) (hsh : w.ShapedOpen Tryd.prog) (hT : Tabs w) (hz : IsRow .u8 w a n c z) :
    Calls Tryd.prog 11 #[.slice a n c] w fun e w' => e = .returned (.bool true) ∧ Below w.heap.size w w' := by
  have HZ := Lib.hid hz
  have HT := Lib.hid hT
  have hn : (n : Int) ≤ 9223372036854775807 := hz.row.2.2.2.1
  clear hz hT hsh
  go_enter Tryd.func11, Tryd.ntmps11
  by_cases hbig : (1048576 : Int) < (n : Int)
  · have hbig2 : (n : Int) > 1048576 := hbig
    go_wp2_with fail
    go_ret
    exact ⟨rfl, Below.refl _ _⟩
  have hbig2 : ¬ (n : Int) > 1048576 := hbig
  go_wp2_with fail
  refine (drawExprType a n c z w HZ.out).mono ?_
  rintro e w1 ⟨k, m, s, A, l, cc, t, gn, gt, nn, mt, ns, ts, rfl, hev, hw, _, hbn, hbt, ln, lt, hnn, hmt, hb1⟩
  have S2 := Lib.hid (boxS_start hev (hbn.row) (hbt.row))
  have HB1 := Lib.hid hb1
  have LN := Lib.hid ln
  have LT := Lib.hid lt
  have hw2 : wgt t ≤ 1048576 := by omega
  have HW := Lib.hid hw2
  have hnn2 : (nn : Int) ≤ 1048576 := by omega
  have hmt2 : (mt : Int) ≤ 1048576 := by omega
  clear hev hw hbn hbt ln lt hnn hmt hb1 hw2 hbig hbig2 HZ
  go_upto_region 4 with (fail)
  generalize w1.alloc (.cells #[.int .i64 k, .int .i64 m, .string s, .slice A l cc] 25) = w2 at *
  obtain ⟨a0, a1, a2, a3⟩ := blkE_cells S2.out.ba
  go_wp2_with fail
  refine (implExprType k m s A l cc t _ nn nn ns _ mt mt ts w2 S2.out.ka HW.out S2.out.rn S2.out.rt LN LT hnn2 hmt2 (HT.out.keep (HB1.out.trans (S2.out.be.mono HB1.out.size)))).mono ?_
  rintro e w3 ⟨rfl, hb3⟩
  have S3 := Lib.hid (S2.out.next hb3)
  clear hb3 a0 a1 a2 a3 S2
  obtain ⟨a0, a1, a2, a3⟩ := blkE_cells S3.out.ba
  go_wp2_with fail
  refine (specExprType k m s A l cc t _ nn nn ns _ mt mt ts w3 S3.out.ka HW.out S3.out.rn S3.out.rt LN LT hnn2 hmt2).mono ?_
  rintro e w4 ⟨rfl, hb4⟩
  have S4 := Lib.hid (S3.out.next hb4)
  have HB4 : Hid (Below w.heap.size w w4) := HB1.out.trans (S4.out.be.mono HB1.out.size)
  clear hb4 a0 a1 a2 a3 S3
  rcases tyE_cases ns ts t with hty | ⟨u, hu, hlen, hat, hty, hne, hib⟩
  · rw [hty]
    have hss : ((mkB []).toList != (mkB []).toList) = false := by simp
    have hs1 : ((mkB []).toList == []) = true := by rw [mkB_is]; simp
    clear hty
    generalize mkB [] = R at *
    go_wp2_with fail
    go_ret
    exact ⟨rfl, HB4.out⟩
  · rw [hty]
    obtain ⟨e1, e2, e3⟩ := mkB_eq (u.type (lstL ns) (lstL ts))
    have hs1 : ((mkB (u.type (lstL ns) (lstL ts))).toList == []) = false := by rw [e1]; simp [hne]
    have hss : ((mkB (u.type (lstL ns) (lstL ts))).toList != (mkB (u.type (lstL ns) (lstL ts))).toList) = false := by simp
    obtain ⟨v, hv⟩ := Option.isSome_iff_exists.1 (type_of (lstL ns) (lstL ts) (List.replicate nn 0) u hne)
    have HOF : Hid (ofE (lstL ns) (List.replicate nn 0) t = some v) := by unfold Hid; rw [ofE_some hu (by simp; exact LN.out)]; exact hv
    have HU := Lib.hid hu
    have HLEN := Lib.hid hlen
    have HAT := Lib.hid hat
    have hmk := makeInts nn hnn2 w4
    have HV := Lib.hid hne
    obtain ⟨T, hTT⟩ : ∃ T, T = u.type (lstL ns) (lstL ts) := ⟨_, rfl⟩
    rw [← hTT] at e1 e2 e3 hs1 hss hib ⊢
    have HTT := Lib.hid hTT
    clear hTT hv hu hlen hat hne hty e1
    obtain ⟨R, hR⟩ : ∃ R, R = mkB T := ⟨_, rfl⟩
    have HR := Lib.hid hR
    rw [← hR] at hs1 hss e2 e3 ⊢
    clear hR
    have hif : ∃ bi bb, (R.toList == [105, 110, 116]) = bi ∧ (R.toList == [98, 111, 111, 108]) = bb ∧ Hid (bi = decide (T = wInt)) ∧ Hid (bb = decide (T = wBool)) ∧ (bi = true ∧ bb = false ∨ bi = false ∧ bb = true) := by
      refine ⟨_, _, e2, e3, rfl, rfl, ?_⟩
      rcases hib with h | h <;> subst h
      · left; decide
      · right; decide
    clear e2 e3 hib
    obtain ⟨bi, bb, f2, f3, HBI, HBB, hbib⟩ := hif
    rcases hbib with ⟨rfl, rfl⟩ | ⟨rfl, rfl⟩
    all_goals (
      go_upto_region 10 with (fail)
      clear hmk
      have hal : Below w4.heap.size w4 (w4.alloc (.cells (ints (List.replicate nn 0)).toArray 3)) := (Below.refl _ _).alloc (Nat.le_refl _) _
      have S5 := Lib.hid (S4.out.next hal)
      have BZ := Lib.hid (Blk.alloc_ w4 3 (ints (List.replicate nn 0)))
      clear hal S4
      generalize w4.alloc (.cells (ints (List.replicate nn 0)).toArray 3) = w5 at *
      generalize w4.heap.size = x4 at *
      obtain ⟨a0, a1, a2, a3⟩ := blkE_cells S5.out.ba
      go_wp2_with fail
      refine (implExprOf k m s A l cc t _ nn nn ns _ nn nn (List.replicate nn 0) w5 S5.out.ka HW.out S5.out.rn BZ.out.row LN (by unfold Hid; simp) hnn2 hnn2 (HT.out.keep (HB1.out.trans (S5.out.be.mono HB1.out.size)))).mono ?_
      rintro e w6 ⟨he, hb6⟩
      rw [HOF.out] at he
      change e = .returned (.tuple #[.int .i64 v, .bool true]) at he
      subst he
      have S6 := Lib.hid (S5.out.next hb6)
      have HB6 : Hid (Below w.heap.size w w6) := HB1.out.trans (S6.out.be.mono HB1.out.size)
      clear hb6 a0 a1 a2 a3 S5 BZ HB4
      obtain ⟨a0, a1, a2, a3⟩ := blkE_cells S6.out.ba
      obtain ⟨p1, p2, p3, p4, _, _, _, dd, hkk⟩ := S6.out.ka.parts
      have HKK := Lib.hid hkk
      clear hkk
      rcases exTm_cases HU.out with ⟨hk1, h0, h1, hks, hu⟩ | ⟨hk1, hks, hu⟩ | ⟨hk1, x, y, o, v1, v2, hks, hx, hy, hu, hs⟩ | ⟨hk1, x, b, v1, hks, hx, hu, hs⟩
      · rw [hk1] at p1; subst p1
        have hTi : T = wInt := by rw [HTT.out, hu]; rfl
        have hbi : true = decide (T = wInt) := by rw [hTi]; decide
        rw [← HBI.out] at hbi
        first
          | (exact absurd hbi (by decide))
          | (clear hk1 h0 h1 hks hu p2 p3 p4 hbi hTi
             go_wp2_with fail
             go_ret
             exact ⟨rfl, HB6.out⟩)
      · rw [hk1] at p1; subst p1
        clear hk1 hks hu p2 p3 p4
        go_wp2_with fail
        go_ret
        exact ⟨rfl, HB6.out⟩
      · rw [hk1] at p1; subst p1
        have hww := HW.out
        have hwx : wgt x ≤ 1048576 := Nat.le_trans (wgt_kid (by rw [hks]; simp)) hww
        have hwy : wgt y ≤ 1048576 := Nat.le_trans (wgt_kid (by rw [hks]; simp)) hww
        have HK2 : Hid (Kids _ (Low _) dd A [x, y]) := hks ▸ HKK
        have HL2 := hks ▸ p4
        obtain rfl : l = 2 := by simpa using HL2
        obtain ⟨b, o', k1, n1, g1, A1, l1, c1, k2, n2, g2, A2, l2, c2, rfl, hbb, hev1, hev2, d0, d1, d2, d3, i0, i1, i2, i3⟩ := kid2 HK2.out
        have hty2 : v1.type (lstL ns) (lstL ts) = wInt ∧ v2.type (lstL ns) (lstL ts) = wInt ∧ T = (if o = .lt then wBool else wInt) := by
          have hne := HV.out
          have e := HTT.out
          rw [hu] at hne e
          unfold Tm.type at hne e
          split at hne
          · rename_i h2
            rw [if_pos h2] at e
            exact ⟨h2.1, h2.2, e⟩
          · exact absurd rfl hne
        obtain ⟨t1, t2, t3⟩ := hty2
        have K1 : Hid (mkB (tyE (lstL ns) (lstL ts) x) = mkB wInt) := by unfold Hid; rw [tyE_some hx HLEN.out HAT.out, t1]
        have K2 : Hid (mkB (tyE (lstL ns) (lstL ts) y) = mkB wInt) := by unfold Hid; rw [tyE_some hy HLEN.out HAT.out, t2]
        have hsb : (s.toList == [60]) = decide (o = .lt) := by rw [p3, hs, mkB_is]; cases o <;> decide
        have hsc : ∃ sb, (s.toList == [60]) = sb ∧ sb = decide (T = wBool) := ⟨_, hsb, by rw [t3]; cases o <;> decide⟩
        obtain ⟨sb, hs1', hs2'⟩ := hsc
        rw [← HBB.out] at hs2'
        subst hs2'
        have X1 := Lib.hid (implExprType k1 n1 g1 A1 l1 c1 x _ nn nn ns _ mt mt ts w6 hev1 hwx S6.out.rn S6.out.rt LN LT hnn2 hmt2 (HT.out.keep HB6.out))
        have X2 := Lib.hid (fun W (hb : Below w6.heap.size w6 W) => implExprType k2 n2 g2 A2 l2 c2 y _ nn nn ns _ mt mt ts W (hev2.below hb) hwy (S6.out.next hb).rn (S6.out.next hb).rt LN LT hnn2 hmt2 (HT.out.keep (HB6.out.trans (hb.mono HB6.out.size))))
        have hi1 : ((mkB wInt).toList == [105, 110, 116]) = true := by rw [mkB_is]; decide
        clear hk1 hks hu hs p2 p3 p4 hx hy hwx hwy hww HL2 hbb hev1 hev2 t1 t2 t3 hsb
        go_wp2_with fail
        refine X1.out.mono ?_
        rw [K1.out]
        rintro e w7 ⟨rfl, hb7⟩
        have S7 := Lib.hid (S6.out.next hb7)
        have HB7 := Lib.hid hb7
        replace i0 := cell_next i0 hb7
        replace i1 := cell_next i1 hb7
        replace i2 := cell_next i2 hb7
        replace i3 := cell_next i3 hb7
        clear hb7 a0 a1 a2 a3 d0 d1 d2 d3
        obtain ⟨a0, a1, a2, a3⟩ := blkE_cells S7.out.ba
        go_wp2_with fail
        refine (X2.out w7 HB7.out).mono ?_
        rw [K2.out]
        rintro e w8 ⟨rfl, hb8⟩
        have S8 := Lib.hid (S7.out.next hb8)
        have HB8 : Hid (Below w.heap.size w w8) := HB1.out.trans (S8.out.be.mono HB1.out.size)
        clear hb8 a0 a1 a2 a3 i0 i1 i2 i3
        obtain ⟨a0, a1, a2, a3⟩ := blkE_cells S8.out.ba
        go_wp2_with fail
        go_ret
        exact ⟨rfl, HB8.out⟩
      · rw [hk1] at p1; subst p1
        have hww := HW.out
        have hwx : wgt x ≤ 1048576 := Nat.le_trans (wgt_kid (by rw [hks]; simp)) hww
        have HK2 : Hid (Kids _ (Low _) dd A [x]) := hks ▸ HKK
        have HL2 := hks ▸ p4
        obtain rfl : l = 1 := by simpa using HL2
        obtain ⟨b', o', k1, n1, g1, A1, l1, c1, rfl, hbb, hev1, d0, d1, d2, d3⟩ := kid1 HK2.out
        have hty2 : v1.type (lstL ns) (lstL ts) ≠ [] ∧ T = tyText b := by
          have hne := HV.out
          have e := HTT.out
          rw [hu] at hne e
          unfold Tm.type at hne e
          split at hne
          · exact absurd rfl hne
          · rename_i h2
            rw [if_neg h2] at e
            exact ⟨h2, e⟩
        obtain ⟨t1, t3⟩ := hty2
        have hRs : (R.toList == s.toList) = true := by rw [HR.out, t3, p3, hs]; simp
        have X1 := Lib.hid (implExprType k1 n1 g1 A1 l1 c1 x _ nn nn ns _ mt mt ts w6 hev1 hwx S6.out.rn S6.out.rt LN LT hnn2 hmt2 (HT.out.keep HB6.out))
        obtain ⟨Q, hQ⟩ : ∃ Q, Q = mkB (tyE (lstL ns) (lstL ts) x) := ⟨_, rfl⟩
        have hq1 : (Q.toList == []) = false := by rw [hQ, mkB_is, tyE_some hx HLEN.out HAT.out]; simp [t1]
        rw [← hQ] at X1
        clear hk1 hks hu hs p2 p3 p4 hx hwx hww HL2 hbb hev1 t1 t3 hQ
        go_wp2_with fail
        refine X1.out.mono ?_
        rintro e w7 ⟨rfl, hb7⟩
        have HB7 : Hid (Below w.heap.size w w7) := HB6.out.trans (hb7.mono HB6.out.size)
        clear hb7
        go_wp2_with fail
        go_ret
        exact ⟨rfl, HB7.out⟩)
end Go.Proofs.YtfjmjlpobbjjdaaDoor
