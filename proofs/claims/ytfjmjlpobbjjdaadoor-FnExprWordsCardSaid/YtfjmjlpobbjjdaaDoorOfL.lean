/- The walk of FnExprOf. -/
import Derived.Test.YtfjmjlpobbjjdaaDoorDrJ
import Derived.Test.YtfjmjlpobbjjdaaDoorEO
import Derived.Test.YtfjmjlpobbjjdaaDoorEA
namespace Go.Proofs.YtfjmjlpobbjjdaaDoor
open Go.RowKit Ilp
set_option linter.unusedVariables false
set_option linter.unusedSimpArgs false

theorem ofE_cases (ns : List ByteArray) (xs : List Int) (t : Ex) : ofE (lstL ns) xs t = none ∨ ∃ u v, exTm t = some u ∧ ns.length = xs.length ∧ u.of (lstL ns) xs = some v ∧ ofE (lstL ns) xs t = some v ∧ -1000000 ≤ v ∧ v ≤ 1000000 := by
  cases hu : exTm t with
  | none => left; unfold ofE; rw [hu]
  | some u =>
    by_cases hl : ns.length = xs.length
    · rw [ofE_some hu hl]
      cases hv : u.of (lstL ns) xs with
      | none => exact .inl rfl
      | some v => exact .inr ⟨u, v, rfl, hl, hv, rfl, (Tm.of_le (exTm_valid hu) hv).1, (Tm.of_le (exTm_valid hu) hv).2⟩
    · exact .inl (ofE_len hl)
theorem wgt_kidO {t x : Ex} (h : x ∈ t.kids) : wgt x ≤ wgt t := by
  have := wgt_eq t; have := wgts_mem h; omega
theorem clamp_cases (c : Int) : (1000000 < c ∧ clamp c = 1000000) ∨ (-1000000 ≤ c ∧ c ≤ 1000000 ∧ clamp c = c) ∨ (c < -1000000 ∧ clamp c = -1000000) := by unfold clamp; omega

set_option maxHeartbeats 8000000 in
set_option maxRecDepth 20000 in
theorem law_FnExprOf (a : Option Addr) (n c : Nat) (z : List Int) (w : World) (hsh : w.ShapedOpen Tryd.prog) (hT : Tabs w) (hz : IsRow .u8 w a n c z) :
    Calls Tryd.prog 9 #[.slice a n c] w fun e w' => e = .returned (.bool true) ∧ Below w.heap.size w w' := by
  have HZ := Lib.hid hz
  have HT := Lib.hid hT
  have hn : (n : Int) ≤ 9223372036854775807 := hz.row.2.2.2.1
  clear hz hT hsh
  go_enter Tryd.func9, Tryd.ntmps9
  by_cases hbig : (1048576 : Int) < (n : Int)
  · have hbig2 : (n : Int) > 1048576 := hbig
    go_wp2_with fail
    go_ret
    exact ⟨rfl, Below.refl _ _⟩
  have hbig2 : ¬ (n : Int) > 1048576 := hbig
  go_wp2_with fail
  refine (drawExprOf a n c z w HZ.out).mono ?_
  rintro e w1 ⟨k, m, s, A, l, cc, t, gn, gt, nn, mt, ns, xs, rfl, hev, hw, _, hbn, hbt, ln, lt, hnn, hmt, hb1⟩
  have S2 := Lib.hid (boxS_start hev (hbn.row) (hbt.row))
  have HB1 := Lib.hid hb1
  have LN := Lib.hid ln
  have LT := Lib.hid lt
  have hw2 : wgt t ≤ 1048576 := by omega
  have HW := Lib.hid hw2
  have hnn2 : (nn : Int) ≤ 1048576 := by omega
  have hmt2 : (mt : Int) ≤ 1048576 := by omega
  clear hev hw hbn hbt ln lt hnn hmt hb1 hw2 hbig hbig2 HZ
  go_upto_region 4 with (fail)
  generalize w1.alloc (.cells #[.int .i64 k, .int .i64 m, .string s, .slice A l cc] 25) = w2 at *
  obtain ⟨a0, a1, a2, a3⟩ := blkE_cells S2.out.ba
  go_wp2_with fail
  refine (implExprOf k m s A l cc t _ nn nn ns _ mt mt xs w2 S2.out.ka HW.out S2.out.rn S2.out.rt LN LT hnn2 hmt2 (HT.out.keep (HB1.out.trans (S2.out.be.mono HB1.out.size)))).mono ?_
  rintro e w3 ⟨he, hb3⟩
  have S3 := Lib.hid (S2.out.next hb3)
  clear hb3 a0 a1 a2 a3 S2
  obtain ⟨a0, a1, a2, a3⟩ := blkE_cells S3.out.ba
  rcases ofE_cases ns xs t with hof | ⟨u, v, hu, hlen, huv, hof, hv1, hv2⟩
  · rw [hof] at he
    change e = .returned (.tuple #[.int .i64 0, .bool false]) at he
    subst he
    have HOF := Lib.hid hof
    clear hof
    go_wp2_with fail
    refine (specExprOf k m s A l cc t _ nn nn ns _ mt mt xs w3 S3.out.ka HW.out S3.out.rn S3.out.rt LN LT hnn2 hmt2).mono ?_
    rintro e w4 ⟨he, hb4⟩
    rw [HOF.out] at he
    change e = .returned (.tuple #[.int .i64 0, .bool false]) at he
    subst he
    have HB4 : Hid (Below w.heap.size w w4) := HB1.out.trans ((S3.out.next hb4).be.mono HB1.out.size)
    clear hb4 a0 a1 a2 a3
    go_wp2_with fail
    go_ret
    exact ⟨rfl, HB4.out⟩
  · rw [hof] at he
    change e = .returned (.tuple #[.int .i64 v, .bool true]) at he
    subst he
    have HOF := Lib.hid hof
    have HU := Lib.hid hu
    have HUV := Lib.hid huv
    have HLEN := Lib.hid hlen
    have hvn : (v != v) = false := by simp
    clear hof hu huv hlen
    go_wp2_with fail
    refine (specExprOf k m s A l cc t _ nn nn ns _ mt mt xs w3 S3.out.ka HW.out S3.out.rn S3.out.rt LN LT hnn2 hmt2).mono ?_
    rintro e w4 ⟨he, hb4⟩
    rw [HOF.out] at he
    change e = .returned (.tuple #[.int .i64 v, .bool true]) at he
    subst he
    have S4 := Lib.hid (S3.out.next hb4)
    have HB4 : Hid (Below w.heap.size w w4) := HB1.out.trans (S4.out.be.mono HB1.out.size)
    clear hb4 a0 a1 a2 a3 S3
    obtain ⟨a0, a1, a2, a3⟩ := blkE_cells S4.out.ba
    obtain ⟨p1, p2, p3, p4, _, _, _, dd, hkk⟩ := S4.out.ka.parts
    have HKK := Lib.hid hkk
    have hv3 : ¬ v > 1000000 := by omega
    have hv4 : ¬ v < -1000000 := by omega
    clear hkk
    rcases exTm_cases HU.out with ⟨hk1, h0, h1, hks, hu⟩ | ⟨hk1, hks, hu⟩ | ⟨hk1, x, y, o, t1, t2, hks, hx, hy, hu, hs⟩ | ⟨hk1, x, b, t1, hks, hx, hu, hs⟩
    · rw [hk1] at p1; subst p1
      have hvm : v = m := by
        have := HUV.out
        rw [hu] at this
        unfold Tm.of at this
        injection this with this
        rw [p2]; omega
      subst hvm
      clear hk1 h0 h1 hks hu p2 p3 p4
      go_wp2_with fail
      go_ret
      exact ⟨by simp, HB4.out⟩
    · rw [hk1] at p1; subst p1
      clear hk1 hks hu p2 p3 p4
      go_wp2_with fail
      go_ret
      exact ⟨rfl, HB4.out⟩
    · rw [hk1] at p1; subst p1
      have hww := HW.out
      have hwx : wgt x ≤ 1048576 := Nat.le_trans (wgt_kidO (by rw [hks]; simp)) hww
      have hwy : wgt y ≤ 1048576 := Nat.le_trans (wgt_kidO (by rw [hks]; simp)) hww
      have HK2 : Hid (Kids w4 (Low w4) dd A [x, y]) := by have := HKK.out; rw [hks] at this; exact this
      rw [hks] at p4
      obtain rfl : l = 2 := by simpa using p4
      obtain ⟨b, o', k1, n1, g1, A1, l1, c1, k2, n2, g2, A2, l2, c2, rfl, hbb, hev1, hev2, d0, d1, d2, d3, i0, i1, i2, i3⟩ := kid2 HK2.out
      have hvv := HUV.out
      rw [hu, of_two] at hvv
      have hkv : ∃ v1 v2, t1.of (lstL ns) xs = some v1 ∧ t2.of (lstL ns) xs = some v2 ∧ v = twoV o v1 v2 := by
        split at hvv
        · rename_i v1 v2 e1 e2
          injection hvv with hvv
          exact ⟨v1, v2, e1, e2, hvv.symm⟩
        · cases hvv
      obtain ⟨v1, v2, e1, e2, hv⟩ := hkv
      have bd1 := Tm.of_le (exTm_valid hx) e1
      have bd2 := Tm.of_le (exTm_valid hy) e2
      have K1 : Hid (ofE (lstL ns) xs x = some v1) := by unfold Hid; rw [ofE_some hx HLEN.out]; exact e1
      have K2 : Hid (ofE (lstL ns) xs y = some v2) := by unfold Hid; rw [ofE_some hy HLEN.out]; exact e2
      have X1 := Lib.hid (implExprOf k1 n1 g1 A1 l1 c1 x _ nn nn ns _ mt mt xs w4 hev1 hwx S4.out.rn S4.out.rt LN LT hnn2 hmt2 (HT.out.keep HB4.out))
      have X2 := Lib.hid (fun W (hb : Below w4.heap.size w4 W) => implExprOf k2 n2 g2 A2 l2 c2 y _ nn nn ns _ mt mt xs W (hev2.below hb) hwy (S4.out.next hb).rn (S4.out.next hb).rt LN LT hnn2 hmt2 (HT.out.keep (HB4.out.trans (hb.mono HB4.out.size))))
      obtain ⟨u1, u2, u3, u4⟩ := ops_is o
      rw [← hs, ← p3] at u1 u2 u3 u4
      have HV := Lib.hid hv
      obtain ⟨bd1, bd1'⟩ := bd1
      obtain ⟨bd2, bd2'⟩ := bd2
      clear hk1 hks hu hs p2 p3 p4 hx hy hwx hwy hww hbb hev1 hev2 hvv e1 e2 hv u1
      have U2 := Lib.hid u2
      have U3 := Lib.hid u3
      have U4 := Lib.hid u4
      clear u2 u3 u4
      go_upto_region 12 with (fail)
      go_wp2_with fail
      refine X1.out.mono ?_
      rintro e w7 ⟨he, hb7⟩
      rw [K1.out] at he
      change e = .returned (.tuple #[.int .i64 v1, .bool true]) at he
      subst he
      have S7 := Lib.hid (S4.out.next hb7)
      have HB7 := Lib.hid hb7
      replace i0 := cell_next i0 hb7
      replace i1 := cell_next i1 hb7
      replace i2 := cell_next i2 hb7
      replace i3 := cell_next i3 hb7
      clear hb7 a0 a1 a2 a3 d0 d1 d2 d3
      obtain ⟨a0, a1, a2, a3⟩ := blkE_cells S7.out.ba
      go_wp2_with fail
      refine (X2.out w7 HB7.out).mono ?_
      rintro e w8 ⟨he, hb8⟩
      rw [K2.out] at he
      change e = .returned (.tuple #[.int .i64 v2, .bool true]) at he
      subst he
      have S8 := Lib.hid (S7.out.next hb8)
      have HB8 : Hid (Below w.heap.size w w8) := HB1.out.trans (S8.out.be.mono HB1.out.size)
      clear hb8 a0 a1 a2 a3 i0 i1 i2 i3
      obtain ⟨a0, a1, a2, a3⟩ := blkE_cells S8.out.ba
      have u2 := U2.out
      have u3 := U3.out
      have u4 := U4.out
      have hv := HV.out
      clear U2 U3 U4 HV HUV HOF HU
      cases o with
      | add =>
        simp only [decide_true, reduceCtorEq, decide_false] at u2 u3 u4
        change v = clamp (v1 + v2) at hv
        rcases clamp_cases (v1 + v2) with ⟨q1, q2⟩ | ⟨q1, q1', q2⟩ | ⟨q1, q2⟩
        · rw [q2] at hv
          subst hv
          have q3 : ((1000000 : Int) == v1 + v2) = false := by rw [beq_eq_false_iff_ne]; intro e; rw [← e] at q1; exact absurd q1 (by decide)
          have q4 : v1 + v2 > 1000000 := q1
          clear q1 q2 hv1 hv2 hv3 hv4
          go_wp2_with fail
          go_ret
          exact ⟨by simp, HB8.out⟩
        · rw [q2] at hv
          subst hv
          clear q1 q1' q2
          go_wp2_with fail
          go_ret
          exact ⟨by simp, HB8.out⟩
        · rw [q2] at hv
          subst hv
          have q3 : ((-1000000 : Int) == v1 + v2) = false := by rw [beq_eq_false_iff_ne]; intro e; rw [← e] at q1; exact absurd q1 (by decide)
          have q5 : ¬ (v1 + v2 > 1000000) := fun h => absurd (Int.lt_trans h q1) (by decide)
          clear q2 hv1 hv2 hv3 hv4
          go_wp2_with fail
          go_ret
          exact ⟨by simp, HB8.out⟩
      | sub =>
        simp only [decide_true, reduceCtorEq, decide_false] at u2 u3 u4
        change v = clamp (v1 - v2) at hv
        rcases clamp_cases (v1 - v2) with ⟨q1, q2⟩ | ⟨q1, q1', q2⟩ | ⟨q1, q2⟩
        · rw [q2] at hv
          subst hv
          have q3 : ((1000000 : Int) == v1 - v2) = false := by rw [beq_eq_false_iff_ne]; intro e; rw [← e] at q1; exact absurd q1 (by decide)
          have q4 : v1 - v2 > 1000000 := q1
          clear q1 q2 hv1 hv2 hv3 hv4
          go_wp2_with fail
          go_ret
          exact ⟨by simp, HB8.out⟩
        · rw [q2] at hv
          subst hv
          clear q1 q1' q2
          go_wp2_with fail
          go_ret
          exact ⟨by simp, HB8.out⟩
        · rw [q2] at hv
          subst hv
          have q3 : ((-1000000 : Int) == v1 - v2) = false := by rw [beq_eq_false_iff_ne]; intro e; rw [← e] at q1; exact absurd q1 (by decide)
          have q5 : ¬ (v1 - v2 > 1000000) := fun h => absurd (Int.lt_trans h q1) (by decide)
          clear q2 hv1 hv2 hv3 hv4
          go_wp2_with fail
          go_ret
          exact ⟨by simp, HB8.out⟩
      | mul =>
        simp only [decide_true, reduceCtorEq, decide_false] at u2 u3 u4
        change v = clamp (v1 * v2) at hv
        obtain ⟨m1, m2⟩ := mul_bound ⟨bd1, bd1'⟩ ⟨bd2, bd2'⟩
        rcases clamp_cases (v1 * v2) with ⟨q1, q2⟩ | ⟨q1, q1', q2⟩ | ⟨q1, q2⟩
        · rw [q2] at hv
          subst hv
          have q3 : ((1000000 : Int) == v1 * v2) = false := by rw [beq_eq_false_iff_ne]; intro e; rw [← e] at q1; exact absurd q1 (by decide)
          have q4 : v1 * v2 > 1000000 := q1
          clear q1 q2 hv1 hv2 hv3 hv4
          go_wp2_with fail
          go_ret
          exact ⟨by simp, HB8.out⟩
        · rw [q2] at hv
          subst hv
          clear q1 q1' q2
          go_wp2_with fail
          go_ret
          exact ⟨by simp, HB8.out⟩
        · rw [q2] at hv
          subst hv
          have q3 : ((-1000000 : Int) == v1 * v2) = false := by rw [beq_eq_false_iff_ne]; intro e; rw [← e] at q1; exact absurd q1 (by decide)
          have q5 : ¬ (v1 * v2 > 1000000) := fun h => absurd (Int.lt_trans h q1) (by decide)
          clear q2 hv1 hv2 hv3 hv4
          go_wp2_with fail
          go_ret
          exact ⟨by simp, HB8.out⟩
      | lt =>
        simp only [decide_true, reduceCtorEq, decide_false] at u2 u3 u4
        by_cases hlt : v1 < v2
        · have hv' : v = 1 := by rw [hv]; unfold twoV; simp [hlt]
          clear hv
          subst hv'
          clear hv1 hv2 hv3 hv4
          go_wp2_with fail
          go_ret
          exact ⟨rfl, HB8.out⟩
        · have hv' : v = 0 := by rw [hv]; unfold twoV; simp [hlt]
          clear hv
          subst hv'
          clear hv1 hv2 hv3 hv4
          go_wp2_with fail
          go_ret
          exact ⟨rfl, HB8.out⟩
    · rw [hk1] at p1; subst p1
      clear hk1 hks hu hs hx p2 p3 p4
      go_wp2_with fail
      go_ret
      exact ⟨rfl, HB4.out⟩
end Go.Proofs.YtfjmjlpobbjjdaaDoor
