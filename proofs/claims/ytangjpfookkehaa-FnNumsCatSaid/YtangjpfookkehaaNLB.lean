/- The walk of FnNumsCat. -/
import Derived.Test.YtangjpfookkehaaNL9
import Derived.Test.YtangjpfookkehaaN4
import Derived.Test.YtangjpfookkehaaDrawL
import Derived.Test.YtangjpfookkehaaDrawT
namespace Go.Proofs.Ytangjpfookkehaa
open Go.RowKit Ilp
set_option linter.unusedVariables false

theorem cat_read {xs ys : List Int} (hx : xs.all numOk = true) (hy : ys.all numOk = true) : readAll (numsText xs ++ numsText ys) = some (xs ++ ys) ∧ numsText (xs ++ ys) = numsText xs ++ numsText ys := by
  have h : (xs ++ ys).all numOk = true := by rw [List.all_append, hx, hy]; rfl
  have e : numsText (xs ++ ys) = numsText xs ++ numsText ys := by rw [numsText_ok h, numsText_ok hx, numsText_ok hy, List.flatMap_append]
  refine ⟨?_, e⟩
  rw [← e, numsText_ok h]; exact readAll_text _ (List.all_eq_true.1 h)
theorem cat_torn {xs ys : List Int} (hx : xs.all numOk = true) (hy : ys.all numOk = true) {m : Nat} (hm : ys.length = m + 1) :
    (readAll (numsText xs ++ (numsText ys).take ((numsText ys).length - 1))).isSome = decide ((numText (ys[m]'(by omega))).length = 1) := by
  have hys : ys = ys.take m ++ [ys[m]'(by omega)] := by
    rw [List.take_append_getElem (by omega), List.take_of_length_le (by omega)]
  have hl : numOk (ys[m]'(by omega)) = true := List.all_eq_true.1 hy _ (List.getElem_mem _)
  have hdl : ∀ k ∈ xs ++ ys.take m, numOk k = true := fun k hk => by
    rcases List.mem_append.1 hk with hk | hk
    · exact List.all_eq_true.1 hx k hk
    · exact List.all_eq_true.1 hy k (List.mem_of_mem_take hk)
  have e : numsText xs ++ (numsText ys).take ((numsText ys).length - 1) = (xs ++ ys.take m).flatMap numText ++ (numText (ys[m]'(by omega))).dropLast := by
    rw [← List.dropLast_eq_take, numsText_ok hx, numsText_ok hy]
    conv => lhs; rw [hys]
    rw [List.flatMap_append, List.flatMap_append, List.flatMap_singleton, List.dropLast_append_of_ne_nil (numText_ne hl), List.append_assoc]
  rw [e]; exact readAll_torn _ _ hdl hl

theorem row_add {w : World} {B b o : Nat} {vs : List Value} (h : Row w B (some ⟨b, o, none⟩) vs) : ∀ j u, vs[j]? = some u → w.cell? ((Addr.mk b o none).add j) = some u := by
  intro j u hu
  obtain ⟨b', o', e, hb, hc⟩ := h j u hu
  simp only [Option.some.injEq, Addr.mk.injEq] at e
  obtain ⟨rfl, rfl, _⟩ := e
  have : (Addr.mk b o none).add j = ⟨b, o + j, none⟩ := by unfold Addr.add; split <;> simp_all
  rw [this]; exact hc
theorem ints_one {xs : List Int} : ∀ u ∈ ints xs, u.oneCell' = true := by
  intro u hu; simp only [ints, List.mem_map] at hu; obtain ⟨x, _, rfl⟩ := hu; rfl

set_option maxHeartbeats 8000000 in
set_option maxRecDepth 20000 in
theorem law_FnNumsCat (a : Option Addr) (n c : Nat) (z : List Int) (a' : Option Addr) (n' c' : Nat) (z' : List Int) (w : World) (hz : IsRow .u8 w a n c z) (hz' : IsRow .u8 w a' n' c' z') :
    Calls Try.prog 11 #[.slice a n c, .slice a' n' c'] w fun e w' => e = .returned (.bool true) ∧ Below w.heap.size w w' := by
  obtain ⟨_, _, hnc, hn, hc, _⟩ := hz.row
  obtain ⟨_, _, hnc', hn', hc', _⟩ := hz'.row
  obtain ⟨i0, hi, hz0, hz1, hz2⟩ := info_parts intInfo
  have HZ := Lib.hid hz; clear hz
  have HZ' := Lib.hid hz'; clear hz'
  by_cases hbig : (1048576 : Int) < (n : Int)
  · go_enter Try.func11, Try.ntmps11
    go_wp2
    go_ret
    exact ⟨rfl, Below.refl _ _⟩
  · by_cases hbig' : (1048576 : Int) < (n' : Int)
    · go_enter Try.func11, Try.ntmps11
      go_wp2
      go_ret
      exact ⟨rfl, Below.refl _ _⟩
    · have hs : (n : Int) ≤ 1048576 := by omega
      have hs' : (n' : Int) ≤ 1048576 := by omega
      clear hbig hbig'
      go_enter Try.func11, Try.ntmps11
      go_wp2_with fail
      refine (drawNumsText a n c z w HZ.out).mono ?_
      rintro e w1 ⟨A, m, cm, xs, rfl, hmc, hl, hm4, hsm, hrow, hb1⟩
      have HL : Hid (xs.length = m) := hl
      have HR := Lib.hid hrow
      have hs1 := hb1.size
      have HZ1 : Hid (IsRow .u8 w1 a' n' c' z') := isRow_below HZ'.out hb1
      clear hl hrow hsm
      go_wp2_with fail
      refine (drawNumsText a' n' c' z' w1 HZ1.out).mono ?_
      rintro e w2 ⟨A', m', cm', ys, rfl, hmc', hl', hm4', hsm', hrow', hb2⟩
      have HL' : Hid (ys.length = m') := hl'
      have HR' := Lib.hid hrow'
      have HR2 := Lib.hid ((HR.out.below hb2).more hb2.size)
      have B2 := hb1.trans (hb2.mono hs1)
      have hs2 := B2.size
      clear hl' hrow' hsm'
      go_wp2_with fail
      refine (implNumsText A cm m xs w2 HR2.out HL (by omega)).mono ?_; rintro e w3 ⟨rfl, hb3⟩
      have B3 := B2.trans (hb3.mono hs2)
      have hs3 := B3.size
      have HR3 := Lib.hid ((HR2.out.below hb3).more hb3.size)
      have HR3' := Lib.hid ((HR'.out.below hb3).more hb3.size)
      go_wp2_with fail
      refine (implNumsText A' cm' m' ys w3 HR3'.out HL' (by omega)).mono ?_; rintro e w4 ⟨rfl, hb4⟩
      have B4 := B3.trans (hb4.mono hs3)
      have hs4 := B4.size
      have HR4 := Lib.hid ((HR3.out.below hb4).more hb4.size)
      have HR4' := Lib.hid ((HR3'.out.below hb4).more hb4.size)
      go_wp2_with fail
      refine (specNumsText A cm m xs w4 HR4.out HL (by omega)).mono ?_; rintro e w5 ⟨rfl, rfl⟩
      have hnl : (numsText xs).length ≤ 24 := by have := numsText_le xs; have := HL.out; omega
      have hnl' : (numsText ys).length ≤ 24 := by have := numsText_le ys; have := HL'.out; omega
      cases hS : numsText xs with
      | nil =>
        have HS := Lib.hid hS
        generalize numsText ys = T at *
        clear hS
        go_wp2_with fail
        refine (specNumsText A cm m xs w4 HR4.out HL (by omega)).mono ?_; rintro e w5 ⟨rfl, rfl⟩
        rw [HS.out]
        go_wp2_with fail
        go_ret
        exact ⟨rfl, B4⟩
      | cons s0 S0 =>
        cases hT : numsText ys with
        | nil =>
          have HS := Lib.hid hS
          clear hS hT
          go_wp2_with fail
          refine (specNumsText A cm m xs w4 HR4.out HL (by omega)).mono ?_; rintro e w5 ⟨rfl, rfl⟩
          rw [HS.out]
          go_wp2_with fail
          go_ret
          exact ⟨rfl, B4⟩
        | cons t0 T0 =>
          have hx := numsText_ne (l := xs) (by rw [hS]; simp)
          have hy := numsText_ne (l := ys) (by rw [hT]; simp)
          have hcat := cat_read hx.1 hy.1
          have hm0 : 0 < m := by rw [← HL.out]; exact List.length_pos_iff.2 hx.2
          have hm0' : 0 < m' := by rw [← HL'.out]; exact List.length_pos_iff.2 hy.2
          obtain ⟨q, rfl⟩ : ∃ q, m' = q + 1 := ⟨m' - 1, by omega⟩
          have htorn := cat_torn hx.1 hy.1 (m := q) HL'.out
          obtain ⟨S, hSS⟩ : ∃ S, S = numsText xs := ⟨_, rfl⟩
          obtain ⟨T, hTT⟩ : ∃ T, T = numsText ys := ⟨_, rfl⟩
          rw [← hS, ← hT]
          rw [← hSS] at hcat htorn hnl ⊢
          rw [← hTT] at hcat htorn hnl' ⊢
          have hSe : S.isEmpty = false := by rw [hSS, hS]; rfl
          have hTe : T.isEmpty = false := by rw [hTT, hT]; rfl
          have hTl : 1 ≤ T.length := by rw [hTT, hT]; simp
          have HC := Lib.hid hcat
          have HT := Lib.hid htorn
          clear hx hy hcat htorn hS hT hSS hTT
          obtain ⟨ba, oa, rfl, hba, hca⟩ := (HR4.out).at_ (i := 0) (by rw [ints_length, HL.out]; exact hm0)
          obtain ⟨bb, ob, rfl, hbb, hcb⟩ := (HR4'.out).at_ (i := 0) (by rw [ints_length, HL'.out]; exact hm0')
          clear hca hcb
          have hmk := World.ownsRow_made (base := w4.heap.size) (e := 3) (size := 1) w4 #[] 0 (Nat.le_refl _) (by unfold maxLen; omega) rfl
          have HMK := Lib.hid hmk
          have HRa := Lib.hid (HR4.out.below ((Below.refl w4.heap.size w4).alloc (Nat.le_refl _) (.cells #[] 3)))
          have HRb := Lib.hid (HR4'.out.below ((Below.refl w4.heap.size w4).alloc (Nat.le_refl _) (.cells #[] 3)))
          clear hmk
          go_wp2_with (at_builtin; refine wpList_append_own _ rfl (.tmp 47) (.tmp 48) 28 rfl w4.heap.size 3 i0 (.int .i64 0) 1 8 Try.underlying28 hi hz0 hz1 hz2 rfl (by decide) _ _ _ rfl HMK.out ⟨ba, oa, none⟩ m cm (ints xs) rfl ?c0 (row_add HRa.out) ints_one ?c3 ?c4 ?c5 ?_)
          case c0 => rw [ints_length, HL.out]; omega
          case c3 => unfold maxLen; omega
          case c4 => omega
          case c5 => simp
          intro v5 w5 hown5 hgrow5 _
          have B5 : Below w4.heap.size w4 w5 := ((Below.refl _ _).alloc (Nat.le_refl _) _).grown hgrow5 (by simp) (fun k hk => by have := (HMK.out.lt k (by first | exact hk | simpa using hk)).1; omega)
          have HRb5 := Lib.hid (HR4'.out.below B5)
          try simp only [Nat.zero_add, List.nil_append] at hown5
          have HO5 := Lib.hid hown5
          clear hown5 hgrow5
          have hs5 := B5.size
          go_wp2_with (at_builtin; refine wpList_append_own _ rfl (.tmp 49) (.tmp 50) 28 rfl w4.heap.size 3 i0 (.int .i64 0) 1 8 Try.underlying28 hi hz0 hz1 hz2 rfl (by decide) _ _ _ rfl HO5.out ⟨bb, ob, none⟩ (q + 1) cm' (ints ys) rfl ?d0 (row_add HRb5.out) ints_one ?d3 ?d4 ?d5 ?_)
          case d0 => rw [ints_length, HL'.out]; omega
          case d3 => unfold maxLen; omega
          case d4 => omega
          case d5 => omega
          intro v6 w6 hown6 hgrow6 _
          have B6 : Below w4.heap.size w4 w6 := B5.grown hgrow6 (by omega) (fun k hk => (HO5.out.lt k (by first | exact hk | simpa using hk)).1)
          have hs6 := B6.size
          obtain ⟨Av, cv, rfl, hcv, hmv⟩ := Mine.of_own hown6
          have HRv := Lib.hid hmv.row
          have HR6' := Lib.hid ((HR4'.out.below B6).more hs6)
          clear hown6 hgrow6 hmv
          have B6' : Below w.heap.size w w6 := B4.trans (B6.mono hs4)
          have hs6' := B6'.size
          go_wp2_with fail
          rw [mk_app]
          refine (implReads ⟨(S ++ T).toArray⟩ w6 (by rw [size_mk, List.length_append]; omega)).mono ?_
          have hST : (ByteArray.mk (S ++ T).toArray).data.toList = S ++ T := by simp
          intro e w7 hro
          obtain ⟨A7, n7, c7, rfl, hl7, hc7, hm7, hb7, hn7⟩ := hro.form
          rw [hST] at hl7 hn7 ⊢
          have hg : got (S ++ T) = xs ++ ys := by unfold got; rw [HC.out.1]; rfl
          rw [hg] at hl7
          rw [HC.out.1]
          obtain rfl : n7 = m + (q + 1) := by rw [← hl7, List.length_append, HL.out, HL'.out]
          have HL7 := Lib.hid hl7
          have B7 := B6'.trans (hb7.mono hs6')
          have hs7 := B7.size
          have hs76 := hb7.size
          have HRv7 : Hid (Row w7 w7.heap.size Av (ints (xs ++ ys))) := by
            have := (HRv.out.below hb7).more hb7.size
            rw [show ints xs ++ ints ys = ints (xs ++ ys) by simp [ints]] at this; exact this
          have HR7' := Lib.hid ((HR6'.out.below hb7).more hs76)
          clear hro hm7 hg hl7 hST hn7
          simp only [Option.isSome_some]
          go_wp2_with fail
          refine (implNumsText Av cv (m + (q + 1)) (xs ++ ys) w7 HRv7.out HL7 (by omega)).mono ?_; rintro e w8 ⟨rfl, hb8⟩
          rw [HC.out.2]
          have B8 := B7.trans (hb8.mono hs7)
          have hs8 := B8.size
          have HR8' := Lib.hid ((HR7'.out.below hb8).more hb8.size)
          have hq0 : q < ys.length := by rw [HL'.out]; omega
          obtain ⟨b9, o9, e9, hb9, hc9⟩ := HR8'.out.at_ (i := q) (by rw [ints_length]; exact hq0)
          simp only [Option.some.injEq, Addr.mk.injEq] at e9
          obtain ⟨rfl, rfl, _⟩ := e9
          obtain ⟨y, hyq⟩ : ∃ y, y = ys[q] := ⟨_, rfl⟩
          have hc10 : w8.cell? ⟨bb, ob + q, none⟩ = some (.int .i64 y) := by rw [hc9, hyq]; simp [ints]
          have HTy : Hid ((readAll (S ++ T.take (T.length - 1))).isSome = decide ((numText y).length = 1)) := by
            have := HT.out; rw [← hyq] at this; exact this
          clear hc9 hyq hq0
          have happ : (ByteArray.mk S.toArray ++ ByteArray.mk T.toArray).toList = S ++ T := by rw [mk_app, ByteArray.toList_eq]
          go_wp2_with fail
          refine (implNumText y w8).mono ?_; rintro e w9 ⟨rfl, hb9'⟩
          have B9 := B8.trans (hb9'.mono hs8)
          have hs9 := B9.size
          clear happ
          have ht0 : (0 : Int) ≤ (T.length : Int) - 1 := by omega
          have ht1 : ((T.length : Int) - 1).toNat = T.length - 1 := by omega
          go_wp2_with fail
          have hX : ByteArray.mk S.toArray ++ (ByteArray.mk T.toArray).extract 0 (T.length - 1) = ⟨(S ++ T.take (T.length - 1)).toArray⟩ := by
            rw [ByteArray.extract_mk, mk_app]; simp
          rw [hX]
          have hST : (ByteArray.mk (S ++ T.take (T.length - 1)).toArray).data.toList = S ++ T.take (T.length - 1) := by simp
          refine (implReads ⟨(S ++ T.take (T.length - 1)).toArray⟩ w9 (by rw [size_mk, List.length_append, List.length_take]; omega)).mono ?_
          intro e w10 hro
          obtain ⟨A10, n10, c10, rfl, hl10, hcc10, hm10, hb10, hn10⟩ := hro.form
          rw [hST, HTy.out]
          have hbb : decide ((numText y).length = 1) = (((numText y).length : Int) == 1) := by
            rw [Bool.eq_iff_iff]; simp; omega
          rw [hbb]
          have B10 := B9.trans (hb10.mono hs9)
          clear hbb hX hST hro hl10 hm10 hn10
          go_wp2_with fail
          go_ret
          exact ⟨rfl, B10⟩
end Go.Proofs.Ytangjpfookkehaa
