/- The walk of FnNums. -/
import Derived.Test.YtangjpfookkehaaNL9
import Derived.Test.YtangjpfookkehaaN4
import Derived.Test.YtangjpfookkehaaDrawL
import Derived.Test.YtangjpfookkehaaDrawT2
import Derived.Outline
namespace Go.Proofs.Ytangjpfookkehaa
open Go.RowKit Ilp
set_option linter.unusedVariables false

def allTo (xs : List Int) (k : Nat) : Bool := (xs.take k).all numOk
theorem allTo_zero (xs : List Int) : allTo xs 0 = true := by simp [allTo]
theorem allTo_succ (xs : List Int) (k : Nat) (h : k < xs.length) : allTo xs (k + 1) = (allTo xs k && numOk xs[k]) := by
  unfold allTo; rw [List.take_succ_eq_append_getElem h, List.all_append]; simp
theorem allTo_all (xs : List Int) : allTo xs xs.length = xs.all numOk := by simp [allTo]
theorem text_empty (x : Int) : (numText x).isEmpty = !numOk x := by
  cases h : numOk x with
  | false => rw [numText_no h]; rfl
  | true => have := numText_ne h; cases e : numText x <;> simp_all

set_option maxHeartbeats 8000000 in
set_option maxRecDepth 20000 in
theorem law_FnNums (a : Option Addr) (n c : Nat) (z : List Int) (a' : Option Addr) (n' c' : Nat) (z' : List Int) (w : World) (hz : IsRow .u8 w a n c z) (hz' : IsRow .u8 w a' n' c' z') :
    Calls Try.prog 14 #[.slice a n c, .slice a' n' c'] w fun e w' => e = .returned (.bool true) ∧ Below w.heap.size w w' := by
  obtain ⟨_, _, hnc, hn, hc, _⟩ := hz.row
  obtain ⟨_, _, hnc', hn', hc', _⟩ := hz'.row
  have HZ := Lib.hid hz; clear hz
  have HZ' := Lib.hid hz'; clear hz'
  by_cases hbig : (1048576 : Int) < (n : Int)
  · go_enter Try.func14, Try.ntmps14
    go_wp2
    go_ret
    exact ⟨rfl, Below.refl _ _⟩
  · by_cases hbig' : (1048576 : Int) < (n' : Int)
    · go_enter Try.func14, Try.ntmps14
      go_wp2
      go_ret
      exact ⟨rfl, Below.refl _ _⟩
    · have hs : (n : Int) ≤ 1048576 := by omega
      have hs' : (n' : Int) ≤ 1048576 := by omega
      clear hbig hbig'
      go_enter Try.func14, Try.ntmps14
      go_wp2_with fail
      refine (drawNumsText a n c z w HZ.out).mono ?_
      rintro e w1 ⟨A, m, cm, xs, rfl, hmc, hl, hm4, hsm, hrow, hb1⟩
      have HL : Hid (xs.length = m) := hl
      have HR := Lib.hid hrow
      have hs1 := hb1.size
      clear hl hrow hsm
      go_wp2_with fail
      refine (implNumsText A cm m xs w1 HR.out HL (by omega)).mono ?_; rintro e w2 ⟨rfl, hb2⟩
      have B2 := hb1.trans (hb2.mono hs1)
      have hs2 := B2.size
      have HR2 := Lib.hid ((HR.out.below hb2).more hb2.size)
      go_wp2_with fail
      refine (specNumsText A cm m xs w2 HR2.out HL (by omega)).mono ?_; rintro e w3 ⟨rfl, rfl⟩
      have hnl := numsText_le xs
      have hnl2 : (numsText xs).length ≤ 24 := by have := HL.out; omega
      have hend : xs.all numOk = false → numsText xs = [] := fun h => numsText_no h
      have hrd : readAll (numsText xs) = some (if xs.all numOk = true then xs else []) := by
        cases h : xs.all numOk with
        | false => rw [numsText_no h]; rfl
        | true => rw [numsText_ok h]; simp [readAll_text xs (List.all_eq_true.1 h)]
      have HE := Lib.hid hend
      have HRD := Lib.hid hrd
      clear hend hrd hnl
      generalize hS : numsText xs = S at *
      clear hS
      go_wp2_with fail
      go_loopw [7, 8] (fun b i wr => ∃ k : Nat, b = .bool (allTo xs k) ∧ i = .int .i64 (k : Int) ∧ k ≤ m ∧ Below w2.heap.size w2 wr) (fun _ i _ => m - (intOf i).toNat)
      case atStart => exact ⟨0, by rw [allTo_zero], rfl, Nat.zero_le _, Below.refl _ _⟩
      case round =>
        obtain ⟨k, rfl, rfl, hk, hbw⟩ := hrel
        by_cases hlt : k < m
        · have hx : k < xs.length := by rw [HL.out]; exact hlt
          obtain ⟨b, o, rfl, hbb, hc1⟩ := (HR2.out).at_ (i := k) (by rw [ints_length]; exact hx)
          have hc2 : wr.cell? ⟨b, o + k, none⟩ = some (.int .i64 xs[k]) := by rw [hbw.cell hbb, hc1]; simp [ints]
          have hsz := hbw.size
          have HT := Lib.hid (allTo_succ xs k hx)
          have HX := Lib.hid hx
          clear hc1
          cases ha : allTo xs k with
          | false =>
            rw [ha] at HT
            clear ha
            go_wp2_with fail
            go_roundw
            case rel => exact ⟨k + 1, by rw [HT.out]; rfl, by go_num, by omega, hbw⟩
            case measure => simp [intOf]; omega
          | true =>
            rw [ha] at HT
            have hte := text_empty xs[k]
            clear ha
            go_wp2_with fail
            refine (implNumText xs[k] wr).mono ?_; rintro e w3 ⟨rfl, hb3⟩
            go_wp2_with fail
            go_roundw
            case rel => exact ⟨k + 1, by rw [HT.out]; rfl, by go_num, by omega, hbw.trans (hb3.mono hsz)⟩
            case measure => simp [intOf]; omega
        · obtain rfl : k = m := by omega
          have hall : allTo xs k = xs.all numOk := by rw [← HL.out, allTo_all]
          rw [hall]
          clear hall
          have Bw := B2.trans (hbw.mono hs2)
          have hsz := Bw.size
          go_wp2_with fail
          refine (implReads ⟨S.toArray⟩ wr (by rw [size_mk]; omega)).mono ?_
          intro e w4 hro
          obtain ⟨A1, n1, c1, rfl, hl1, hcc1, hm1, hb4, hn1⟩ := hro.form
          have hrd := HRD.out
          have B4 := Bw.trans (hb4.mono hsz)
          have hs4 := B4.size
          rw [show (ByteArray.mk S.toArray).data.toList = S by simp] at hl1 hm1 hn1 ⊢
          have hR4 := hm1.row
          have hg : got S = if xs.all numOk = true then xs else [] := by unfold got; rw [hrd]; rfl
          rw [hrd]
          have HR4 : Row w4 w4.heap.size (some ⟨0, 0, none⟩) [] := Row.nil _ _ _
          clear HR4 hro hm1
          have HRx := Lib.hid ((((HR2.out).below hbw).more hbw.size |>.below hb4).more hb4.size)
          rw [hg] at hl1 hR4
          clear hrd hg
          cases hall : xs.all numOk with
          | false =>
            have hS := HE.out hall
            subst hS
            rw [hall] at hl1
            simp only [Bool.false_eq_true, if_false, List.length_nil] at hl1
            subst hl1
            clear hall hR4
            go_wp2_with fail
            refine wp_loop_rounds 1 ?_; rw [rounds_succ]
            have B5 := B4
            obtain ⟨w5, rfl⟩ : ∃ w5 : World, w5 = w4 := ⟨_, rfl⟩
            have HZ5 : Hid (IsRow .u8 w5 a' n' c' z') := isRow_below HZ'.out ⟨B5.os, B5.tape, B5.output, B5.size, B5.block⟩
            have hs5 := B5.size
            go_wp2_with fail
            refine (drawNumsRead a' n' c' z' w5 HZ5.out).mono ?_
            rintro e w6 ⟨T, rfl, hTs, hb6⟩
            have B6 := B5.trans (hb6.mono hs5)
            have hs6 := B6.size
            have hTs' : (T.size : Int) ≤ 1048576 := by omega
            go_wp2_with fail
            refine (implReads T w6 hTs').mono ?_
            intro e w7 hro
            obtain ⟨A2, n2, c2, rfl, hl2, hcc2, hm2, hb7, hn2⟩ := hro.form
            have B7 := B6.trans (hb7.mono hs6)
            have hs7 := B7.size
            have HR7 := Lib.hid hm2.row
            clear hro hm2
            have hTl : n2 ≤ 26 := by simp at hn2; omega
            clear hn2
            go_wp2_with fail
            refine (specReads T w7 hTs').mono ?_
            intro e w8 hro
            obtain ⟨A3, n3, c3, rfl, hl3, hcc3, hm3, hb8, hn3⟩ := hro.form
            have B8 := B7.trans (hb8.mono hs7)
            have hs8 := B8.size
            obtain rfl : n3 = n2 := by rw [← hl2, ← hl3]
            have HL2 : Hid ((got T.data.toList).length = n3) := hl2
            have HR8 := Lib.hid ((HR7.out.below hb8).more hb8.size)
            clear hro hm3 hl2 hl3 hn3
            cases hT : readAll T.data.toList with
            | none =>
              clear hT
              simp only [Option.isSome_none]
              go_wp2_with fail
              go_ret
              exact ⟨rfl, B8⟩
            | some ys =>
              have hg : got T.data.toList = ys := by unfold got; rw [hT]; rfl
              have hsd := readAll_sound hT
              have hTT : T.toList = numsText ys := by rw [ByteArray.toList_eq, numsText_of hsd.1, hsd.2]
              rw [hg] at HR8 HL2
              clear hT hg hsd
              simp only [Option.isSome_some]
              go_wp2_with fail
              refine (implNumsText A2 c2 n3 ys w8 HR8.out HL2 (by omega)).mono ?_; rintro e w9 ⟨rfl, hb9⟩
              go_wp2_with fail
              go_ret
              exact ⟨rfl, B8.trans (hb9.mono hs8)⟩
          | true =>
            rw [hall] at hl1 hR4
            simp only [if_true] at hl1 hR4
            obtain rfl : n1 = k := by rw [← hl1]; exact HL.out
            have HR4 := Lib.hid hR4
            clear hall hl1 hR4
            go_wp2_with fail
            go_loopw [11] (fun i wr => ∃ j : Nat, i = .int .i64 (j : Int) ∧ j ≤ n1 ∧ Below w4.heap.size w4 wr) (fun i _ => n1 - (intOf i).toNat)
            case atStart => exact ⟨0, rfl, Nat.zero_le _, Below.refl _ _⟩
            case round =>
              obtain ⟨j, rfl, hj, hbq⟩ := hrel
              by_cases hjl : j < n1
              · have hx : j < xs.length := by rw [HL.out]; exact hjl
                obtain ⟨b, o, rfl, hbb, hc1⟩ := (HR4.out).at_ (i := j) (by rw [ints_length]; exact hx)
                obtain ⟨b', o', rfl, hbb', hc1'⟩ := (HRx.out).at_ (i := j) (by rw [ints_length]; exact hx)
                have hc2 : wr.cell? ⟨b, o + j, none⟩ = some (.int .i64 xs[j]) := by rw [hbq.cell hbb, hc1]; simp [ints]
                have hc2' : wr.cell? ⟨b', o' + j, none⟩ = some (.int .i64 xs[j]) := by rw [hbq.cell hbb', hc1']; simp [ints]
                have hj0 : (0 : Int) ≤ (j : Int) := by omega
                have hj1 : (j : Int) < (n1 : Int) := by omega
                clear hc1 hc1'
                go_wp2_with fail
                go_quiet (fail)
                go_wp2_with fail
                go_roundw
                case rel => exact ⟨j + 1, by go_num, by omega, drewN_below hbq _⟩
                case measure => simp [intOf]; omega
              · obtain rfl : j = n1 := by omega
                have B5 := B4.trans (hbq.mono hs4)
                obtain ⟨w5, rfl⟩ : ∃ w5 : World, w5 = wr := ⟨_, rfl⟩
                have HZ5 : Hid (IsRow .u8 w5 a' n' c' z') := isRow_below HZ'.out ⟨B5.os, B5.tape, B5.output, B5.size, B5.block⟩
                have hs5 := B5.size
                go_wp2_with fail
                refine (drawNumsRead a' n' c' z' w5 HZ5.out).mono ?_
                rintro e w6 ⟨T, rfl, hTs, hb6⟩
                have B6 := B5.trans (hb6.mono hs5)
                have hs6 := B6.size
                have hTs' : (T.size : Int) ≤ 1048576 := by omega
                go_wp2_with fail
                refine (implReads T w6 hTs').mono ?_
                intro e w7 hro
                obtain ⟨A2, n2, c2, rfl, hl2, hcc2, hm2, hb7, hn2⟩ := hro.form
                have B7 := B6.trans (hb7.mono hs6)
                have hs7 := B7.size
                have HR7 := Lib.hid hm2.row
                clear hro hm2
                have hTl : n2 ≤ 26 := by simp at hn2; omega
                clear hn2
                go_wp2_with fail
                refine (specReads T w7 hTs').mono ?_
                intro e w8 hro
                obtain ⟨A3, n3, c3, rfl, hl3, hcc3, hm3, hb8, hn3⟩ := hro.form
                have B8 := B7.trans (hb8.mono hs7)
                have hs8 := B8.size
                obtain rfl : n3 = n2 := by rw [← hl2, ← hl3]
                have HL2 : Hid ((got T.data.toList).length = n3) := hl2
                have HR8 := Lib.hid ((HR7.out.below hb8).more hb8.size)
                clear hro hm3 hl2 hl3 hn3
                cases hT : readAll T.data.toList with
                | none =>
                  clear hT
                  simp only [Option.isSome_none]
                  go_wp2_with fail
                  go_ret
                  exact ⟨rfl, B8⟩
                | some ys =>
                  have hg : got T.data.toList = ys := by unfold got; rw [hT]; rfl
                  have hsd := readAll_sound hT
                  have hTT : T.toList = numsText ys := by rw [ByteArray.toList_eq, numsText_of hsd.1, hsd.2]
                  rw [hg] at HR8 HL2
                  clear hT hg hsd
                  simp only [Option.isSome_some]
                  go_wp2_with fail
                  refine (implNumsText A2 c2 n3 ys w8 HR8.out HL2 (by omega)).mono ?_; rintro e w9 ⟨rfl, hb9⟩
                  go_wp2_with fail
                  go_ret
                  exact ⟨rfl, B8.trans (hb9.mono hs8)⟩
end Go.Proofs.Ytangjpfookkehaa
