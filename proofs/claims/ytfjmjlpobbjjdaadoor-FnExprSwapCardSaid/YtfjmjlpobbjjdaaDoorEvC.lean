/- Walks: ExprType of both. -/
import Derived.Test.YtfjmjlpobbjjdaaDoorEvI
import Derived.Test.YtfjmjlpobbjjdaaDoorEvP
namespace Go.Proofs.YtfjmjlpobbjjdaaDoor
open Go.RowKit Ilp
set_option linter.unusedVariables false
set_option linter.unusedSimpArgs false

set_option maxRecDepth 20000 in
theorem cloType (s : ByteArray) (w : World) :
    Calls Tryd.prog 51 #[.string s] w fun e w' => e = .returned (.bool (!isType s.data.toList)) ∧ w = w' := by
  have HC := Lib.hid (implType s w)
  generalize isType s.data.toList = b at *
  go_enter Tryd.func51, Tryd.ntmps51
  go_wp2_with fail
  refine HC.out.mono ?_
  rintro e w1 ⟨rfl, rfl⟩
  go_wp2_with fail
  go_ret
  exact ⟨by simp, rfl⟩
def allTy (ts : List ByteArray) : Bool := (lstL ts).all isType
theorem allTy_drop {ts : List ByteArray} {j : Nat} (h : j < ts.length) : allTy (ts.drop j) = (isType ts[j].data.toList && allTy (ts.drop (j + 1))) := by
  unfold allTy lstL; rw [List.drop_eq_getElem_cons h, List.map_cons, List.all_cons]
set_option maxHeartbeats 1000000 in
set_option maxRecDepth 20000 in
theorem idxType (A : Option Addr) (n c : Nat) (ts : List ByteArray) (w : World) (hr : Row w w.heap.size A (strB ts)) (hl : Hid (ts.length = n)) (hn : (n : Int) ≤ 1048576) :
    Calls Tryd.prog 79 #[.slice A n c, .func (.func 51) #[] #[]] w fun e w' => ∃ r : Int, e = .returned (.int .i64 r) ∧ (!decide (0 ≤ r)) = allTy ts ∧ -1 ≤ r ∧ r ≤ 1048576 ∧ w = w' := by
  go_enter Tryd.func79, Tryd.ntmps79
  go_wp2_with fail
  go_loop [8] (fun v => ∃ j : Nat, v = .int .i64 (j : Int) ∧ j ≤ n ∧ Hid (allTy ts = allTy (ts.drop j))) (fun v => n - (intOf v).toNat)
  case atStart => exact ⟨0, rfl, Nat.zero_le _, rfl⟩
  case round =>
    obtain ⟨j, rfl, hj, he⟩ := hrel
    by_cases hlt : j < n
    · have hx : j < ts.length := by rw [hl.out]; exact hlt
      obtain ⟨b, o, rfl, hbb, hc⟩ := hr.at_ (i := j) (by rw [strB_length]; exact hx)
      have HD := Lib.hid (allTy_drop hx)
      obtain ⟨x, ex⟩ : ∃ x, x = ts[j] := ⟨_, rfl⟩
      have hc1 : w.cell? ⟨b, o + j, none⟩ = some (.string x) := by rw [hc, ex]; simp [strB]
      rw [← ex] at HD
      have HC := Lib.hid (cloType x w)
      have h0 : (0 : Int) ≤ (j : Int) := by omega
      have h1 : (j : Int) < (n : Int) := by omega
      clear hc ex hx
      generalize isType x.data.toList = bx at *
      cases bx with
      | true =>
        have HN : Hid (allTy ts = allTy (ts.drop (j + 1))) := by unfold Hid; rw [he.out, HD.out]; rfl
        go_wp2_with fail
        refine HC.out.mono ?_
        rintro e w1 ⟨rfl, rfl⟩
        go_wp2_with fail
        go_round
        case rel => exact ⟨j + 1, by go_num, by omega, HN⟩
        case measure => simp [intOf]; omega
      | false =>
        have HN : Hid (allTy ts = false) := by unfold Hid; rw [he.out, HD.out]; rfl
        go_wp2_with fail
        refine HC.out.mono ?_
        rintro e w1 ⟨rfl, rfl⟩
        go_wp2_with fail
        go_ret
        exact ⟨_, rfl, by rw [HN.out]; simp, by omega, by omega, rfl⟩
    · obtain rfl : j = n := by omega
      have HN : Hid (allTy ts = true) := by unfold Hid; rw [he.out, List.drop_eq_nil_of_le (by have := hl.out; omega)]; rfl
      go_wp2_with fail
      go_ret
      exact ⟨_, rfl, by rw [HN.out]; rfl, by omega, by omega, rfl⟩
set_option maxRecDepth 20000 in
theorem conType (A : Option Addr) (n c : Nat) (ts : List ByteArray) (w : World) (hr : Row w w.heap.size A (strB ts)) (hl : Hid (ts.length = n)) (hn : (n : Int) ≤ 1048576) :
    Calls Tryd.prog 50 #[.slice A n c, .func (.func 51) #[] #[]] w fun e w' => e = .returned (.bool (!allTy ts)) ∧ w = w' := by
  have HC := Lib.hid (idxType A n c ts w hr hl hn)
  clear hr
  go_enter Tryd.func50, Tryd.ntmps50
  go_wp2_with fail
  refine HC.out.mono ?_
  rintro e w1 ⟨r, rfl, hr1, hr2, hr3, rfl⟩
  have HR : Hid (decide (0 ≤ r) = !allTy ts) := by unfold Hid; rw [← hr1]; simp
  clear hr1
  go_wp2_with fail
  go_ret
  exact ⟨by rw [← HR.out]; rfl, rfl⟩

theorem tyE_none {ns ts : List ByteArray} {t : Ex} (h : exprOk t = false) : tyE (lstL ns) (lstL ts) t = [] := by unfold tyE; rw [exOk_none h]
theorem tyE_len {ns ts : List ByteArray} {t : Ex} (h : ns.length ≠ ts.length) : tyE (lstL ns) (lstL ts) t = [] := by
  unfold tyE
  split
  · rw [if_neg]; rw [lstL_length, lstL_length]; exact fun e => h e.1
  · rfl
theorem tyE_bad {ns ts : List ByteArray} {t : Ex} (h : allTy ts = false) : tyE (lstL ns) (lstL ts) t = [] := by
  unfold tyE
  split
  · rw [if_neg]; unfold allTy at h; rw [h]; simp
  · rfl
theorem tyE_some {ns ts : List ByteArray} {t : Ex} {u : Tm} (hu : exTm t = some u) (hl : ns.length = ts.length) (h : allTy ts = true) : tyE (lstL ns) (lstL ts) t = u.type (lstL ns) (lstL ts) := by
  unfold tyE
  rw [hu]; simp only
  rw [if_pos]; rw [lstL_length, lstL_length]; exact ⟨hl, h⟩
/-- Its box; names, and what goes with each. -/
structure BoxS (W0 : World) (k n : Int) (g : ByteArray) (A : Option Addr) (l c : Nat) (t : Ex) (An : Option Addr) (ns : List ByteArray) (At : Option Addr) (vs : List Value) (W : World) : Prop where
  ba : Blk W W0.heap.size 25 [.int .i64 k, .int .i64 n, .string g, .slice A l c]
  ka : IsEV W [.int .i64 k, .int .i64 n, .string g, .slice A l c] t
  rn : Row W W.heap.size An (strB ns)
  rt : Row W W.heap.size At vs
  be : Below W0.heap.size W0 W
section
variable {W0 : World} {k n : Int} {g : ByteArray} {A : Option Addr} {l c : Nat} {t : Ex} {An : Option Addr} {ns : List ByteArray} {At : Option Addr} {vs : List Value} {W W' : World}
theorem BoxS.next (h : BoxS W0 k n g A l c t An ns At vs W) (hb : Below W.heap.size W W') : BoxS W0 k n g A l c t An ns At vs W' :=
  ⟨h.ba.below hb h.ba.lt, h.ka.below hb, (h.rn.below hb).more hb.size, (h.rt.below hb).more hb.size, h.be.trans (hb.mono h.be.size)⟩
theorem boxS_start {W : World} (h : IsEV W [.int .i64 k, .int .i64 n, .string g, .slice A l c] t) (hn : Row W W.heap.size An (strB ns)) (ht : Row W W.heap.size At vs) : BoxS W k n g A l c t An ns At vs (W.alloc (.cells #[.int .i64 k, .int .i64 n, .string g, .slice A l c] 25)) := by
  have hb0 : Below W.heap.size W (W.alloc (.cells #[.int .i64 k, .int .i64 n, .string g, .slice A l c] 25)) := by go_grown
  exact ⟨Blk.alloc_ W _ [.int .i64 k, .int .i64 n, .string g, .slice A l c], h.below hb0, (hn.below hb0).more hb0.size, (ht.below hb0).more hb0.size, hb0⟩
end

set_option maxHeartbeats 4000000 in
set_option maxRecDepth 20000 in
theorem specExprType (k n : Int) (g : ByteArray) (A : Option Addr) (l c : Nat) (t : Ex) (An : Option Addr) (nn cn : Nat) (ns : List ByteArray) (At : Option Addr) (mt ct : Nat) (ts : List ByteArray) (W : World)
    (h : IsEV W [.int .i64 k, .int .i64 n, .string g, .slice A l c] t) (hw : wgt t ≤ 1048576) (hn : Row W W.heap.size An (strB ns)) (ht : Row W W.heap.size At (strB ts)) (ln : Hid (ns.length = nn)) (lt : Hid (ts.length = mt)) (hnn : (nn : Int) ≤ 1048576) (hmt : (mt : Int) ≤ 1048576) :
    Calls Tryd.prog 36 #[.agg #[.int .i64 k, .int .i64 n, .string g, .slice A l c], .slice An nn cn, .slice At mt ct] W fun e w' => e = .returned (.string (mkB (tyE (lstL ns) (lstL ts) t))) ∧ Below W.heap.size W w' := by
  have S0 := Lib.hid (boxS_start h hn ht)
  have HO := Lib.hid (fun w h => specExprOk k n g A l c t w h hw)
  clear h hn ht
  cases hok : exprOk t with
  | false =>
    rw [tyE_none hok]
    rw [hok] at HO
    go_enter Tryd.func36, Tryd.ntmps36
    go_upto_region 1 with (fail)
    generalize W.alloc (.cells #[.int .i64 k, .int .i64 n, .string g, .slice A l c] 25) = w0 at *
    obtain ⟨a0, a1, a2, a3⟩ := blkE_cells S0.out.ba
    go_wp2_with fail
    refine (HO.out w0 S0.out.ka).mono ?_
    rintro e w1 ⟨rfl, hb1⟩
    have HB1 := Lib.hid (S0.out.next hb1).be
    clear hb1 a0 a1 a2 a3
    go_wp2_with fail
    go_ret
    exact ⟨rfl, HB1.out⟩
  | true =>
    obtain ⟨u, hu, hu5⟩ := exOk_some hok
    rw [hok] at HO
    by_cases hnm : nn = mt
    · subst hnm
      have TY := Lib.hid (fun W h1 h2 => specTypeOf 5 k n g A l c t u An nn cn ns At ct ts W h1 hu5 h2)
      cases hat : allTy ts with
      | false =>
        have HAT := Lib.hid hat
        rw [tyE_bad hat]
        clear hat hok
        go_enter Tryd.func36, Tryd.ntmps36
        go_upto_region 1 with (fail)
        generalize W.alloc (.cells #[.int .i64 k, .int .i64 n, .string g, .slice A l c] 25) = w0 at *
        obtain ⟨a0, a1, a2, a3⟩ := blkE_cells S0.out.ba
        go_wp2_with fail
        refine (HO.out w0 S0.out.ka).mono ?_
        rintro e w1 ⟨rfl, hb1⟩
        have S1 := Lib.hid (S0.out.next hb1)
        clear hb1 a0 a1 a2 a3
        go_wp2_with fail
        go_loop [7] (fun v => ∃ j : Nat, v = .int .i64 (j : Int) ∧ j ≤ nn ∧ Hid (allTy ts = allTy (ts.drop j))) (fun v => nn - (intOf v).toNat)
        case atStart => exact ⟨0, rfl, Nat.zero_le _, rfl⟩
        case round =>
          obtain ⟨j, rfl, hj, he⟩ := hrel
          by_cases hlt : j < nn
          · have hx : j < ts.length := by rw [lt.out]; exact hlt
            obtain ⟨b, o, rfl, hbb, hc⟩ := S1.out.rt.at_ (i := j) (by rw [strB_length]; exact hx)
            have HD := Lib.hid (allTy_drop hx)
            obtain ⟨x, ex⟩ : ∃ x, x = ts[j] := ⟨_, rfl⟩
            have hc1 : w1.cell? ⟨b, o + j, none⟩ = some (.string x) := by rw [hc, ex]; simp [strB]
            rw [← ex] at HD
            have HC := Lib.hid (specType x w1)
            have HB1 := Lib.hid S1.out.be
            have h0 : (0 : Int) ≤ (j : Int) := by omega
            have h1 : (j : Int) < (nn : Int) := by omega
            clear hc ex hx
            generalize isType x.data.toList = bx at *
            cases bx with
            | true =>
              have HN : Hid (allTy ts = allTy (ts.drop (j + 1))) := by unfold Hid; rw [he.out, HD.out]; rfl
              go_wp2_with fail
              refine HC.out.mono ?_
              rintro e w2 ⟨rfl, rfl⟩
              go_wp2_with fail
              go_round
              case rel => exact ⟨j + 1, by go_num, by omega, HN⟩
              case measure => simp [intOf]; omega
            | false =>
              go_wp2_with fail
              refine HC.out.mono ?_
              rintro e w2 ⟨rfl, rfl⟩
              go_wp2_with fail
              go_ret
              exact ⟨rfl, HB1.out⟩
          · obtain rfl : j = nn := by omega
            have := he.out
            rw [HAT.out, List.drop_eq_nil_of_le (by have := lt.out; omega)] at this
            cases this
      | true =>
        have HAT := Lib.hid hat
        rw [tyE_some hu (by have := ln.out; have := lt.out; omega) hat]
        clear hat hok
        generalize mkB (u.type (lstL ns) (lstL ts)) = R at *
        go_enter Tryd.func36, Tryd.ntmps36
        go_upto_region 1 with (fail)
        generalize W.alloc (.cells #[.int .i64 k, .int .i64 n, .string g, .slice A l c] 25) = w0 at *
        obtain ⟨a0, a1, a2, a3⟩ := blkE_cells S0.out.ba
        go_wp2_with fail
        refine (HO.out w0 S0.out.ka).mono ?_
        rintro e w1 ⟨rfl, hb1⟩
        have S1 := Lib.hid (S0.out.next hb1)
        clear hb1 a0 a1 a2 a3
        go_wp2_with fail
        go_loop [7] (fun v => ∃ j : Nat, v = .int .i64 (j : Int) ∧ j ≤ nn ∧ Hid (allTy ts = allTy (ts.drop j))) (fun v => nn - (intOf v).toNat)
        case atStart => exact ⟨0, rfl, Nat.zero_le _, rfl⟩
        case round =>
          obtain ⟨j, rfl, hj, he⟩ := hrel
          by_cases hlt : j < nn
          · have hx : j < ts.length := by rw [lt.out]; exact hlt
            obtain ⟨b, o, rfl, hbb, hc⟩ := S1.out.rt.at_ (i := j) (by rw [strB_length]; exact hx)
            have HD := Lib.hid (allTy_drop hx)
            obtain ⟨x, ex⟩ : ∃ x, x = ts[j] := ⟨_, rfl⟩
            have hc1 : w1.cell? ⟨b, o + j, none⟩ = some (.string x) := by rw [hc, ex]; simp [strB]
            rw [← ex] at HD
            have HC := Lib.hid (specType x w1)
            have h0 : (0 : Int) ≤ (j : Int) := by omega
            have h1 : (j : Int) < (nn : Int) := by omega
            clear hc ex hx
            have hbx : isType x.data.toList = true ∧ Hid (allTy ts = allTy (ts.drop (j + 1))) := by
              have h2 := he.out
              rw [HAT.out, HD.out] at h2
              have h3 := (Bool.and_eq_true _ _).mp h2.symm
              exact ⟨h3.1, by unfold Hid; rw [HAT.out, h3.2]⟩
            obtain ⟨hbx, HN⟩ := hbx
            rw [hbx] at HC
            clear hbx
            go_wp2_with fail
            refine HC.out.mono ?_
            rintro e w2 ⟨rfl, rfl⟩
            go_wp2_with fail
            go_round
            case rel => exact ⟨j + 1, by go_num, by omega, HN⟩
            case measure => simp [intOf]; omega
          · obtain rfl : j = nn := by omega
            obtain ⟨a0, a1, a2, a3⟩ := blkE_cells S1.out.ba
            go_wp2_with fail
            refine (TY.out w1 S1.out.ka ⟨S1.out.rn, S1.out.rt, ln.out, by rw [strB_length]; exact lt.out, hnn⟩).mono ?_
            rintro e w2 ⟨rfl, hb2⟩
            have HB2 := Lib.hid (S1.out.next hb2).be
            clear hb2 a0 a1 a2 a3
            go_wp2_with fail
            go_ret
            exact ⟨rfl, HB2.out⟩
    · rw [tyE_len (by have := ln.out; have := lt.out; omega)]
      have hnm2 : ((nn : Int) != (mt : Int)) = true := by rw [bne_iff_ne]; omega
      clear hnm hok
      go_enter Tryd.func36, Tryd.ntmps36
      go_upto_region 1 with (fail)
      generalize W.alloc (.cells #[.int .i64 k, .int .i64 n, .string g, .slice A l c] 25) = w0 at *
      obtain ⟨a0, a1, a2, a3⟩ := blkE_cells S0.out.ba
      go_wp2_with fail
      refine (HO.out w0 S0.out.ka).mono ?_
      rintro e w1 ⟨rfl, hb1⟩
      have HB1 := Lib.hid (S0.out.next hb1).be
      clear hb1 a0 a1 a2 a3
      go_wp2_with fail
      go_ret
      exact ⟨rfl, HB1.out⟩
end Go.Proofs.YtfjmjlpobbjjdaaDoor
