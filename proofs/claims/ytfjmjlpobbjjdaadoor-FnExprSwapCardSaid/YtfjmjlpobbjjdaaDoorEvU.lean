/- Walks: ExprOf of both. -/
import Derived.Test.YtfjmjlpobbjjdaaDoorEvR
namespace Go.Proofs.YtfjmjlpobbjjdaaDoor
open Go.RowKit Ilp
set_option linter.unusedVariables false

theorem ofE_none {ns : List ByteArray} {xs : List Int} {t : Ex} (h : exprOk t = false) : ofE (lstL ns) xs t = none := by unfold ofE; rw [exOk_none h]
theorem ofE_len {ns : List ByteArray} {xs : List Int} {t : Ex} (h : ns.length ≠ xs.length) : ofE (lstL ns) xs t = none := by
  unfold ofE
  split
  · rw [if_neg]; rw [lstL_length]; exact h
  · rfl
theorem ofE_some {ns : List ByteArray} {xs : List Int} {t : Ex} {u : Tm} (hu : exTm t = some u) (hl : ns.length = xs.length) : ofE (lstL ns) xs t = u.of (lstL ns) xs := by
  unfold ofE
  rw [hu]; simp only
  rw [if_pos]; rw [lstL_length]; exact hl

set_option maxHeartbeats 4000000 in
set_option maxRecDepth 20000 in
theorem specExprOf (k n : Int) (g : ByteArray) (A : Option Addr) (l c : Nat) (t : Ex) (An : Option Addr) (nn cn : Nat) (ns : List ByteArray) (At : Option Addr) (mt ct : Nat) (xs : List Int) (W : World)
    (h : IsEV W [.int .i64 k, .int .i64 n, .string g, .slice A l c] t) (hw : wgt t ≤ 1048576) (hn : Row W W.heap.size An (strB ns)) (ht : Row W W.heap.size At (ints xs)) (ln : Hid (ns.length = nn)) (lt : Hid (xs.length = mt)) (hnn : (nn : Int) ≤ 1048576) (hmt : (mt : Int) ≤ 1048576) :
    Calls Tryd.prog 16 #[.agg #[.int .i64 k, .int .i64 n, .string g, .slice A l c], .slice An nn cn, .slice At mt ct] W (OfR (ofE (lstL ns) xs t) W) := by
  have S0 := Lib.hid (boxS_start h hn ht)
  have HO := Lib.hid (fun w h => specExprOk k n g A l c t w h hw)
  clear h hn ht
  cases hok : exprOk t with
  | false =>
    rw [ofE_none hok]
    rw [hok] at HO
    go_enter Tryd.func16, Tryd.ntmps16
    go_upto_region 1 with (fail)
    generalize W.alloc (.cells #[.int .i64 k, .int .i64 n, .string g, .slice A l c] 25) = w0 at *
    obtain ⟨a0, a1, a2, a3⟩ := blkE_cells S0.out.ba
    go_wp2_with fail
    refine (HO.out w0 S0.out.ka).mono ?_
    rintro e w1 ⟨rfl, hb1⟩
    have S1 := Lib.hid (S0.out.next hb1)
    have HB1 := Lib.hid S1.out.be
    clear hb1 a0 a1 a2 a3
    go_wp2_with fail
    go_ret2
    exact ⟨rfl, HB1.out⟩
  | true =>
    obtain ⟨u, hu, hu5⟩ := exOk_some hok
    rw [hok] at HO
    by_cases hnm : nn = mt
    · subst hnm
      have TY := Lib.hid (fun W h1 h2 => specOf 5 k n g A l c t u An nn cn ns At ct xs W h1 hu5 h2)
      rw [ofE_some hu (by have := ln.out; have := lt.out; omega)]
      clear hok
      generalize u.of (lstL ns) xs = R at *
      go_enter Tryd.func16, Tryd.ntmps16
      go_upto_region 1 with (fail)
      generalize W.alloc (.cells #[.int .i64 k, .int .i64 n, .string g, .slice A l c] 25) = w0 at *
      obtain ⟨a0, a1, a2, a3⟩ := blkE_cells S0.out.ba
      go_wp2_with fail
      refine (HO.out w0 S0.out.ka).mono ?_
      rintro e w1 ⟨rfl, hb1⟩
      have S1 := Lib.hid (S0.out.next hb1)
      have HB1 := Lib.hid S1.out.be
      clear hb1 a0 a1 a2 a3
      obtain ⟨a0, a1, a2, a3⟩ := blkE_cells S1.out.ba
      go_wp2_with fail
      refine (TY.out w1 S1.out.ka ⟨S1.out.rn, S1.out.rt, ln.out, by rw [ints_length]; exact lt.out, hnn⟩).mono ?_
      rintro e w2 ⟨rfl, hb2⟩
      have HB2 := Lib.hid (S1.out.next hb2).be
      clear hb2 a0 a1 a2 a3
      go_wp2_with fail
      go_ret2
      exact ⟨rfl, HB2.out⟩
    · rw [ofE_len (by have := ln.out; have := lt.out; omega)]
      have hnm2 : ((nn : Int) != (mt : Int)) = true := by rw [bne_iff_ne]; omega
      clear hnm hok
      go_enter Tryd.func16, Tryd.ntmps16
      go_upto_region 1 with (fail)
      generalize W.alloc (.cells #[.int .i64 k, .int .i64 n, .string g, .slice A l c] 25) = w0 at *
      obtain ⟨a0, a1, a2, a3⟩ := blkE_cells S0.out.ba
      go_wp2_with fail
      refine (HO.out w0 S0.out.ka).mono ?_
      rintro e w1 ⟨rfl, hb1⟩
      have S1 := Lib.hid (S0.out.next hb1)
      have HB1 := Lib.hid S1.out.be
      clear hb1 a0 a1 a2 a3
      go_wp2_with fail
      go_ret2
      exact ⟨rfl, HB1.out⟩

set_option maxHeartbeats 4000000 in
set_option maxRecDepth 20000 in
theorem implExprOf (k n : Int) (g : ByteArray) (A : Option Addr) (l c : Nat) (t : Ex) (An : Option Addr) (nn cn : Nat) (ns : List ByteArray) (At : Option Addr) (mt ct : Nat) (xs : List Int) (W : World)
    (h : IsEV W [.int .i64 k, .int .i64 n, .string g, .slice A l c] t) (hw : wgt t ≤ 1048576) (hn : Row W W.heap.size An (strB ns)) (ht : Row W W.heap.size At (ints xs)) (ln : Hid (ns.length = nn)) (lt : Hid (xs.length = mt)) (hnn : (nn : Int) ≤ 1048576) (hmt : (mt : Int) ≤ 1048576) (hT : Tabs W) :
    Calls Tryd.prog 15 #[.agg #[.int .i64 k, .int .i64 n, .string g, .slice A l c], .slice An nn cn, .slice At mt ct] W (OfR (ofE (lstL ns) xs t) W) := by
  have S0 := Lib.hid (boxS_start h hn ht)
  have HO := Lib.hid (fun w h hT => implExprOk k n g A l c t w h hw hT)
  have HT := Lib.hid hT
  clear h hn ht hT
  cases hok : exprOk t with
  | false =>
    rw [ofE_none hok]
    rw [hok] at HO
    go_enter Tryd.func15, Tryd.ntmps15
    go_upto_region 1 with (fail)
    generalize W.alloc (.cells #[.int .i64 k, .int .i64 n, .string g, .slice A l c] 25) = w0 at *
    obtain ⟨a0, a1, a2, a3⟩ := blkE_cells S0.out.ba
    go_wp2_with fail
    refine (HO.out w0 S0.out.ka (HT.out.keep S0.out.be)).mono ?_
    rintro e w1 ⟨rfl, hb1⟩
    have S1 := Lib.hid (S0.out.next hb1)
    have HB1 := Lib.hid S1.out.be
    clear hb1 a0 a1 a2 a3
    go_wp2_with fail
    go_ret2
    exact ⟨rfl, HB1.out⟩
  | true =>
    obtain ⟨u, hu, hu5⟩ := exOk_some hok
    rw [hok] at HO
    by_cases hnm : nn = mt
    · subst hnm
      have TY := Lib.hid (fun W h1 h2 => implOf 5 k n g A l c t u An nn cn ns At ct xs W h1 hu5 h2)
      rw [ofE_some hu (by have := ln.out; have := lt.out; omega)]
      clear hok
      generalize u.of (lstL ns) xs = R at *
      go_enter Tryd.func15, Tryd.ntmps15
      go_upto_region 1 with (fail)
      generalize W.alloc (.cells #[.int .i64 k, .int .i64 n, .string g, .slice A l c] 25) = w0 at *
      obtain ⟨a0, a1, a2, a3⟩ := blkE_cells S0.out.ba
      go_wp2_with fail
      refine (HO.out w0 S0.out.ka (HT.out.keep S0.out.be)).mono ?_
      rintro e w1 ⟨rfl, hb1⟩
      have S1 := Lib.hid (S0.out.next hb1)
      have HB1 := Lib.hid S1.out.be
      clear hb1 a0 a1 a2 a3
      obtain ⟨a0, a1, a2, a3⟩ := blkE_cells S1.out.ba
      go_wp2_with fail
      refine (TY.out w1 S1.out.ka ⟨S1.out.rn, S1.out.rt, ln.out, by rw [ints_length]; exact lt.out, hnn⟩).mono ?_
      rintro e w2 ⟨rfl, hb2⟩
      have HB2 := Lib.hid (S1.out.next hb2).be
      clear hb2 a0 a1 a2 a3
      go_wp2_with fail
      go_ret2
      exact ⟨rfl, HB2.out⟩
    · rw [ofE_len (by have := ln.out; have := lt.out; omega)]
      have hnm2 : ((nn : Int) != (mt : Int)) = true := by rw [bne_iff_ne]; omega
      clear hnm hok
      go_enter Tryd.func15, Tryd.ntmps15
      go_upto_region 1 with (fail)
      generalize W.alloc (.cells #[.int .i64 k, .int .i64 n, .string g, .slice A l c] 25) = w0 at *
      obtain ⟨a0, a1, a2, a3⟩ := blkE_cells S0.out.ba
      go_wp2_with fail
      refine (HO.out w0 S0.out.ka (HT.out.keep S0.out.be)).mono ?_
      rintro e w1 ⟨rfl, hb1⟩
      have S1 := Lib.hid (S0.out.next hb1)
      have HB1 := Lib.hid S1.out.be
      clear hb1 a0 a1 a2 a3
      go_wp2_with fail
      go_ret2
      exact ⟨rfl, HB1.out⟩
end Go.Proofs.YtfjmjlpobbjjdaaDoor
