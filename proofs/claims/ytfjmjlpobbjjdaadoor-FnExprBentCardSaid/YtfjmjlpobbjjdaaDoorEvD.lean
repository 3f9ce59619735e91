/- Walks: ExprType of the program. -/
import Derived.Test.YtfjmjlpobbjjdaaDoorEvC
namespace Go.Proofs.YtfjmjlpobbjjdaaDoor
open Go.RowKit Ilp
set_option linter.unusedVariables false

set_option maxHeartbeats 4000000 in
set_option maxRecDepth 20000 in
theorem implExprType (k n : Int) (g : ByteArray) (A : Option Addr) (l c : Nat) (t : Ex) (An : Option Addr) (nn cn : Nat) (ns : List ByteArray) (At : Option Addr) (mt ct : Nat) (ts : List ByteArray) (W : World)
    (h : IsEV W [.int .i64 k, .int .i64 n, .string g, .slice A l c] t) (hw : wgt t ≤ 1048576) (hn : Row W W.heap.size An (strB ns)) (ht : Row W W.heap.size At (strB ts)) (ln : Hid (ns.length = nn)) (lt : Hid (ts.length = mt)) (hnn : (nn : Int) ≤ 1048576) (hmt : (mt : Int) ≤ 1048576) (hT : Tabs W) :
    Calls Tryd.prog 17 #[.agg #[.int .i64 k, .int .i64 n, .string g, .slice A l c], .slice An nn cn, .slice At mt ct] W fun e w' => e = .returned (.string (mkB (tyE (lstL ns) (lstL ts) t))) ∧ Below W.heap.size W w' := by
  have S0 := Lib.hid (boxS_start h hn ht)
  have HO := Lib.hid (fun w h hT => implExprOk k n g A l c t w h hw hT)
  have HT := Lib.hid hT
  clear h hn ht hT
  cases hok : exprOk t with
  | false =>
    rw [tyE_none hok]
    rw [hok] at HO
    go_enter Tryd.func17, Tryd.ntmps17
    go_upto_region 1 with (fail)
    generalize W.alloc (.cells #[.int .i64 k, .int .i64 n, .string g, .slice A l c] 25) = w0 at *
    obtain ⟨a0, a1, a2, a3⟩ := blkE_cells S0.out.ba
    go_wp2_with fail
    refine (HO.out w0 S0.out.ka (HT.out.keep S0.out.be)).mono ?_
    rintro e w1 ⟨rfl, hb1⟩
    have S1 := Lib.hid (S0.out.next hb1)
    have HB1 := Lib.hid S1.out.be
    clear hb1 a0 a1 a2 a3
    go_wp2_with fail
    go_ret
    exact ⟨rfl, HB1.out⟩
  | true =>
    obtain ⟨u, hu, hu5⟩ := exOk_some hok
    rw [hok] at HO
    by_cases hnm : nn = mt
    · subst hnm
      have TY := Lib.hid (fun W h1 h2 => implTyped 5 k n g A l c t u An nn cn ns At ct ts W h1 hu5 h2)
      have CO := Lib.hid (fun W hr => conType At nn ct ts W hr lt hnn)
      cases hat : allTy ts with
      | false =>
        rw [tyE_bad hat]
        rw [hat] at CO
        clear hat hok
        go_enter Tryd.func17, Tryd.ntmps17
        go_upto_region 1 with (fail)
        generalize W.alloc (.cells #[.int .i64 k, .int .i64 n, .string g, .slice A l c] 25) = w0 at *
        obtain ⟨a0, a1, a2, a3⟩ := blkE_cells S0.out.ba
        go_wp2_with fail
        refine (HO.out w0 S0.out.ka (HT.out.keep S0.out.be)).mono ?_
        rintro e w1 ⟨rfl, hb1⟩
        have S1 := Lib.hid (S0.out.next hb1)
        have HB1 := Lib.hid S1.out.be
        clear hb1 a0 a1 a2 a3
        go_wp2_with fail
        refine (CO.out w1 S1.out.rt).mono ?_
        rintro e w2 ⟨rfl, rfl⟩
        go_wp2_with fail
        go_ret
        exact ⟨rfl, HB1.out⟩
      | true =>
        rw [tyE_some hu (by have := ln.out; have := lt.out; omega) hat]
        rw [hat] at CO
        clear hat hok
        generalize mkB (u.type (lstL ns) (lstL ts)) = R at *
        go_enter Tryd.func17, Tryd.ntmps17
        go_upto_region 1 with (fail)
        generalize W.alloc (.cells #[.int .i64 k, .int .i64 n, .string g, .slice A l c] 25) = w0 at *
        obtain ⟨a0, a1, a2, a3⟩ := blkE_cells S0.out.ba
        go_wp2_with fail
        refine (HO.out w0 S0.out.ka (HT.out.keep S0.out.be)).mono ?_
        rintro e w1 ⟨rfl, hb1⟩
        have S1 := Lib.hid (S0.out.next hb1)
        have HB1 := Lib.hid S1.out.be
        clear hb1 a0 a1 a2 a3
        go_wp2_with fail
        refine (CO.out w1 S1.out.rt).mono ?_
        rintro e w2 ⟨rfl, rfl⟩
        obtain ⟨a0, a1, a2, a3⟩ := blkE_cells S1.out.ba
        go_wp2_with fail
        refine (TY.out w1 S1.out.ka ⟨S1.out.rn, S1.out.rt, ln.out, by rw [strB_length]; exact lt.out, hnn⟩).mono ?_
        rintro e w2 ⟨rfl, hb2⟩
        have HB2 := Lib.hid (S1.out.next hb2).be
        clear hb2 a0 a1 a2 a3
        go_wp2_with fail
        go_ret
        exact ⟨rfl, HB2.out⟩
    · rw [tyE_len (by have := ln.out; have := lt.out; omega)]
      have hnm2 : ((nn : Int) != (mt : Int)) = true := by rw [bne_iff_ne]; omega
      clear hnm hok
      go_enter Tryd.func17, Tryd.ntmps17
      go_upto_region 1 with (fail)
      generalize W.alloc (.cells #[.int .i64 k, .int .i64 n, .string g, .slice A l c] 25) = w0 at *
      obtain ⟨a0, a1, a2, a3⟩ := blkE_cells S0.out.ba
      go_wp2_with fail
      refine (HO.out w0 S0.out.ka (HT.out.keep S0.out.be)).mono ?_
      rintro e w1 ⟨rfl, hb1⟩
      have S1 := Lib.hid (S0.out.next hb1)
      have HB1 := Lib.hid S1.out.be
      clear hb1 a0 a1 a2 a3
      go_wp2_with fail
      go_ret
      exact ⟨rfl, HB1.out⟩
end Go.Proofs.YtfjmjlpobbjjdaaDoor
