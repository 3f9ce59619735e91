/- The walk of FnExactNumsRead. -/
import Derived.Test.YtangjpfookkehaaN7
namespace Go.Proofs.Ytangjpfookkehaa
open Go.RowKit Ilp
set_option linter.unusedVariables false

/-- What was read, or nothing. -/
def got (t : List UInt8) : List Int := (readAll t).getD []
theorem ReadOut.form {t : List UInt8} {w w' : World} {e : Ending} (h : ReadOut t w e w') :
    ∃ (A : Option Addr) (n c : Nat), e = .returned (.tuple #[.slice A n c, .bool (readAll t).isSome]) ∧ (got t).length = n ∧ n ≤ c ∧ Mine w' w.heap.size 3 A (ints (got t)) ∧ Below w.heap.size w w' ∧ n ≤ t.length := by
  unfold got
  rcases h with ⟨h1, rfl, hb⟩ | ⟨A, n, c, xs, h1, h2, rfl, h3, h4, h5, h6⟩
  · exact ⟨none, 0, 0, by rw [h1]; rfl, by rw [h1]; rfl, Nat.le_refl _, .inl (by rw [h1]; rfl), hb, Nat.zero_le _⟩
  · exact ⟨A, n, c, by rw [h1]; rfl, by rw [h1]; exact h2, h3, by rw [h1]; exact h4, h5, h6⟩

set_option maxHeartbeats 2000000 in
theorem law_FnExactNumsRead (s : ByteArray) (hs : s.size ≤ maxLen) (w : World) :
    Calls Try.prog 13 #[.string s] w fun e w' => e = .returned (.bool true) ∧ Below w.heap.size w w' := by
  unfold maxLen at hs
  by_cases hbig : (1048576 : Int) < (s.size : Int)
  · go_enter Try.func13, Try.ntmps13
    go_wp2
    go_ret
    exact ⟨rfl, Below.refl _ _⟩
  · have h1 : (s.size : Int) ≤ 1048576 := by omega
    clear hbig
    have hd : s.data.toList.length = s.size := by simp
    generalize hxs : got s.data.toList = xs
    generalize hbb : (readAll s.data.toList).isSome = bb
    have HXS := Lib.hid hxs
    have HBB := Lib.hid hbb
    have HD := Lib.hid hd
    clear hxs hbb hd
    go_enter Try.func13, Try.ntmps13
    go_wp2_with fail
    refine (specReads s w h1).mono ?_
    intro e w1 hro
    obtain ⟨A0, n, c0, rfl, hl0, hc0, hm0, hb1, hn0⟩ := hro.form
    rw [HXS.out] at hl0 hm0
    rw [HBB.out]
    rw [HD.out] at hn0
    have hs1 := hb1.size
    have HL : Hid (xs.length = n) := hl0
    have hn : (n : Int) ≤ 1048576 := by omega
    have R0 := Lib.hid hm0.row
    clear hl0 hro hm0
    go_wp2_with fail
    refine (implReads s w1 h1).mono ?_
    intro e w2 hro
    obtain ⟨A1, n1, c1, rfl, hl1, hc1, hm1, hb2, hn1⟩ := hro.form
    rw [HXS.out] at hl1 hm1
    rw [HBB.out]
    obtain rfl : n1 = n := by rw [← hl1]; exact HL.out
    have hs2 := hb2.size
    have B2 := hb1.trans (hb2.mono hs1)
    have M1 := Lib.hid hm1
    have R1 := Lib.hid hm1.row
    have R02 := Lib.hid ((R0.out.below hb2).more hs2)
    clear hl1 hro hm1
    go_wp2_with fail
    refine (eqIntS_same A1 A0 c1 c0 n1 xs w2 R1.out R02.out HL (by omega)).mono ?_; rintro e w3 ⟨rfl, hb3⟩
    have hs3 := hb3.size
    have B3 := B2.trans (hb3.mono B2.size)
    have M13 := Lib.hid (M1.out.below hb3)
    go_wp2_with fail
    refine (markIntS A1 n1 c1 w1.heap.size 1 xs w3 M13.out HL (by omega) (by omega) (by omega) (by omega)).mono ?_; rintro e w4 ⟨rfl, hm4, hb4, hz4⟩
    have hs4 := hb4.size
    have B4 := B3.trans (hb4.mono hs1)
    have M4 := Lib.hid hm4
    have R4 := Lib.hid hm4.row
    clear hm4 hz4
    go_wp2_with fail
    refine (heldIntS A1 n1 c1 1 w4 R4.out (by omega) (by omega) (by omega)).mono ?_; rintro e w5 ⟨rfl, rfl⟩
    go_wp2_with fail
    refine (implReads s w4 h1).mono ?_
    intro e w5 hro
    obtain ⟨A2, n2, c2, rfl, hl2, hc2, hm2, hb5, hn2⟩ := hro.form
    rw [HXS.out] at hl2 hm2
    rw [HBB.out]
    obtain rfl : n2 = n1 := by rw [← hl2]; exact HL.out
    have hs5 := hb5.size
    have B5 := B4.trans (hb5.mono (by omega))
    have R2 := Lib.hid hm2.row
    have R05 := Lib.hid ((((R0.out.below hb2).below (hb3.mono hs2)).below hb4).below (hb5.mono (by omega)) |>.more (by omega : w1.heap.size ≤ w5.heap.size))
    have R15 := Lib.hid ((R4.out.below hb5).more hs5)
    clear hl2 hro hm2
    go_wp2_with fail
    refine (eqIntS_same A2 A0 c2 c0 n2 xs w5 R2.out R05.out HL (by omega)).mono ?_; rintro e w6 ⟨rfl, hb6⟩
    have B6 := B5.trans (hb6.mono B5.size)
    have R16 := Lib.hid ((R15.out.below hb6).more hb6.size)
    go_wp2_with fail
    refine (heldIntS A1 n2 c1 1 w6 R16.out (by omega) (by omega) (by omega)).mono ?_; rintro e w7 ⟨rfl, rfl⟩
    go_wp2_with fail
    go_ret
    exact ⟨rfl, B6⟩
end Go.Proofs.Ytangjpfookkehaa
