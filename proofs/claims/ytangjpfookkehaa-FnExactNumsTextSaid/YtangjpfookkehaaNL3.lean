/- The walk of FnExactNumsText. -/
import Derived.Test.YtangjpfookkehaaN4
namespace Go.Proofs.Ytangjpfookkehaa
open Go.RowKit Ilp

set_option maxHeartbeats 1000000 in
theorem law_FnExactNumsText (a : Option Addr) (n c : Nat) (z : List Int) (w : World) (hz : IsRow .i64 w a n c z) :
    Calls Try.prog 8 #[.slice a n c] w fun e w' => e = .returned (.bool true) ∧ Below w.heap.size w w' := by
  obtain ⟨hr, hl, hnc, hn, hc, hw⟩ := hz.row
  generalize z.take n = xs at hr hl hw
  change Row w w.heap.size a (ints xs) at hr
  clear hz hw
  have HL : Hid (xs.length = n) := hl
  clear hl
  by_cases hbig : (1048576 : Int) < (n : Int)
  · go_enter Try.func8, Try.ntmps8
    go_wp2
    go_ret
    exact ⟨rfl, Below.refl _ _⟩
  · have hs : (n : Int) ≤ 1048576 := by omega
    clear hbig
    go_enter Try.func8, Try.ntmps8
    go_wp2_with fail
    refine (toIntS a c n xs w hr HL hs).mono ?_; rintro e w1 ⟨rfl, hb1, hw1⟩
    have hs1 := hw1.size
    have HB1 := Lib.hid hb1; clear hb1
    go_wp2_with fail
    refine (specNumsText _ n n xs w1 HB1.out.row HL hs).mono ?_; rintro e w2 ⟨rfl, rfl⟩
    go_wp2_with fail
    refine (toIntS a c n xs w1 ((hr.below hw1).more hs1) HL hs).mono ?_; rintro e w2 ⟨rfl, hb2, hw2⟩
    have hs2 := hw2.size
    have HB2 := Lib.hid hb2; clear hb2
    go_wp2_with fail
    refine (implNumsText _ n n xs w2 HB2.out.row HL hs).mono ?_; rintro e w3 ⟨rfl, hw3⟩
    have hs3 := hw3.size
    go_wp2_with fail
    have hA : Below w.heap.size w w3 := (hw1.trans (hw2.mono hs1)).trans (hw3.mono (by omega))
    refine (toIntS a c n xs w3 ((hr.below hA).more (by omega)) HL hs).mono ?_; rintro e w4 ⟨rfl, hb4, hw4⟩
    have hs4 := hw4.size
    have HB4 := Lib.hid hb4; clear hb4
    go_wp2_with fail
    have hB2 : Blk w4 w1.heap.size 3 (ints xs) := (HB2.out.below hw3 HB2.out.lt).below hw4 (by have := HB2.out.lt; omega)
    refine (eqIntS_same _ _ n n n xs w4 hB2.row HB4.out.row HL (by omega)).mono ?_; rintro e w5 ⟨rfl, hw5⟩
    go_wp2_with fail
    go_ret
    exact ⟨rfl, (hA.trans (hw4.mono (by omega))).trans (hw5.mono (by omega))⟩
end Go.Proofs.Ytangjpfookkehaa
