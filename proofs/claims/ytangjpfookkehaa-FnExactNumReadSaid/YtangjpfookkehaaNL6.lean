/- The walk of FnExactNumRead. -/
import Derived.Test.YtangjpfookkehaaN6
namespace Go.Proofs.Ytangjpfookkehaa
open Go.RowKit Ilp

set_option maxHeartbeats 1000000 in
theorem law_FnExactNumRead (s : ByteArray) (a : Int) (hs : s.size ≤ maxLen) (_ : (Lit.int .i64 a).wf = true) (w : World) :
    Calls Try.prog 10 #[.string s, .int .i64 a] w fun e w' => e = .returned (.bool true) ∧ Below w.heap.size w w' := by
  unfold maxLen at hs
  by_cases hbig : (1048576 : Int) < (s.size : Int)
  · go_enter Try.func10, Try.ntmps10
    go_wp2
    go_ret
    exact ⟨rfl, Below.refl _ _⟩
  · have h1 : (s.size : Int) ≤ 4611686018427387904 := by omega
    go_enter Try.func10, Try.ntmps10
    go_wp2_with fail
    refine (specRead s a w h1).mono ?_; rintro e w1 ⟨rfl, hb1⟩
    have hs1 := hb1.size
    unfold readV
    obtain ⟨q, hq⟩ : ∃ q, q = readAt s.data.toList a := ⟨_, rfl⟩
    rw [← hq]
    have HQ := Lib.hid hq; clear hq
    go_wp2_with fail
    refine (implRead s a w1 h1).mono ?_; rintro e w2 ⟨rfl, hb2⟩
    unfold readV
    rw [← HQ.out]
    go_wp2_with fail
    go_ret
    exact ⟨rfl, hb1.trans (hb2.mono hs1)⟩
end Go.Proofs.Ytangjpfookkehaa
