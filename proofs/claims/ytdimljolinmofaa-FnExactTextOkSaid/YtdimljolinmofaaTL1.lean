/- The walk of FnExactTextOk. -/
import Derived.Test.YtdimljolinmofaaT1
namespace Go.Proofs.Ytdimljolinmofaa
open Go.RowKit Ilp

theorem law_FnExactTextOk (s : ByteArray) (hs : s.size ≤ maxLen) (w : World) :
    Calls Try.prog 3 #[.string s] w fun e w' => e = .returned (.bool true) ∧ Below w.heap.size w w' := by
  unfold maxLen at hs
  by_cases hbig : (1048576 : Int) < (s.size : Int)
  · go_enter Try.func3, Try.ntmps3
    go_wp2
    go_ret
    exact ⟨rfl, Below.refl _ _⟩
  · have h1 : (s.size : Int) ≤ 4611686018427387904 := by omega
    go_enter Try.func3, Try.ntmps3
    go_wp2_with fail
    refine (specTextOk s w h1).mono ?_; rintro e w1 ⟨rfl, rfl⟩
    go_wp2_with fail
    refine (implTextOk s w h1).mono ?_; rintro e w1 ⟨rfl, rfl⟩
    go_wp2_with fail
    go_ret
    exact ⟨rfl, Below.refl _ _⟩
end Go.Proofs.Ytdimljolinmofaa
