/- The walk of FnExactNumText. -/
import Derived.Test.YtangjpfookkehaaN3
namespace Go.Proofs.Ytangjpfookkehaa
open Go.RowKit Ilp

theorem law_FnExactNumText (n : Int) (_ : (Lit.int .i64 n).wf = true) (w : World) : Calls Try.prog 5 #[.int .i64 n] w fun e w' => e = .returned (.bool true) ∧ Below w.heap.size w w' := by
  go_enter Try.func5, Try.ntmps5
  go_wp2_with (first
    | (go_at_call 17; refine (specNumText n _).mono ?_; rintro e w' ⟨rfl, rfl⟩)
    | (go_at_call 18; refine (implNumText n _).mono ?_; rintro e w' ⟨rfl, hb⟩))
  go_ret
  exact ⟨rfl, by assumption⟩
end Go.Proofs.Ytangjpfookkehaa
