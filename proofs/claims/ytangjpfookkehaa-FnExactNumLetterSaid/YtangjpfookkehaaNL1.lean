/- The walk of FnExactNumLetter. -/
import Derived.Test.YtangjpfookkehaaN1
namespace Go.Proofs.Ytangjpfookkehaa
open Go.RowKit Ilp

theorem law_FnExactNumLetter (d : Int) (wd : (Lit.int .i64 d).wf = true) (w : World) : Calls Try.prog 4 #[.int .i64 d] w fun e w' => e = .returned (.bool true) ∧ Below w.heap.size w w' := by
  have hd := wf_i64 wd
  have he : ((numLetter d) != numLetter d) = false := by simp
  go_enter Try.func4, Try.ntmps4
  go_wp2_with (first
    | (go_at_call 15; refine (specLetter d _ hd.1 hd.2).mono ?_; rintro e w' ⟨rfl, rfl⟩)
    | (go_at_call 16; refine (implLetter d _ hd.1 hd.2).mono ?_; rintro e w' ⟨rfl, rfl⟩))
  go_ret
  exact ⟨rfl, Below.refl _ _⟩
end Go.Proofs.Ytangjpfookkehaa
