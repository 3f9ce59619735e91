/- Walks: what PosLess returns; toPos. -/
import Derived.Test.YtdimljolinmofaaDoorGround
import Derived.Lib.QuietBelow
import Derived.BigQuiet
import Derived.Deep.QuietTactic
import Derived.Handy
namespace Go.Proofs.YtdimljolinmofaaDoor
open Go.RowKit
set_option linter.unusedVariables false

/-- The first place is ahead of the second. -/
def posLt (a b c d : Int) : Bool := decide (a < c) || (decide (a = c) && decide (b < d))
theorem posLt_t1 {a b c d : Int} (h : a < c) : posLt a b c d = true := by simp [posLt, h]
theorem posLt_t2 {a b c d : Int} (h : a = c) (h' : b < d) : posLt a b c d = true := by simp [posLt, h, h']
theorem posLt_f1 {a b c d : Int} (h : c < a) : posLt a b c d = false := by simp [posLt]; omega
theorem posLt_f2 {a b c d : Int} (h : a = c) (h' : ¬ b < d) : posLt a b c d = false := by simp [posLt]; omega

def Lessed (a b c d : Int) (w : World) (e : Ending) (w' : World) : Prop := e = .returned (.bool (posLt a b c d)) ∧ Below w.heap.size w w'

set_option maxHeartbeats 2000000 in
theorem implPosLess (a b c d : Int) (w : World) :
    Calls Tryd.prog 12 #[.agg #[.int .i64 a, .int .i64 b], .agg #[.int .i64 c, .int .i64 d]] w (Lessed a b c d w) := by
  have hW : Below w.heap.size w ((w.alloc (.cells #[.int .i64 a, .int .i64 b] 24)).alloc (.cells #[.int .i64 c, .int .i64 d] 24)) := ((Below.refl _ _).alloc (Nat.le_refl _) _).alloc (by simp) _
  by_cases h1 : a < c
  · have R : Lessed a b c d w (.returned (.bool true)) _ := ⟨by rw [posLt_t1 h1], hW⟩
    have HR := Lib.hid R; clear R hW
    go_enter Tryd.func12, Tryd.ntmps12
    go_wp2_with fail
    go_ret
    exact HR.out
  · by_cases h2 : a = c
    · by_cases h3 : b < d
      · have R : Lessed a b c d w (.returned (.bool true)) _ := ⟨by rw [posLt_t2 h2 h3], hW⟩
        have HR := Lib.hid R; clear R hW
        subst h2
        go_enter Tryd.func12, Tryd.ntmps12
        go_wp2_with fail
        go_ret
        exact HR.out
      · have R : Lessed a b c d w (.returned (.bool false)) _ := ⟨by rw [posLt_f2 h2 h3], hW⟩
        have HR := Lib.hid R; clear R hW
        subst h2
        go_enter Tryd.func12, Tryd.ntmps12
        go_wp2_with fail
        go_ret
        exact HR.out
    · have R : Lessed a b c d w (.returned (.bool false)) _ := ⟨by rw [posLt_f1 (by omega)], hW⟩
      have HR := Lib.hid R; clear R hW
      have hb : (a == c) = false := by simp [h2]
      clear h2
      go_enter Tryd.func12, Tryd.ntmps12
      go_wp2_with fail
      go_ret
      exact HR.out

set_option maxHeartbeats 2000000 in
theorem specPosLess (a b c d : Int) (w : World) :
    Calls Tryd.prog 13 #[.agg #[.int .i64 a, .int .i64 b], .agg #[.int .i64 c, .int .i64 d]] w (Lessed a b c d w) := by
  have hW : Below w.heap.size w ((w.alloc (.cells #[.int .i64 a, .int .i64 b] 24)).alloc (.cells #[.int .i64 c, .int .i64 d] 24)) := ((Below.refl _ _).alloc (Nat.le_refl _) _).alloc (by simp) _
  by_cases h1 : a < c
  · have R : Lessed a b c d w (.returned (.bool true)) _ := ⟨by rw [posLt_t1 h1], hW⟩
    have HR := Lib.hid R; clear R hW
    go_enter Tryd.func13, Tryd.ntmps13
    go_wp2_with fail
    go_ret
    exact HR.out
  · by_cases h2 : a = c
    · by_cases h3 : b < d
      · have R : Lessed a b c d w (.returned (.bool true)) _ := ⟨by rw [posLt_t2 h2 h3], hW⟩
        have HR := Lib.hid R; clear R hW
        subst h2
        go_enter Tryd.func13, Tryd.ntmps13
        go_wp2_with fail
        go_ret
        exact HR.out
      · have R : Lessed a b c d w (.returned (.bool false)) _ := ⟨by rw [posLt_f2 h2 h3], hW⟩
        have HR := Lib.hid R; clear R hW
        subst h2
        go_enter Tryd.func13, Tryd.ntmps13
        go_wp2_with fail
        go_ret
        exact HR.out
    · have R : Lessed a b c d w (.returned (.bool false)) _ := ⟨by rw [posLt_f1 (by omega)], hW⟩
      have HR := Lib.hid R; clear R hW
      have hb : (a == c) = false := by simp [h2]
      clear h2
      go_enter Tryd.func13, Tryd.ntmps13
      go_wp2_with fail
      go_ret
      exact HR.out

set_option maxHeartbeats 1000000 in
theorem toPos (a b : Int) (w : World) :
    Calls Tryd.prog 16 #[.agg #[.int .i64 a, .int .i64 b]] w fun e w' => e = .returned (.agg #[.int .i64 a, .int .i64 b]) ∧ Below w.heap.size w w' := by
  go_enter Tryd.func16, Tryd.ntmps16
  go_wp2_with fail
  go_returns
  exact ⟨rfl, by go_grown⟩

end Go.Proofs.YtdimljolinmofaaDoor
