/- Walks of the reference towards the words: l4Level, l12Dec. -/
import Derived.Test.YtfjmjlpobbjjdaaDoorEO
namespace Go.Proofs.YtfjmjlpobbjjdaaDoor
open Go.RowKit Ilp
set_option linter.unusedVariables false
set_option linter.unusedSimpArgs false

/-- How tight one holds. -/
def levE (u : Tm) : Nat := match u with
  | .two o _ _ => lev o
  | _ => 4
set_option maxHeartbeats 1000000 in
set_option maxRecDepth 20000 in
theorem specLevel (k n : Int) (g : ByteArray) (A : Option Addr) (l c d : Nat) (t : Ex) (u : Tm) (W : World) (h : IsEV W [.int .i64 k, .int .i64 n, .string g, .slice A l c] t) (hu : ofEx d t = some u) :
    Calls Tryd.prog 85 #[.agg #[.int .i64 k, .int .i64 n, .string g, .slice A l c]] W fun e w' => e = .returned (.int .i64 (levE u : Int)) ∧ Below W.heap.size W w' := by
  have hb0 : Below W.heap.size W (W.alloc (.cells #[.int .i64 k, .int .i64 n, .string g, .slice A l c] 25)) := by go_grown
  have HB := Lib.hid hb0
  have q1 := h.parts.1
  have q3 := h.parts.2.2.1
  clear hb0 h
  cases d with
  | zero => cases hu
  | succ d =>
    rcases ofEx_cases hu with ⟨hk1, z1, z2, z3, z4, rfl⟩ | ⟨hk1, z1, z2, rfl⟩ | ⟨hk1, z1, x, y, o, v1, v2, z2, z3, z4, rfl, hs⟩ | ⟨hk1, z1, x, b, v, z2, z3, rfl, z4⟩
    · rw [hk1] at q1; subst q1
      clear z1 z2 z3 z4
      clear hk1 hu q3
      go_enter Tryd.func85, Tryd.ntmps85
      go_wp2_with fail
      go_ret
      exact ⟨rfl, HB.out⟩
    · rw [hk1] at q1; subst q1
      clear z1 z2
      clear hk1 hu q3
      go_enter Tryd.func85, Tryd.ntmps85
      go_wp2_with fail
      go_ret
      exact ⟨rfl, HB.out⟩
    · rw [hk1] at q1; subst q1
      clear z1 z2 z3 z4
      obtain ⟨u1, u2, u3, u4⟩ := ops_is o
      rw [← hs, ← q3] at u1 u2 u3 u4
      clear hk1 hu q3 hs u1 u2
      cases o <;> (
        simp only [decide_true, reduceCtorEq, decide_false] at u3 u4
        go_enter Tryd.func85, Tryd.ntmps85
        go_wp2_with fail
        go_ret
        exact ⟨rfl, HB.out⟩)
    · rw [hk1] at q1; subst q1
      clear z1 z2 z3 z4
      clear hk1 hu q3
      go_enter Tryd.func85, Tryd.ntmps85
      go_wp2_with fail
      go_ret
      exact ⟨rfl, HB.out⟩
end Go.Proofs.YtfjmjlpobbjjdaaDoor
