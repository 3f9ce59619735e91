/- Walks: what PosLess returns; toPos. -/
import Derived.Test.YtlhmebdljamgkaaGround
import Derived.Lib.QuietBelow
import Derived.BigQuiet
import Derived.Deep.QuietTactic
import Derived.Handy
namespace Go.Proofs.Ytlhmebdljamgkaa
open Go.RowKit
set_option linter.unusedVariables false

/-- The first place is ahead of the second. -/
def posLt (a b c d : Int) : Bool := decide (a < c) || (decide (a = c) && decide (b < d))
theorem posLt_t1 {a b c d : Int} (h : a < c) : posLt a b c d = true := by simp [posLt, h]
theorem posLt_t2 {a b c d : Int} (h : a = c) (h' : b < d) : posLt a b c d = true := by simp [posLt, h, h']
theorem posLt_f1 {a b c d : Int} (h : c < a) : posLt a b c d = false := by simp [posLt]; omega
theorem posLt_f2 {a b c d : Int} (h : a = c) (h' : ¬ b < d) : posLt a b c d = false := by simp [posLt]; omega

def Lessed (a b c d : Int) (w : World) (e : Ending) (w' : World) : Prop := e = .returned (.bool (posLt a b c d)) ∧ Below w.heap.size w w'

set_option maxHeartbeats 2000000 in
theorem implPosLess (a b c d : Int) (w : World) :
    Calls Try.prog 9 #[.agg #[.int .i64 a, .int .i64 b], .agg #[.int .i64 c, .int .i64 d]] w (Lessed a b c d w) := by
  have hW : Below w.heap.size w ((w.alloc (.cells #[.int .i64 a, .int .i64 b] 25)).alloc (.cells #[.int .i64 c, .int .i64 d] 25)) := ((Below.refl _ _).alloc (Nat.le_refl _) _).alloc (by simp) _
  by_cases h1 : a < c
  · have R : Lessed a b c d w (.returned (.bool true)) _ := ⟨by rw [posLt_t1 h1], hW⟩
    have HR := Lib.hid R; clear R hW
    go_enter Try.func9, Try.ntmps9
    go_wp2_with fail
    go_ret
    exact HR.out
  · by_cases h2 : a = c
    · by_cases h3 : b < d
      · have R : Lessed a b c d w (.returned (.bool true)) _ := ⟨by rw [posLt_t2 h2 h3], hW⟩
        have HR := Lib.hid R; clear R hW
        subst h2
        go_enter Try.func9, Try.ntmps9
        go_wp2_with fail
        go_ret
        exact HR.out
      · have R : Lessed a b c d w (.returned (.bool false)) _ := ⟨by rw [posLt_f2 h2 h3], hW⟩
        have HR := Lib.hid R; clear R hW
        subst h2
        go_enter Try.func9, Try.ntmps9
        go_wp2_with fail
        go_ret
        exact HR.out
    · have R : Lessed a b c d w (.returned (.bool false)) _ := ⟨by rw [posLt_f1 (by omega)], hW⟩
      have HR := Lib.hid R; clear R hW
      have hb : (a == c) = false := by simp [h2]
      clear h2
      go_enter Try.func9, Try.ntmps9
      go_wp2_with fail
      go_ret
      exact HR.out

set_option maxHeartbeats 2000000 in
theorem specPosLess (a b c d : Int) (w : World) :
    Calls Try.prog 7 #[.agg #[.int .i64 a, .int .i64 b], .agg #[.int .i64 c, .int .i64 d]] w (Lessed a b c d w) := by
  have hW : Below w.heap.size w ((w.alloc (.cells #[.int .i64 a, .int .i64 b] 25)).alloc (.cells #[.int .i64 c, .int .i64 d] 25)) := ((Below.refl _ _).alloc (Nat.le_refl _) _).alloc (by simp) _
  by_cases h1 : a < c
  · have R : Lessed a b c d w (.returned (.bool true)) _ := ⟨by rw [posLt_t1 h1], hW⟩
    have HR := Lib.hid R; clear R hW
    go_enter Try.func7, Try.ntmps7
    go_wp2_with fail
    go_ret
    exact HR.out
  · by_cases h2 : a = c
    · by_cases h3 : b < d
      · have R : Lessed a b c d w (.returned (.bool true)) _ := ⟨by rw [posLt_t2 h2 h3], hW⟩
        have HR := Lib.hid R; clear R hW
        subst h2
        go_enter Try.func7, Try.ntmps7
        go_wp2_with fail
        go_ret
        exact HR.out
      · have R : Lessed a b c d w (.returned (.bool false)) _ := ⟨by rw [posLt_f2 h2 h3], hW⟩
        have HR := Lib.hid R; clear R hW
        subst h2
        go_enter Try.func7, Try.ntmps7
        go_wp2_with fail
        go_ret
        exact HR.out
    · have R : Lessed a b c d w (.returned (.bool false)) _ := ⟨by rw [posLt_f1 (by omega)], hW⟩
      have HR := Lib.hid R; clear R hW
      have hb : (a == c) = false := by simp [h2]
      clear h2
      go_enter Try.func7, Try.ntmps7
      go_wp2_with fail
      go_ret
      exact HR.out

set_option maxHeartbeats 1000000 in
theorem toPos (a b : Int) (w : World) :
    Calls Try.prog 8 #[.agg #[.int .i64 a, .int .i64 b]] w fun e w' => e = .returned (.agg #[.int .i64 a, .int .i64 b]) ∧ Below w.heap.size w w' := by
  go_enter Try.func8, Try.ntmps8
  go_wp2_with fail
  go_returns
  exact ⟨rfl, by go_grown⟩

set_option maxHeartbeats 4000000 in
theorem law_FnExactPosLess (a b c d : Int) (w : World) (wa : (Lit.int .i64 a).wf = true) (wb : (Lit.int .i64 b).wf = true) (wc : (Lit.int .i64 c).wf = true) (wd : (Lit.int .i64 d).wf = true) :
    Calls Try.prog 3 #[.agg #[.int .i64 a, .int .i64 b], .agg #[.int .i64 c, .int .i64 d]] w fun e w' => e = .returned (.bool true) ∧ Below w.heap.size w w' := by
  clear wa wb wc wd
  obtain ⟨W1, hW1⟩ : ∃ W1, W1 = (w.alloc (.cells #[.int .i64 a, .int .i64 b] 23)).alloc (.cells #[.int .i64 c, .int .i64 d] 23) := ⟨_, rfl⟩
  have h0 : W1.cell? ⟨w.heap.size, 0, none⟩ = some (.int .i64 a) := by subst hW1; simp
  have h1 : W1.cell? ⟨w.heap.size, 1, none⟩ = some (.int .i64 b) := by subst hW1; simp
  have h2 : W1.cell? ⟨w.heap.size + 1, 0, none⟩ = some (.int .i64 c) := by subst hW1; simp
  have h3 : W1.cell? ⟨w.heap.size + 1, 1, none⟩ = some (.int .i64 d) := by subst hW1; simp
  have hB : Below w.heap.size w W1 := by subst hW1; exact ((Below.refl _ _).alloc (Nat.le_refl _) _).alloc (by simp) _
  have hs : w.heap.size + 1 < W1.heap.size := by subst hW1; simp
  have g0 : ∀ d' os, (Go.Sort.grow (redrawn W1 d') os).cell? ⟨w.heap.size, 0, none⟩ = some (.int .i64 a) := cell_regrown h0
  have g1 : ∀ d' os, (Go.Sort.grow (redrawn W1 d') os).cell? ⟨w.heap.size, 1, none⟩ = some (.int .i64 b) := cell_regrown h1
  have g2 : ∀ d' os, (Go.Sort.grow (redrawn W1 d') os).cell? ⟨w.heap.size + 1, 0, none⟩ = some (.int .i64 c) := cell_regrown h2
  have g3 : ∀ d' os, (Go.Sort.grow (redrawn W1 d') os).cell? ⟨w.heap.size + 1, 1, none⟩ = some (.int .i64 d) := cell_regrown h3
  have HB := Lib.hid hB
  have HS := Lib.hid hs
  clear h0 h1 h2 h3 hB hs
  go_enter Try.func3, Try.ntmps3
  go_wp2_with fail
  rw [← hW1]
  clear hW1
  refine wp_region_quiet_below (by kernel_rfl) (by kernel_rfl) ?_
  repeat (go_big_quiet_step (first | exact Calls.regrown_of (toPos _ _ _) | exact Calls.regrown_of (specPosLess _ _ _ _ _)))
  refine wpQuiet_nil ?_
  intro W2 hw'
  have hB2 : Below W1.heap.size W1 W2 := by obtain ⟨⟨dq, osq⟩, rfl⟩ := hw'; exact below_regrown _ _ _
  clear hw'
  have k0 := (hB2.cell (p := ⟨w.heap.size, 0, none⟩) (by have := HS.out; simp; omega)).trans (g0 W1.drawn #[])
  have k1 := (hB2.cell (p := ⟨w.heap.size, 1, none⟩) (by have := HS.out; simp; omega)).trans (g1 W1.drawn #[])
  have k2 := (hB2.cell (p := ⟨w.heap.size + 1, 0, none⟩) (by have := HS.out; simp; omega)).trans (g2 W1.drawn #[])
  have k3 := (hB2.cell (p := ⟨w.heap.size + 1, 1, none⟩) (by have := HS.out; simp; omega)).trans (g3 W1.drawn #[])
  have e0 : ∀ d' os, (Go.Sort.grow (redrawn W2 d') os).cell? ⟨w.heap.size, 0, none⟩ = some (.int .i64 a) := cell_regrown k0
  have e1 : ∀ d' os, (Go.Sort.grow (redrawn W2 d') os).cell? ⟨w.heap.size, 1, none⟩ = some (.int .i64 b) := cell_regrown k1
  have e2 : ∀ d' os, (Go.Sort.grow (redrawn W2 d') os).cell? ⟨w.heap.size + 1, 0, none⟩ = some (.int .i64 c) := cell_regrown k2
  have e3 : ∀ d' os, (Go.Sort.grow (redrawn W2 d') os).cell? ⟨w.heap.size + 1, 1, none⟩ = some (.int .i64 d) := cell_regrown k3
  clear g0 g1 g2 g3 k0 k1 k2 k3
  go_wp2_with fail
  refine wp_region_quiet_below (by kernel_rfl) (by kernel_rfl) ?_
  repeat (go_big_quiet_step (first | exact Calls.regrown_of (toPos _ _ _) | exact Calls.regrown_of (implPosLess _ _ _ _ _)))
  refine wpQuiet_nil ?_
  intro W3 hw'
  have hB3 : Below W2.heap.size W2 W3 := by obtain ⟨⟨dq, osq⟩, rfl⟩ := hw'; exact below_regrown _ _ _
  clear hw' e0 e1 e2 e3
  have hne : (posLt a b c d != posLt a b c d) = false := by simp
  go_wp2_with fail
  go_ret
  refine ⟨rfl, HB.out.trans ((hB2.mono HB.out.size).trans (hB3.mono ?_))⟩
  exact Nat.le_trans HB.out.size hB2.size
end Go.Proofs.Ytlhmebdljamgkaa
