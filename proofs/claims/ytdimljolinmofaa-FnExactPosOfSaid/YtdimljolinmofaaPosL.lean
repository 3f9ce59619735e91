/- The walk of FnExactPosOf. -/
import Derived.Test.YtdimljolinmofaaPos
namespace Go.Proofs.Ytdimljolinmofaa
open Go.RowKit Ilp
set_option linter.unusedVariables false

set_option maxHeartbeats 1000000 in
theorem eqPos_same (a b : Int) (w : World) :
    Calls Try.prog 17 #[.agg #[.int .i64 a, .int .i64 b], .agg #[.int .i64 a, .int .i64 b]] w fun e w' => e = .returned (.bool true) ∧ Below w.heap.size w w' := by
  have h1 : (a != a) = false := by simp
  have h2 : (b != b) = false := by simp
  go_enter Try.func17, Try.ntmps17
  go_wp2_with fail
  go_ret
  exact ⟨rfl, by go_grown⟩

set_option maxHeartbeats 2000000 in
theorem law_FnExactPosOf (s : ByteArray) (off : Int) (w : World) (ws : s.size ≤ maxLen) (wo : (Lit.int .i64 off).wf = true) :
    Calls Try.prog 6 #[.string s, .int .i64 off] w fun e w' => e = .returned (.bool true) ∧ Below w.heap.size w w' := by
  clear wo
  unfold maxLen at ws
  by_cases hbig : (1048576 : Int) < (s.size : Int)
  · go_enter Try.func6, Try.ntmps6
    go_wp2
    go_ret
    exact ⟨rfl, Below.refl _ _⟩
  · have hs : (s.size : Int) ≤ 1048576 := by omega
    clear hbig ws
    go_enter Try.func6, Try.ntmps6
    go_wp2_with fail
    obtain ⟨r, hr⟩ : ∃ r, posRes s off = r := ⟨_, rfl⟩
    have cs := specPosOf s off w (by omega)
    have ci := fun W => implPosOf s off W (by omega)
    rw [hr] at cs
    rw [hr] at ci
    have CI := Lib.hid ci
    clear ci hr
    obtain ⟨⟨L, C⟩, o⟩ := r
    refine cs.mono ?_
    clear cs
    rintro e w1 ⟨rfl, hb1⟩
    have HB1 := Lib.hid hb1; clear hb1
    simp only [posT]
    go_wp2_with fail
    refine (CI.out _).mono ?_
    rintro e w2 ⟨rfl, hb2⟩
    have hk : Blk w2 w1.heap.size 33 [.int .i64 (L : Int), .int .i64 (C : Int)] := (Blk.alloc_ w1 33 [.int .i64 (L : Int), .int .i64 (C : Int)]).below hb2 (by simp)
    have hs2 : w1.heap.size < w2.heap.size := hk.lt
    have c0 : w2.cell? ⟨w1.heap.size, 0, none⟩ = some (.int .i64 (L : Int)) := by rw [hk.cell]; rfl
    have c1 : w2.cell? ⟨w1.heap.size, 1, none⟩ = some (.int .i64 (C : Int)) := by rw [hk.cell]; rfl
    have HB2 : Hid (Below w.heap.size w w2) := (HB1.out.alloc HB1.out.size _).trans (hb2.mono (by have := HB1.out.size; simp; omega))
    have hne : (o != o) = false := by simp
    clear hb2 hk
    simp only [posT]
    go_wp2_with fail
    refine (eqPos_same _ _ _).mono ?_
    rintro e w3 ⟨rfl, hb3⟩
    have R : Below w.heap.size w w3 := (HB2.out.alloc HB2.out.size _).trans (hb3.mono (by have := HB2.out.size; simp; omega))
    have HR := Lib.hid R; clear R hb3
    go_wp2_with fail
    go_ret
    exact ⟨rfl, HR.out⟩
end Go.Proofs.Ytdimljolinmofaa
