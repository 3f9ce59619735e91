/- The walk of FnExactPosOff. -/
import Derived.Test.YtdimljolinmofaaDoorOff
import Derived.Test.YtdimljolinmofaaDoorPL
namespace Go.Proofs.YtdimljolinmofaaDoor
open Go.RowKit Ilp
set_option linter.unusedVariables false

set_option maxHeartbeats 2000000 in
theorem law_FnExactPosOff (s : ByteArray) (L C : Int) (w : World) (hsh : w.ShapedOpen Tryd.prog) (hT : Tabs w) (ws : s.size ≤ maxLen) (wa : (Lit.int .i64 L).wf = true) (wb : (Lit.int .i64 C).wf = true) :
    Calls Tryd.prog 4 #[.string s, .agg #[.int .i64 L, .int .i64 C]] w fun e w' => e = .returned (.bool true) ∧ Below w.heap.size w w' := by
  clear hsh
  obtain ⟨hL0, hL1⟩ := wf_i64 wa
  obtain ⟨hC0, hC1⟩ := wf_i64 wb
  clear wa wb
  unfold maxLen at ws
  have hBW : Below w.heap.size w (w.alloc (.cells #[.int .i64 L, .int .i64 C] 31)) := (Below.refl _ _).alloc (Nat.le_refl _) _
  have HBW := Lib.hid hBW
  have HT : Hid (Tabs (w.alloc (.cells #[.int .i64 L, .int .i64 C] 31))) := hT.keep hBW
  have HK : Hid (Blk (w.alloc (.cells #[.int .i64 L, .int .i64 C] 31)) w.heap.size 31 [.int .i64 L, .int .i64 C]) := Blk.alloc_ w _ [.int .i64 L, .int .i64 C]
  clear hBW hT
  by_cases hbig : (1048576 : Int) < (s.size : Int)
  · go_enter Tryd.func4, Tryd.ntmps4
    go_wp2
    go_ret
    exact ⟨rfl, HBW.out⟩
  · have hs : (s.size : Int) ≤ 1048576 := by omega
    clear hbig ws
    go_enter Tryd.func4, Tryd.ntmps4
    go_wp2_with fail
    refine (toPos L C _).mono ?_
    rintro e w1 ⟨rfl, hb1⟩
    have hk1 := HK.out.below hb1 HK.out.lt
    have HB1 : Hid (Below w.heap.size w w1) := HBW.out.trans (hb1.mono HBW.out.size)
    have HT1 : Hid (Tabs w1) := HT.out.keep hb1
    have HK1 := Lib.hid hk1
    clear hb1 hk1
    go_wp2_with fail
    have cs := specPosOff s L C w1 (by omega)
    have ci := fun W h => implPosOff s L C W h hs hL0 hL1 hC0 hC1
    generalize offRes s L C = r at cs ci
    have CI := Lib.hid ci
    clear ci
    refine cs.mono ?_
    clear cs
    rintro e w2 ⟨rfl, hb2⟩
    have hk2 := HK1.out.below hb2 HK1.out.lt
    have c0 : w2.cell? ⟨w.heap.size, 0, none⟩ = some (.int .i64 L) := by rw [hk2.cell]; rfl
    have c1 : w2.cell? ⟨w.heap.size, 1, none⟩ = some (.int .i64 C) := by rw [hk2.cell]; rfl
    have HB2 : Hid (Below w.heap.size w w2) := HB1.out.trans (hb2.mono HB1.out.size)
    have HT2 : Hid (Tabs w2) := HT1.out.keep hb2
    clear hb2 hk2
    simp only [offT]
    go_wp2_with fail
    refine (toPos L C _).mono ?_
    rintro e w3 ⟨rfl, hb3⟩
    have HB3 : Hid (Below w.heap.size w w3) := HB2.out.trans (hb3.mono HB2.out.size)
    have HT3 : Hid (Tabs w3) := HT2.out.keep hb3
    clear hb3 c0 c1
    go_wp2_with fail
    refine (CI.out w3 HT3.out).mono ?_
    rintro e w4 ⟨rfl, hb4⟩
    have R : Below w.heap.size w w4 := HB3.out.trans (hb4.mono HB3.out.size)
    have HR := Lib.hid R
    have h1 : (((r.getD 0 : Nat) : Int) != ((r.getD 0 : Nat) : Int)) = false := by simp
    have h2 : (r.isSome != r.isSome) = false := by simp
    clear hb4 R
    simp only [offT]
    go_wp2_with fail
    go_ret
    exact ⟨rfl, HR.out⟩
end Go.Proofs.YtdimljolinmofaaDoor
