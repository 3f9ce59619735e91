/- The walk of FnExactTextLines. -/
import Derived.Test.YtdimljolinmofaaDoorCut
import Derived.Test.YtdimljolinmofaaDoorMarkS
namespace Go.Proofs.YtdimljolinmofaaDoor
open Go.RowKit Ilp
set_option linter.unusedVariables false

def GotLines (xs : List ByteArray) (w : World) (e : Ending) (w' : World) : Prop := ∃ A, e = .returned (.slice A xs.length xs.length) ∧ Mine w' w.heap.size 9 A (strB xs) ∧ Below w.heap.size w w'
theorem implLines (s : ByteArray) (w : World) (hT : Tabs w) (hs : (s.size : Int) ≤ 1048576) :
    Calls Tryd.prog 18 #[.string s] w (GotLines (linesOf s) w) := by
  refine (implTextLines s w hT hs).mono fun e w' h => ?_
  cases hok : textOk s.data.toList with
  | false =>
    obtain ⟨rfl, rfl⟩ := h.bad hok
    rw [linesOf_bad hok]
    exact ⟨none, rfl, .inl rfl, Below.refl _ _⟩
  | true =>
    obtain ⟨rfl, hk, hb⟩ := h.ok hok
    rw [linesOf_ok hok]
    exact ⟨_, rfl, .inr ⟨w.heap.size, (strB (cutB s)).toArray, rfl, Nat.le_refl _, hk, by simp⟩, hb⟩
theorem linesOf_le (s : ByteArray) : (linesOf s).length ≤ s.size + 1 := by
  unfold linesOf; split
  · rw [cutB_length]
    have := cut_length_le s.data.toList
    simpa using this
  · simp

set_option maxHeartbeats 4000000 in
theorem law_FnExactTextLines (s : ByteArray) (w : World) (hsh : w.ShapedOpen Tryd.prog) (hT : Tabs w) (ws : s.size ≤ maxLen) :
    Calls Tryd.prog 5 #[.string s] w fun e w' => e = .returned (.bool true) ∧ Below w.heap.size w w' := by
  clear hsh
  unfold maxLen at ws
  by_cases hbig : (1048576 : Int) < (s.size : Int)
  · go_enter Tryd.func5, Tryd.ntmps5
    go_wp2
    go_ret
    exact ⟨rfl, Below.refl _ _⟩
  · have hs : (s.size : Int) ≤ 1048576 := by omega
    have cs := specTextLines s w hs
    have ci := fun W h => implLines s W h hs
    have hle := linesOf_le s
    generalize linesOf s = xs at *
    have CI := Lib.hid ci
    have HT := Lib.hid hT
    obtain ⟨n, hl⟩ : ∃ n, xs.length = n := ⟨_, rfl⟩
    have HL : Hid (xs.length = n) := hl
    have hn : (n : Int) ≤ 1048577 := by omega
    clear hbig ws ci hT hle hl
    go_enter Tryd.func5, Tryd.ntmps5
    go_wp2_with fail
    refine cs.mono ?_
    clear cs
    rintro e w1 ⟨A0, c0, rfl, hc0, hr0, hb1⟩
    rw [HL.out] at hc0 ⊢
    have HR0 := Lib.hid hr0
    have HB1 := Lib.hid hb1
    have HT1 : Hid (Tabs w1) := HT.out.keep hb1
    clear hr0 hb1
    go_wp2_with fail
    refine (CI.out w1 HT1.out).mono ?_
    rintro e w2 ⟨A1, rfl, hm, hb2⟩
    rw [HL.out]
    have hs2 := hb2.size
    have HC2 : Hid (Below w1.heap.size w1 w2) := hb2
    have HM := Lib.hid hm
    have HT2 : Hid (Tabs w2) := HT1.out.keep hb2
    clear hm hb2
    go_wp2_with fail
    refine (eqStringS_same A1 A0 n c0 n xs w2 HM.out.row ((HR0.out.below HC2.out).more hs2) HL (by omega)).mono ?_
    rintro e w3 ⟨rfl, hb3⟩
    have hs3 := hb3.size
    have HC3 : Hid (Below w1.heap.size w1 w3) := HC2.out.trans (hb3.mono hs2)
    have HM3 := Lib.hid (HM.out.below hb3)
    have HT3 : Hid (Tabs w3) := HT2.out.keep hb3
    clear hb3
    go_wp2_with fail
    refine (markStringS A1 n n w1.heap.size 1 xs w3 HM3.out HL (by omega) (by omega) (by omega) (by omega)).mono ?_
    rintro e w4 ⟨rfl, hm4, hb4⟩
    have hs4 := hb4.size
    have HC4 : Hid (Below w1.heap.size w1 w4) := HC3.out.trans hb4
    have HM4 := Lib.hid hm4
    have HT4 : Hid (Tabs w4) := by
      obtain ⟨m, hm⟩ := HT1.out
      exact ⟨m, (HC4.out.cell (cell_lt hm)).trans hm⟩
    have hn1 : ((1 + n : Nat) : Int) ≤ 1048578 := by omega
    clear hm4 hb4
    obtain ⟨q, hq⟩ : ∃ q, q = 1 + n := ⟨_, rfl⟩
    have hq0 : (0 : Int) < (q : Int) := by omega
    rw [← hq] at hn1 ⊢
    have HQ := Lib.hid hq
    have CH : Hid (∀ W, Row W W.heap.size A1 (strB (marksFrom 1 n)) → Calls Tryd.prog 21 #[.slice A1 n n, .int .i64 1] W fun e w' => e = .returned (.int .i64 (q : Int)) ∧ Below W.heap.size W w') := fun W h => by
      have := heldStringS A1 n n 1 W h (by omega) (by omega) (by omega)
      rw [← HQ.out] at this
      exact this
    have hqn : ((q : Int) != (q : Int)) = false := by simp
    clear hq
    go_wp2_with fail
    refine (CH.out w4 HM4.out.row).mono ?_
    rintro e w5 ⟨rfl, hb5⟩
    have hs5 := hb5.size
    have HC5 : Hid (Below w1.heap.size w1 w5) := HC4.out.trans (hb5.mono (by omega))
    have HM5 := Lib.hid (HM4.out.below hb5)
    have HT5 : Hid (Tabs w5) := HT4.out.keep hb5
    clear hb5
    go_wp2_with fail
    refine (CI.out w5 HT5.out).mono ?_
    rintro e w6 ⟨A2, rfl, hm, hb6⟩
    rw [HL.out]
    have hs6 := hb6.size
    have HC6 : Hid (Below w1.heap.size w1 w6) := HC5.out.trans (hb6.mono (by omega))
    have HM6 := Lib.hid (HM5.out.below hb6)
    have HN6 := Lib.hid hm
    clear hm hb6
    go_wp2_with fail
    refine (eqStringS_same A2 A0 n c0 n xs w6 HN6.out.row ((HR0.out.below HC6.out).more (by omega)) HL (by omega)).mono ?_
    rintro e w7 ⟨rfl, hb7⟩
    have hs7 := hb7.size
    have HC7 : Hid (Below w1.heap.size w1 w7) := HC6.out.trans (hb7.mono (by omega))
    have HM7 := Lib.hid (HM6.out.below hb7)
    clear hb7
    go_wp2_with fail
    refine (CH.out w7 HM7.out.row).mono ?_
    rintro e w8 ⟨rfl, hb8⟩
    have HC8 : Hid (Below w1.heap.size w1 w8) := HC7.out.trans (hb8.mono (by omega))
    clear hb8
    go_wp2_with fail
    go_ret
    exact ⟨rfl, HB1.out.trans (HC8.out.mono HB1.out.size)⟩
end Go.Proofs.YtdimljolinmofaaDoor
