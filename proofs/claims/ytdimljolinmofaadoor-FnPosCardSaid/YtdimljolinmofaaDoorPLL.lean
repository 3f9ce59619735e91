/- The walk of FnPosLess. -/
import Derived.Test.YtdimljolinmofaaDoorOff
import Derived.Test.YtdimljolinmofaaDoorPL
import Derived.Test.YtdimljolinmofaaDoorDrawP
namespace Go.Proofs.YtdimljolinmofaaDoor
open Go.RowKit Ilp
set_option linter.unusedVariables false

theorem lessG {a b c d : Int} {v : Bool} (h : posLt a b c d = v) (W : World) (d' : Nat) (os : Array Obj) :
    Calls Tryd.prog 12 #[.agg #[.int .i64 a, .int .i64 b], .agg #[.int .i64 c, .int .i64 d]] (Go.Sort.grow (redrawn W d') os) fun e w'' => e = .returned (.bool v) ∧ ∃ p : Regrown, w'' = Go.Sort.grow (redrawn W p.d) p.os :=
  Calls.regrown_of ((implPosLess a b c d _).mono fun e w' ⟨he, hb⟩ => ⟨by rw [he, h], hb⟩)
theorem lessS {a b c d : Int} {v : Bool} (h : posLt a b c d = v) (W : World) (d' : Nat) (os : Array Obj) :
    Calls Tryd.prog 13 #[.agg #[.int .i64 a, .int .i64 b], .agg #[.int .i64 c, .int .i64 d]] (Go.Sort.grow (redrawn W d') os) fun e w'' => e = .returned (.bool v) ∧ ∃ p : Regrown, w'' = Go.Sort.grow (redrawn W p.d) p.os :=
  Calls.regrown_of ((specPosLess a b c d _).mono fun e w' ⟨he, hb⟩ => ⟨by rw [he, h], hb⟩)

def fourText : ByteArray := ⟨#[97, 98, 99, 10, 97, 98, 99, 10, 97, 98, 99, 10, 97, 98, 99]⟩
theorem four_off {a b : Nat} (ha : a < 3) (hb : b < 4) : offRes fourText a b = some (4 * a + b) := by
  rw [offRes_good (by decide)]
  match a, b, ha, hb with
  | 0, 0, _, _ => decide
  | 0, 1, _, _ => decide
  | 0, 2, _, _ => decide
  | 0, 3, _, _ => decide
  | 1, 0, _, _ => decide
  | 1, 1, _, _ => decide
  | 1, 2, _, _ => decide
  | 1, 3, _, _ => decide
  | 2, 0, _, _ => decide
  | 2, 1, _, _ => decide
  | 2, 2, _, _ => decide
  | 2, 3, _, _ => decide
theorem four_less {a b c d : Nat} (hb : b < 4) (hd : d < 4) : posLt a b c d = decide (((4 * a + b : Nat) : Int) < ((4 * c + d : Nat) : Int)) := by
  unfold posLt; rw [Bool.eq_iff_iff]; simp; omega
theorem posLt_trans {a b c d e f : Int} (h1 : posLt a b c d = true) (h2 : posLt c d e f = true) : posLt a b e f = true := by
  simp [posLt] at *; omega

/-- The cells of a place, in every world of a class. -/
def PosAt (W : World) (g : Nat) (a b : Nat) : Prop := Blk W g 24 [.int .i64 (a : Int), .int .i64 (b : Int)]
theorem PosAt.c0 {W : World} {g a b : Nat} (h : PosAt W g a b) (d : Nat) (os : Array Obj) : (Go.Sort.grow (redrawn W d) os).cell? ⟨g, 0, none⟩ = some (.int .i64 (a : Int)) := cell_regrown (Blk.cell h 0) d os
theorem PosAt.c1 {W : World} {g a b : Nat} (h : PosAt W g a b) (d : Nat) (os : Array Obj) : (Go.Sort.grow (redrawn W d) os).cell? ⟨g, 1, none⟩ = some (.int .i64 (b : Int)) := cell_regrown (Blk.cell h 1) d os
theorem PosAt.d0 {W : World} {g a b : Nat} (h : PosAt W g a b) : W.cell? ⟨g, 0, none⟩ = some (.int .i64 (a : Int)) := Blk.cell h 0
theorem PosAt.d1 {W : World} {g a b : Nat} (h : PosAt W g a b) : W.cell? ⟨g, 1, none⟩ = some (.int .i64 (b : Int)) := Blk.cell h 1
theorem PosAt.below {W W' : World} {g a b : Nat} (h : PosAt W g a b) (hb : Below W.heap.size W W') : PosAt W' g a b := Blk.below h hb (Blk.lt h)

set_option maxHeartbeats 8000000 in
theorem law_FnPosLess (a : Option Addr) (n c : Nat) (z : List Int) (a' : Option Addr) (n' c' : Nat) (z' : List Int) (w : World) (hsh : w.ShapedOpen Tryd.prog) (hT : Tabs w) (hz : IsRow .u8 w a n c z) (hz' : IsRow .u8 w a' n' c' z') :
    Calls Tryd.prog 3 #[.slice a n c, .slice a' n' c'] w fun e w' => e = .returned (.bool true) ∧ Below w.heap.size w w' := by
  clear hsh
  obtain ⟨_, _, hnc, hn, hc, _⟩ := hz.row
  obtain ⟨_, _, hnc', hn', hc', _⟩ := hz'.row
  have HZ := Lib.hid hz; clear hz
  have HZ' := Lib.hid hz'; clear hz'
  have HT := Lib.hid hT; clear hT
  by_cases hbig : (1048576 : Int) < (n : Int)
  · go_enter Tryd.func3, Tryd.ntmps3
    go_wp2
    go_ret
    exact ⟨rfl, Below.refl _ _⟩
  · by_cases hbig' : (1048576 : Int) < (n' : Int)
    · go_enter Tryd.func3, Tryd.ntmps3
      go_wp2
      go_ret
      exact ⟨rfl, Below.refl _ _⟩
    · have hs : (n : Int) ≤ 1048576 := by omega
      have hs' : (n' : Int) ≤ 1048576 := by omega
      clear hbig hbig' hn hn' hc hc' hnc hnc'
      go_enter Tryd.func3, Tryd.ntmps3
      go_wp2_with fail
      refine (drawPosLess a n c z w HZ.out).mono ?_
      rintro e w1 ⟨a0, a1, b0, b1, rfl, ha0, ha1, hb0, hb1, hbw⟩
      have hA : PosAt ((w1.alloc (.cells #[.int .i64 (a0 : Int), .int .i64 (a1 : Int)] 24)).alloc (.cells #[.int .i64 (b0 : Int), .int .i64 (b1 : Int)] 24)) w1.heap.size a0 a1 := (Blk.alloc_ w1 _ [.int .i64 (a0 : Int), .int .i64 (a1 : Int)]).alloc _
      have hB : PosAt ((w1.alloc (.cells #[.int .i64 (a0 : Int), .int .i64 (a1 : Int)] 24)).alloc (.cells #[.int .i64 (b0 : Int), .int .i64 (b1 : Int)] 24)) (w1.heap.size + 1) b0 b1 := by
        have := Blk.alloc_ (w1.alloc (.cells #[.int .i64 (a0 : Int), .int .i64 (a1 : Int)] 24)) 24 [.int .i64 (b0 : Int), .int .i64 (b1 : Int)]; unfold PosAt; simpa using this
      have hb2 : Below w.heap.size w ((w1.alloc (.cells #[.int .i64 (a0 : Int), .int .i64 (a1 : Int)] 24)).alloc (.cells #[.int .i64 (b0 : Int), .int .i64 (b1 : Int)] 24)) := (hbw.alloc hbw.size _).alloc (by have := hbw.size; simp; omega) _
      go_wp2_with fail
      generalize (w1.alloc (.cells #[.int .i64 (a0 : Int), .int .i64 (a1 : Int)] 24)).alloc (.cells #[.int .i64 (b0 : Int), .int .i64 (b1 : Int)] 24) = w2 at *
      have hz2 := isRow_below HZ'.out hb2
      refine (drawPosLess a' n' c' z' w2 hz2).mono ?_
      rintro e w3 ⟨c0, c1, d0, d1, rfl, hc0, hc1, hd0, hd1, hbw3⟩
      have hA3 := (((hA.below hbw3).alloc (.cells #[.int .i64 (c0 : Int), .int .i64 (c1 : Int)] 24)).alloc (.cells #[.int .i64 (d0 : Int), .int .i64 (d1 : Int)] 24))
      have hB3 := (((hB.below hbw3).alloc (.cells #[.int .i64 (c0 : Int), .int .i64 (c1 : Int)] 24)).alloc (.cells #[.int .i64 (d0 : Int), .int .i64 (d1 : Int)] 24))
      have hC3 : PosAt ((w3.alloc (.cells #[.int .i64 (c0 : Int), .int .i64 (c1 : Int)] 24)).alloc (.cells #[.int .i64 (d0 : Int), .int .i64 (d1 : Int)] 24)) w3.heap.size c0 c1 := (Blk.alloc_ w3 _ [.int .i64 (c0 : Int), .int .i64 (c1 : Int)]).alloc _
      have hD3 : PosAt ((w3.alloc (.cells #[.int .i64 (c0 : Int), .int .i64 (c1 : Int)] 24)).alloc (.cells #[.int .i64 (d0 : Int), .int .i64 (d1 : Int)] 24)) (w3.heap.size + 1) d0 d1 := by
        have := Blk.alloc_ (w3.alloc (.cells #[.int .i64 (c0 : Int), .int .i64 (c1 : Int)] 24)) 24 [.int .i64 (d0 : Int), .int .i64 (d1 : Int)]; unfold PosAt; simpa using this
      have hb4 : Below w.heap.size w ((w3.alloc (.cells #[.int .i64 (c0 : Int), .int .i64 (c1 : Int)] 24)).alloc (.cells #[.int .i64 (d0 : Int), .int .i64 (d1 : Int)] 24)) := by
        have h := hb2.trans (hbw3.mono hb2.size)
        exact (h.alloc h.size _).alloc (by have := h.size; simp; omega) _
      clear hA hB hbw hb2 hz2 hbw3
      go_wp2_with fail
      generalize (w3.alloc (.cells #[.int .i64 (c0 : Int), .int .i64 (c1 : Int)] 24)).alloc (.cells #[.int .i64 (d0 : Int), .int .i64 (d1 : Int)] 24) = w4 at *
      generalize w1.heap.size = A at *
      generalize w3.heap.size = B at *
      have HB4 := Lib.hid hb4
      have HT4 : Hid (Tabs w4) := HT.out.keep hb4
      clear hb4 HT HZ HZ'
      have xa0 := PosAt.c0 hA3
      have xa1 := PosAt.c1 hA3
      have xb0 := PosAt.c0 hB3
      have xb1 := PosAt.c1 hB3
      by_cases hlt : (a0 : Int) < (b0 : Int)
      · have h1 : posLt (a0 : Int) (a1 : Int) (b0 : Int) (b1 : Int) = true := posLt_t1 hlt
        have h2 : posLt (b0 : Int) (b1 : Int) (a0 : Int) (a1 : Int) = false := posLt_f1 hlt
        have he : ((a0 : Int) == (b0 : Int)) = false := by rw [beq_eq_false_iff_ne]; omega
        clear hlt
        have HLA := Lib.hid (lessG h1 w4)
        have HLS := Lib.hid (lessS h1 w4)
        have HLB := Lib.hid (lessG h2 w4)
        have HAB := Lib.hid h1
        clear h1 h2
        refine wp_region_quiet_below (by kernel_rfl) (by kernel_rfl) ?_
        repeat (go_big_quiet_step (first | with_reducible exact HLA.out _ _ | with_reducible exact HLS.out _ _ | with_reducible exact HLB.out _ _))
        refine wpQuiet_nil ?_
        intro w5 hw'
        have hb5 : Below w4.heap.size w4 w5 := by obtain ⟨⟨dq, osq⟩, rfl⟩ := hw'; exact below_regrown _ _ _
        have hA5 : PosAt w5 A _ _ := PosAt.below hA3 hb5
        have hB5 : PosAt w5 (A + 1) _ _ := PosAt.below hB3 hb5
        have hC5 : PosAt w5 B c0 c1 := hC3.below hb5
        have hD5 : PosAt w5 (B + 1) d0 d1 := hD3.below hb5
        have HT5 : Hid (Tabs w5) := HT4.out.keep hb5
        have HB5 : Hid (Below w.heap.size w w5) := HB4.out.trans (hb5.mono HB4.out.size)
        clear hw' hb5 hA3 hB3 hC3 hD3 xa0 xa1 xb0 xb1
        have ya0 := hA5.d0
        have ya1 := hA5.d1
        have yb0 := hB5.d0
        have yb1 := hB5.d1
        go_wp2_with fail
        refine (implPosLess _ _ _ _ w5).mono ?_
        rintro e w6 ⟨rfl, hb6⟩
        rw [HAB.out]
        have hA6 := hA5.below hb6
        have hB6 := hB5.below hb6
        have hC6 := hC5.below hb6
        have hD6 := hD5.below hb6
        have HT6 : Hid (Tabs w6) := HT5.out.keep hb6
        have HB6 : Hid (Below w.heap.size w w6) := HB5.out.trans (hb6.mono HB5.out.size)
        clear hb6 ya0 ya1 yb0 yb1
        have ya0 := hA6.d0
        have ya1 := hA6.d1
        have yb0 := hB6.d0
        have yb1 := hB6.d1
        have yc0 := hC6.d0
        have yc1 := hC6.d1
        go_wp2_with fail
        refine (implPosLess _ _ _ _ w6).mono ?_
        rintro e w7 ⟨rfl, hb7⟩
        have hA7 := hA6.below hb7
        have hB7 := hB6.below hb7
        have hC7 := hC6.below hb7
        have hD7 := hD6.below hb7
        have HT7 : Hid (Tabs w7) := HT6.out.keep hb7
        have HB7 : Hid (Below w.heap.size w w7) := HB6.out.trans (hb7.mono HB6.out.size)
        clear hb7 ya0 ya1 yb0 yb1 yc0 yc1
        have ya0 := hA7.d0
        have ya1 := hA7.d1
        have yb0 := hB7.d0
        have yb1 := hB7.d1
        have yc0 := hC7.d0
        have yc1 := hC7.d1
        cases hbc : posLt (b0 : Int) (b1 : Int) (c0 : Int) (c1 : Int) with
        | false =>
          have hCX := hC7
          have hDX := hD7
          have HTX := HT7
          have HBX := HB7
          clear hbc
          clear ya0 ya1 yb0 yb1
          go_wp2_with fail
          refine (implPosOff fourText _ _ _ HTX.out (by decide) (by omega) (by omega) (by omega) (by omega)).mono ?_
          rw [four_off hc0 hc1]
          rintro e w8 ⟨rfl, hb8⟩
          simp only [offT]
          have hC8 := hCX.below hb8
          have hD8 := hDX.below hb8
          have HT8 : Hid (Tabs w8) := HTX.out.keep hb8
          have HB8 : Hid (Below w.heap.size w w8) := HBX.out.trans (hb8.mono HBX.out.size)
          have yd0 := hD8.d0
          have yd1 := hD8.d1
          clear hb8
          go_wp2_with fail
          refine (implPosOff fourText _ _ _ HT8.out (by decide) (by omega) (by omega) (by omega) (by omega)).mono ?_
          rw [four_off hd0 hd1]
          rintro e w9 ⟨rfl, hb9⟩
          simp only [offT]
          have hC9 := hC8.below hb9
          have hD9 := hD8.below hb9
          have HB9 : Hid (Below w.heap.size w w9) := HB8.out.trans (hb9.mono HB8.out.size)
          clear hb9 yd0 yd1
          have yd0 := hD9.d0
          have yd1 := hD9.d1
          have yc0 := hC9.d0
          have yc1 := hC9.d1
          go_wp2_with fail
          refine (implPosLess _ _ _ _ w9).mono ?_
          rintro e w10 ⟨rfl, hb10⟩
          have HBE : Hid (Below w.heap.size w w10) := HB9.out.trans (hb10.mono HB9.out.size)
          rw [four_less hc1 hd1]
          clear hb10
          go_wp2_with fail
          go_ret
          exact ⟨by simp, HBE.out⟩
        | true =>
          have hac := posLt_trans HAB.out hbc
          have HAC := Lib.hid hac
          clear hac hbc
          go_wp2_with fail
          refine (implPosLess _ _ _ _ w7).mono ?_
          rintro e wx ⟨rfl, hbx⟩
          rw [HAC.out]
          have hCX := hC7.below hbx
          have hDX := hD7.below hbx
          have HTX : Hid (Tabs wx) := HT7.out.keep hbx
          have HBX : Hid (Below w.heap.size w wx) := HB7.out.trans (hbx.mono HB7.out.size)
          clear hbx yc0 yc1
          have yc0 := hCX.d0
          have yc1 := hCX.d1
          clear ya0 ya1 yb0 yb1
          go_wp2_with fail
          refine (implPosOff fourText _ _ _ HTX.out (by decide) (by omega) (by omega) (by omega) (by omega)).mono ?_
          rw [four_off hc0 hc1]
          rintro e w8 ⟨rfl, hb8⟩
          simp only [offT]
          have hC8 := hCX.below hb8
          have hD8 := hDX.below hb8
          have HT8 : Hid (Tabs w8) := HTX.out.keep hb8
          have HB8 : Hid (Below w.heap.size w w8) := HBX.out.trans (hb8.mono HBX.out.size)
          have yd0 := hD8.d0
          have yd1 := hD8.d1
          clear hb8
          go_wp2_with fail
          refine (implPosOff fourText _ _ _ HT8.out (by decide) (by omega) (by omega) (by omega) (by omega)).mono ?_
          rw [four_off hd0 hd1]
          rintro e w9 ⟨rfl, hb9⟩
          simp only [offT]
          have hC9 := hC8.below hb9
          have hD9 := hD8.below hb9
          have HB9 : Hid (Below w.heap.size w w9) := HB8.out.trans (hb9.mono HB8.out.size)
          clear hb9 yd0 yd1
          have yd0 := hD9.d0
          have yd1 := hD9.d1
          have yc0 := hC9.d0
          have yc1 := hC9.d1
          go_wp2_with fail
          refine (implPosLess _ _ _ _ w9).mono ?_
          rintro e w10 ⟨rfl, hb10⟩
          have HBE : Hid (Below w.heap.size w w10) := HB9.out.trans (hb10.mono HB9.out.size)
          rw [four_less hc1 hd1]
          clear hb10
          go_wp2_with fail
          go_ret
          exact ⟨by simp, HBE.out⟩
      · by_cases heq : a0 = b0
        · subst heq
          by_cases hlt2 : (a1 : Int) < (b1 : Int)
          · have h1 : posLt (a0 : Int) (a1 : Int) (a0 : Int) (b1 : Int) = true := posLt_t2 rfl hlt2
            have h2 : posLt (a0 : Int) (b1 : Int) (a0 : Int) (a1 : Int) = false := posLt_f2 rfl (by omega)
            have he : ((a1 : Int) == (b1 : Int)) = false := by rw [beq_eq_false_iff_ne]; omega
            clear hlt hlt2
            have HLA := Lib.hid (lessG h1 w4)
            have HLS := Lib.hid (lessS h1 w4)
            have HLB := Lib.hid (lessG h2 w4)
            have HAB := Lib.hid h1
            clear h1 h2
            refine wp_region_quiet_below (by kernel_rfl) (by kernel_rfl) ?_
            repeat (go_big_quiet_step (first | with_reducible exact HLA.out _ _ | with_reducible exact HLS.out _ _ | with_reducible exact HLB.out _ _))
            refine wpQuiet_nil ?_
            intro w5 hw'
            have hb5 : Below w4.heap.size w4 w5 := by obtain ⟨⟨dq, osq⟩, rfl⟩ := hw'; exact below_regrown _ _ _
            have hA5 : PosAt w5 A _ _ := PosAt.below hA3 hb5
            have hB5 : PosAt w5 (A + 1) _ _ := PosAt.below hB3 hb5
            have hC5 : PosAt w5 B c0 c1 := hC3.below hb5
            have hD5 : PosAt w5 (B + 1) d0 d1 := hD3.below hb5
            have HT5 : Hid (Tabs w5) := HT4.out.keep hb5
            have HB5 : Hid (Below w.heap.size w w5) := HB4.out.trans (hb5.mono HB4.out.size)
            clear hw' hb5 hA3 hB3 hC3 hD3 xa0 xa1 xb0 xb1
            have ya0 := hA5.d0
            have ya1 := hA5.d1
            have yb0 := hB5.d0
            have yb1 := hB5.d1
            go_wp2_with fail
            refine (implPosLess _ _ _ _ w5).mono ?_
            rintro e w6 ⟨rfl, hb6⟩
            rw [HAB.out]
            have hA6 := hA5.below hb6
            have hB6 := hB5.below hb6
            have hC6 := hC5.below hb6
            have hD6 := hD5.below hb6
            have HT6 : Hid (Tabs w6) := HT5.out.keep hb6
            have HB6 : Hid (Below w.heap.size w w6) := HB5.out.trans (hb6.mono HB5.out.size)
            clear hb6 ya0 ya1 yb0 yb1
            have ya0 := hA6.d0
            have ya1 := hA6.d1
            have yb0 := hB6.d0
            have yb1 := hB6.d1
            have yc0 := hC6.d0
            have yc1 := hC6.d1
            go_wp2_with fail
            refine (implPosLess _ _ _ _ w6).mono ?_
            rintro e w7 ⟨rfl, hb7⟩
            have hA7 := hA6.below hb7
            have hB7 := hB6.below hb7
            have hC7 := hC6.below hb7
            have hD7 := hD6.below hb7
            have HT7 : Hid (Tabs w7) := HT6.out.keep hb7
            have HB7 : Hid (Below w.heap.size w w7) := HB6.out.trans (hb7.mono HB6.out.size)
            clear hb7 ya0 ya1 yb0 yb1 yc0 yc1
            have ya0 := hA7.d0
            have ya1 := hA7.d1
            have yb0 := hB7.d0
            have yb1 := hB7.d1
            have yc0 := hC7.d0
            have yc1 := hC7.d1
            cases hbc : posLt (a0 : Int) (b1 : Int) (c0 : Int) (c1 : Int) with
            | false =>
              have hCX := hC7
              have hDX := hD7
              have HTX := HT7
              have HBX := HB7
              clear hbc
              clear ya0 ya1 yb0 yb1
              go_wp2_with fail
              refine (implPosOff fourText _ _ _ HTX.out (by decide) (by omega) (by omega) (by omega) (by omega)).mono ?_
              rw [four_off hc0 hc1]
              rintro e w8 ⟨rfl, hb8⟩
              simp only [offT]
              have hC8 := hCX.below hb8
              have hD8 := hDX.below hb8
              have HT8 : Hid (Tabs w8) := HTX.out.keep hb8
              have HB8 : Hid (Below w.heap.size w w8) := HBX.out.trans (hb8.mono HBX.out.size)
              have yd0 := hD8.d0
              have yd1 := hD8.d1
              clear hb8
              go_wp2_with fail
              refine (implPosOff fourText _ _ _ HT8.out (by decide) (by omega) (by omega) (by omega) (by omega)).mono ?_
              rw [four_off hd0 hd1]
              rintro e w9 ⟨rfl, hb9⟩
              simp only [offT]
              have hC9 := hC8.below hb9
              have hD9 := hD8.below hb9
              have HB9 : Hid (Below w.heap.size w w9) := HB8.out.trans (hb9.mono HB8.out.size)
              clear hb9 yd0 yd1
              have yd0 := hD9.d0
              have yd1 := hD9.d1
              have yc0 := hC9.d0
              have yc1 := hC9.d1
              go_wp2_with fail
              refine (implPosLess _ _ _ _ w9).mono ?_
              rintro e w10 ⟨rfl, hb10⟩
              have HBE : Hid (Below w.heap.size w w10) := HB9.out.trans (hb10.mono HB9.out.size)
              rw [four_less hc1 hd1]
              clear hb10
              go_wp2_with fail
              go_ret
              exact ⟨by simp, HBE.out⟩
            | true =>
              have hac := posLt_trans HAB.out hbc
              have HAC := Lib.hid hac
              clear hac hbc
              go_wp2_with fail
              refine (implPosLess _ _ _ _ w7).mono ?_
              rintro e wx ⟨rfl, hbx⟩
              rw [HAC.out]
              have hCX := hC7.below hbx
              have hDX := hD7.below hbx
              have HTX : Hid (Tabs wx) := HT7.out.keep hbx
              have HBX : Hid (Below w.heap.size w wx) := HB7.out.trans (hbx.mono HB7.out.size)
              clear hbx yc0 yc1
              have yc0 := hCX.d0
              have yc1 := hCX.d1
              clear ya0 ya1 yb0 yb1
              go_wp2_with fail
              refine (implPosOff fourText _ _ _ HTX.out (by decide) (by omega) (by omega) (by omega) (by omega)).mono ?_
              rw [four_off hc0 hc1]
              rintro e w8 ⟨rfl, hb8⟩
              simp only [offT]
              have hC8 := hCX.below hb8
              have hD8 := hDX.below hb8
              have HT8 : Hid (Tabs w8) := HTX.out.keep hb8
              have HB8 : Hid (Below w.heap.size w w8) := HBX.out.trans (hb8.mono HBX.out.size)
              have yd0 := hD8.d0
              have yd1 := hD8.d1
              clear hb8
              go_wp2_with fail
              refine (implPosOff fourText _ _ _ HT8.out (by decide) (by omega) (by omega) (by omega) (by omega)).mono ?_
              rw [four_off hd0 hd1]
              rintro e w9 ⟨rfl, hb9⟩
              simp only [offT]
              have hC9 := hC8.below hb9
              have hD9 := hD8.below hb9
              have HB9 : Hid (Below w.heap.size w w9) := HB8.out.trans (hb9.mono HB8.out.size)
              clear hb9 yd0 yd1
              have yd0 := hD9.d0
              have yd1 := hD9.d1
              have yc0 := hC9.d0
              have yc1 := hC9.d1
              go_wp2_with fail
              refine (implPosLess _ _ _ _ w9).mono ?_
              rintro e w10 ⟨rfl, hb10⟩
              have HBE : Hid (Below w.heap.size w w10) := HB9.out.trans (hb10.mono HB9.out.size)
              rw [four_less hc1 hd1]
              clear hb10
              go_wp2_with fail
              go_ret
              exact ⟨by simp, HBE.out⟩
          · by_cases heq2 : a1 = b1
            · subst heq2
              have h1 : posLt (a0 : Int) (a1 : Int) (a0 : Int) (a1 : Int) = false := posLt_f2 rfl (by omega)
              have h2 : posLt (a0 : Int) (a1 : Int) (a0 : Int) (a1 : Int) = false := h1
              clear hlt hlt2
              have HLA := Lib.hid (lessG h1 w4)
              have HLS := Lib.hid (lessS h1 w4)
              have HLB := Lib.hid (lessG h2 w4)
              have HAB := Lib.hid h1
              clear h1 h2
              refine wp_region_quiet_below (by kernel_rfl) (by kernel_rfl) ?_
              repeat (go_big_quiet_step (first | with_reducible exact HLA.out _ _ | with_reducible exact HLS.out _ _ | with_reducible exact HLB.out _ _))
              refine wpQuiet_nil ?_
              intro w5 hw'
              have hb5 : Below w4.heap.size w4 w5 := by obtain ⟨⟨dq, osq⟩, rfl⟩ := hw'; exact below_regrown _ _ _
              have hA5 : PosAt w5 A _ _ := PosAt.below hA3 hb5
              have hB5 : PosAt w5 (A + 1) _ _ := PosAt.below hB3 hb5
              have hC5 : PosAt w5 B c0 c1 := hC3.below hb5
              have hD5 : PosAt w5 (B + 1) d0 d1 := hD3.below hb5
              have HT5 : Hid (Tabs w5) := HT4.out.keep hb5
              have HB5 : Hid (Below w.heap.size w w5) := HB4.out.trans (hb5.mono HB4.out.size)
              clear hw' hb5 hA3 hB3 hC3 hD3 xa0 xa1 xb0 xb1
              have ya0 := hA5.d0
              have ya1 := hA5.d1
              have yb0 := hB5.d0
              have yb1 := hB5.d1
              go_wp2_with fail
              refine (implPosLess _ _ _ _ w5).mono ?_
              rintro e w6 ⟨rfl, hb6⟩
              rw [HAB.out]
              have hCX := hC5.below hb6
              have hDX := hD5.below hb6
              have HTX : Hid (Tabs w6) := HT5.out.keep hb6
              have HBX : Hid (Below w.heap.size w w6) := HB5.out.trans (hb6.mono HB5.out.size)
              have yc0 := hCX.d0
              have yc1 := hCX.d1
              clear hb6
              clear ya0 ya1 yb0 yb1
              go_wp2_with fail
              refine (implPosOff fourText _ _ _ HTX.out (by decide) (by omega) (by omega) (by omega) (by omega)).mono ?_
              rw [four_off hc0 hc1]
              rintro e w8 ⟨rfl, hb8⟩
              simp only [offT]
              have hC8 := hCX.below hb8
              have hD8 := hDX.below hb8
              have HT8 : Hid (Tabs w8) := HTX.out.keep hb8
              have HB8 : Hid (Below w.heap.size w w8) := HBX.out.trans (hb8.mono HBX.out.size)
              have yd0 := hD8.d0
              have yd1 := hD8.d1
              clear hb8
              go_wp2_with fail
              refine (implPosOff fourText _ _ _ HT8.out (by decide) (by omega) (by omega) (by omega) (by omega)).mono ?_
              rw [four_off hd0 hd1]
              rintro e w9 ⟨rfl, hb9⟩
              simp only [offT]
              have hC9 := hC8.below hb9
              have hD9 := hD8.below hb9
              have HB9 : Hid (Below w.heap.size w w9) := HB8.out.trans (hb9.mono HB8.out.size)
              clear hb9 yd0 yd1
              have yd0 := hD9.d0
              have yd1 := hD9.d1
              have yc0 := hC9.d0
              have yc1 := hC9.d1
              go_wp2_with fail
              refine (implPosLess _ _ _ _ w9).mono ?_
              rintro e w10 ⟨rfl, hb10⟩
              have HBE : Hid (Below w.heap.size w w10) := HB9.out.trans (hb10.mono HB9.out.size)
              rw [four_less hc1 hd1]
              clear hb10
              go_wp2_with fail
              go_ret
              exact ⟨by simp, HBE.out⟩
            · have h1 : posLt (a0 : Int) (a1 : Int) (a0 : Int) (b1 : Int) = false := posLt_f2 rfl (by omega)
              have h2 : posLt (a0 : Int) (b1 : Int) (a0 : Int) (a1 : Int) = true := posLt_t2 rfl (by omega)
              have he : ((a1 : Int) == (b1 : Int)) = false := by rw [beq_eq_false_iff_ne]; omega
              clear hlt hlt2 heq2
              have HLA := Lib.hid (lessG h1 w4)
              have HLS := Lib.hid (lessS h1 w4)
              have HLB := Lib.hid (lessG h2 w4)
              have HAB := Lib.hid h1
              clear h1 h2
              refine wp_region_quiet_below (by kernel_rfl) (by kernel_rfl) ?_
              repeat (go_big_quiet_step (first | with_reducible exact HLA.out _ _ | with_reducible exact HLS.out _ _ | with_reducible exact HLB.out _ _))
              refine wpQuiet_nil ?_
              intro w5 hw'
              have hb5 : Below w4.heap.size w4 w5 := by obtain ⟨⟨dq, osq⟩, rfl⟩ := hw'; exact below_regrown _ _ _
              have hA5 : PosAt w5 A _ _ := PosAt.below hA3 hb5
              have hB5 : PosAt w5 (A + 1) _ _ := PosAt.below hB3 hb5
              have hC5 : PosAt w5 B c0 c1 := hC3.below hb5
              have hD5 : PosAt w5 (B + 1) d0 d1 := hD3.below hb5
              have HT5 : Hid (Tabs w5) := HT4.out.keep hb5
              have HB5 : Hid (Below w.heap.size w w5) := HB4.out.trans (hb5.mono HB4.out.size)
              clear hw' hb5 hA3 hB3 hC3 hD3 xa0 xa1 xb0 xb1
              have ya0 := hA5.d0
              have ya1 := hA5.d1
              have yb0 := hB5.d0
              have yb1 := hB5.d1
              go_wp2_with fail
              refine (implPosLess _ _ _ _ w5).mono ?_
              rintro e w6 ⟨rfl, hb6⟩
              rw [HAB.out]
              have hCX := hC5.below hb6
              have hDX := hD5.below hb6
              have HTX : Hid (Tabs w6) := HT5.out.keep hb6
              have HBX : Hid (Below w.heap.size w w6) := HB5.out.trans (hb6.mono HB5.out.size)
              have yc0 := hCX.d0
              have yc1 := hCX.d1
              clear hb6
              clear ya0 ya1 yb0 yb1
              go_wp2_with fail
              refine (implPosOff fourText _ _ _ HTX.out (by decide) (by omega) (by omega) (by omega) (by omega)).mono ?_
              rw [four_off hc0 hc1]
              rintro e w8 ⟨rfl, hb8⟩
              simp only [offT]
              have hC8 := hCX.below hb8
              have hD8 := hDX.below hb8
              have HT8 : Hid (Tabs w8) := HTX.out.keep hb8
              have HB8 : Hid (Below w.heap.size w w8) := HBX.out.trans (hb8.mono HBX.out.size)
              have yd0 := hD8.d0
              have yd1 := hD8.d1
              clear hb8
              go_wp2_with fail
              refine (implPosOff fourText _ _ _ HT8.out (by decide) (by omega) (by omega) (by omega) (by omega)).mono ?_
              rw [four_off hd0 hd1]
              rintro e w9 ⟨rfl, hb9⟩
              simp only [offT]
              have hC9 := hC8.below hb9
              have hD9 := hD8.below hb9
              have HB9 : Hid (Below w.heap.size w w9) := HB8.out.trans (hb9.mono HB8.out.size)
              clear hb9 yd0 yd1
              have yd0 := hD9.d0
              have yd1 := hD9.d1
              have yc0 := hC9.d0
              have yc1 := hC9.d1
              go_wp2_with fail
              refine (implPosLess _ _ _ _ w9).mono ?_
              rintro e w10 ⟨rfl, hb10⟩
              have HBE : Hid (Below w.heap.size w w10) := HB9.out.trans (hb10.mono HB9.out.size)
              rw [four_less hc1 hd1]
              clear hb10
              go_wp2_with fail
              go_ret
              exact ⟨by simp, HBE.out⟩
        · have h1 : posLt (a0 : Int) (a1 : Int) (b0 : Int) (b1 : Int) = false := posLt_f1 (by omega)
          have h2 : posLt (b0 : Int) (b1 : Int) (a0 : Int) (a1 : Int) = true := posLt_t1 (by omega)
          have he : ((a0 : Int) == (b0 : Int)) = false := by rw [beq_eq_false_iff_ne]; omega
          clear hlt heq
          have HLA := Lib.hid (lessG h1 w4)
          have HLS := Lib.hid (lessS h1 w4)
          have HLB := Lib.hid (lessG h2 w4)
          have HAB := Lib.hid h1
          clear h1 h2
          refine wp_region_quiet_below (by kernel_rfl) (by kernel_rfl) ?_
          repeat (go_big_quiet_step (first | with_reducible exact HLA.out _ _ | with_reducible exact HLS.out _ _ | with_reducible exact HLB.out _ _))
          refine wpQuiet_nil ?_
          intro w5 hw'
          have hb5 : Below w4.heap.size w4 w5 := by obtain ⟨⟨dq, osq⟩, rfl⟩ := hw'; exact below_regrown _ _ _
          have hA5 : PosAt w5 A _ _ := PosAt.below hA3 hb5
          have hB5 : PosAt w5 (A + 1) _ _ := PosAt.below hB3 hb5
          have hC5 : PosAt w5 B c0 c1 := hC3.below hb5
          have hD5 : PosAt w5 (B + 1) d0 d1 := hD3.below hb5
          have HT5 : Hid (Tabs w5) := HT4.out.keep hb5
          have HB5 : Hid (Below w.heap.size w w5) := HB4.out.trans (hb5.mono HB4.out.size)
          clear hw' hb5 hA3 hB3 hC3 hD3 xa0 xa1 xb0 xb1
          have ya0 := hA5.d0
          have ya1 := hA5.d1
          have yb0 := hB5.d0
          have yb1 := hB5.d1
          go_wp2_with fail
          refine (implPosLess _ _ _ _ w5).mono ?_
          rintro e w6 ⟨rfl, hb6⟩
          rw [HAB.out]
          have hCX := hC5.below hb6
          have hDX := hD5.below hb6
          have HTX : Hid (Tabs w6) := HT5.out.keep hb6
          have HBX : Hid (Below w.heap.size w w6) := HB5.out.trans (hb6.mono HB5.out.size)
          have yc0 := hCX.d0
          have yc1 := hCX.d1
          clear hb6
          clear ya0 ya1 yb0 yb1
          go_wp2_with fail
          refine (implPosOff fourText _ _ _ HTX.out (by decide) (by omega) (by omega) (by omega) (by omega)).mono ?_
          rw [four_off hc0 hc1]
          rintro e w8 ⟨rfl, hb8⟩
          simp only [offT]
          have hC8 := hCX.below hb8
          have hD8 := hDX.below hb8
          have HT8 : Hid (Tabs w8) := HTX.out.keep hb8
          have HB8 : Hid (Below w.heap.size w w8) := HBX.out.trans (hb8.mono HBX.out.size)
          have yd0 := hD8.d0
          have yd1 := hD8.d1
          clear hb8
          go_wp2_with fail
          refine (implPosOff fourText _ _ _ HT8.out (by decide) (by omega) (by omega) (by omega) (by omega)).mono ?_
          rw [four_off hd0 hd1]
          rintro e w9 ⟨rfl, hb9⟩
          simp only [offT]
          have hC9 := hC8.below hb9
          have hD9 := hD8.below hb9
          have HB9 : Hid (Below w.heap.size w w9) := HB8.out.trans (hb9.mono HB8.out.size)
          clear hb9 yd0 yd1
          have yd0 := hD9.d0
          have yd1 := hD9.d1
          have yc0 := hC9.d0
          have yc1 := hC9.d1
          go_wp2_with fail
          refine (implPosLess _ _ _ _ w9).mono ?_
          rintro e w10 ⟨rfl, hb10⟩
          have HBE : Hid (Below w.heap.size w w10) := HB9.out.trans (hb10.mono HB9.out.size)
          rw [four_less hc1 hd1]
          clear hb10
          go_wp2_with fail
          go_ret
          exact ⟨by simp, HBE.out⟩
end Go.Proofs.YtdimljolinmofaaDoor
