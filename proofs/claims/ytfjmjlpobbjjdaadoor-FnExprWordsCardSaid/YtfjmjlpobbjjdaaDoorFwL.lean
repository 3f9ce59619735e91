/- FnExprWords. -/
import Derived.Test.YtfjmjlpobbjjdaaDoorFwA
namespace Go.Proofs.YtfjmjlpobbjjdaaDoor
open Go.RowKit Ilp
set_option linter.unusedVariables false
set_option linter.unusedSimpArgs false

def waAct (g f : Nat → Value) : Act := { tmps := #[g 0, g 1, g 2, g 3, g 4, g 5, g 6, g 7, g 8, g 9, g 10, g 11, g 12, g 13, g 14, g 15, g 16, g 17, f 0, f 1, f 2, f 3, f 4, f 5, f 6, f 7, f 8, f 9, f 10, g 29, g 30, g 31, g 32, g 33, g 34, g 35, g 36, g 37, g 38, g 39, g 40, g 41, g 42, g 43, g 44, g 45, g 46, g 47, g 48, g 49, g 50, g 51, g 52, g 53, g 54, g 55, g 56, g 57, g 58, g 59, g 60, g 61, g 62, g 63, g 64, g 65, g 66, g 67, g 68, g 69, g 70, g 71, g 72, g 73, g 74, g 75, g 76, g 77, g 78, g 79, g 80, g 81, g 82, g 83, g 84, g 85, g 86, g 87, g 88, g 89, g 90, g 91, g 92], defers := [] }
def waS : Nat → Nat
  | 0 => 18
  | 1 => 19
  | 2 => 20
  | 3 => 21
  | 4 => 22
  | 5 => 23
  | 6 => 24
  | 7 => 25
  | 8 => 26
  | 9 => 27
  | 10 => 28
  | _ => 0
def waR : List Nat := [3]
def waU : Nat → Nat
  | _ => 1000
def waL (n1 : Nat) : Nat → Nat
  | 3 => n1
  | _ => 0
def waX (z1 : List Value) : Nat → List Value
  | 3 => z1
  | _ => []
def waC (eb : Bool) (nw : Nat) (X : ByteArray) (y1 y2 : Value) : Nat → Value
  | 0 => y1
  | 1 => (.string X)
  | 2 => y2
  | 4 => (.string X)
  | 5 => (.bool false)
  | 6 => (.bool false)
  | 7 => y1
  | 8 => (.int .i64 (nw : Int))
  | 9 => (.bool eb)
  | 10 => (.bool eb)
  | _ => undef
def wbAct (g f : Nat → Value) : Act := { tmps := #[g 0, g 1, f 6, g 3, g 4, g 5, g 6, g 7, g 8, g 9, g 10, g 11, g 12, g 13, g 14, g 15, g 16, g 17, g 18, g 19, g 20, g 21, g 22, g 23, g 24, g 25, g 26, g 27, g 28, f 0, f 1, f 2, f 3, f 4, f 5, g 35, g 36, g 37, g 38, g 39, g 40, g 41, g 42, g 43, g 44, g 45, g 46, g 47, g 48, g 49, g 50, g 51, g 52, g 53, g 54, g 55, g 56, g 57, g 58, g 59, g 60, g 61, g 62, g 63, g 64, g 65, g 66, g 67, g 68, g 69, g 70, g 71, g 72, g 73, g 74, g 75, g 76, g 77, g 78, g 79, g 80, g 81, g 82, g 83, g 84, g 85, g 86, g 87, g 88, g 89, g 90, g 91, g 92], defers := [] }
def wbS : Nat → Nat
  | 0 => 29
  | 1 => 30
  | 2 => 31
  | 3 => 32
  | 4 => 33
  | 5 => 34
  | 6 => 2
  | _ => 0
def wbR : List Nat := [3]
def wbU : Nat → Nat
  | _ => 1000
def wbL (n1 : Nat) : Nat → Nat
  | 3 => n1
  | _ => 0
def wbX (z1 : List Value) : Nat → List Value
  | 3 => z1
  | _ => []
def wbC (X : ByteArray) (y1 y2 : Value) : Nat → Value
  | 0 => y1
  | 1 => (.string X)
  | 2 => y2
  | 4 => (.string X)
  | 5 => (.bool true)
  | 6 => (.bool true)
  | _ => undef

set_option maxHeartbeats 8000000 in
set_option maxRecDepth 20000 in
theorem law_FnExprWords (a : Option Addr) (n c : Nat) (z : List Int) (w : World) (hsh : w.ShapedOpen Tryd.prog) (hT : Tabs w) (hz : IsRow .u8 w a n c z) :
    Calls Tryd.prog 5 #[.slice a n c] w fun e w' => e = .returned (.bool true) ∧ Below w.heap.size w w' := by
  have HZ := Lib.hid hz
  have HT := Lib.hid hT
  have hn : (n : Int) ≤ 9223372036854775807 := hz.row.2.2.2.1
  clear hz hT hsh
  go_enter Tryd.func5, Tryd.ntmps5
  by_cases hbig : (1048576 : Int) < (n : Int)
  · have hbig2 : (n : Int) > 1048576 := hbig
    go_wp2_with fail
    go_ret
    exact ⟨rfl, Below.refl _ _⟩
  have hbig2 : ¬ (n : Int) > 1048576 := hbig
  go_wp2_with fail
  refine (drawExprWords a n c z w HZ.out).mono ?_
  rintro e w1 ⟨k, m, s, A, l, cc, t, rfl, hev, hw, _, hb1⟩
  have hal : Below w1.heap.size w1 (w1.alloc (.cells #[.int .i64 k, .int .i64 m, .string s, .slice A l cc] 25)) := (Below.refl _ _).alloc (Nat.le_refl _) _
  have S2 : Hid (CopS w1.heap.size k m s A l cc t (w1.alloc (.cells #[.int .i64 k, .int .i64 m, .string s, .slice A l cc] 25))) := ⟨Blk.alloc_ w1 25 [.int .i64 k, .int .i64 m, .string s, .slice A l cc], hev.below hal⟩
  have HB2 : Hid (Below w.heap.size w (w1.alloc (.cells #[.int .i64 k, .int .i64 m, .string s, .slice A l cc] 25))) := hb1.trans (hal.mono hb1.size)
  have hw2 : wgt t ≤ 1048576 := by omega
  have HW := Lib.hid hw2
  clear hev hw hb1 hw2 hbig hbig2 HZ hal hn
  go_upto_region 4 with (fail)
  generalize w1.alloc (.cells #[.int .i64 k, .int .i64 m, .string s, .slice A l cc] 25) = w2 at *
  generalize w1.heap.size = Y at *
  have CW := Lib.hid (implExprWords k m s A l cc t w2 S2.out.ka HW.out (HT.out.keep HB2.out))
  obtain ⟨a0, a1, a2, a3⟩ := blkE_cells S2.out.ba
  go_wp2_with fail
  refine CW.out.mono ?_
  rintro e w0 ⟨v3, rfl, hown, hb3⟩
  obtain ⟨A4, c4, rfl, hnc, hcm, hr4⟩ := own_row1 hown
  obtain ⟨nw, hnw⟩ : ∃ nw, nw = (wordsOf t).length := ⟨_, rfl⟩
  rw [← hnw] at hnc ⊢
  have HNW := Lib.hid hnw
  have hnw60 : nw ≤ 60 := by rw [hnw]; exact wordsOf_len t
  have SZ := Lib.hid (S2.out.next hb3)
  have HB := Lib.hid (HB2.out.trans (hb3.mono HB2.out.size))
  have HR := Lib.hid hr4
  clear hown hb3 hr4 hnw S2 HB2 CW a0 a1 a2 a3 hcm
  obtain ⟨X, hX⟩ : ∃ X, textE t = X := ⟨_, rfl⟩
  have HX := Lib.hid hX
  have HXJ : Hid (joinB 32 (wordsB t) = X) := hX
  clear hX
  have hx1 : (X.toList != X.toList) = false := by simp
  have hx2 : (X.toList == X.toList) = true := by simp
  have CI : Hid (∀ W, Below w0.heap.size w0 W → Calls Tryd.prog 28 #[.slice A4 nw c4] W fun e w' => e = .returned (.string X) ∧ Below W.heap.size W w') := by
    intro W hb
    refine (implTokText A4 c4 nw (wordsB t) W ((HR.out.below hb).more hb.size) (by unfold Hid wordsB; rw [HNW.out]; simp) hnc (by unfold Hid; have := wordsB_sizes t; omega)).mono ?_
    rintro e w' ⟨rfl, hb'⟩
    exact ⟨congrArg (fun x => Ending.returned (.string x)) HXJ.out, hb'⟩
  go_upto_region 5 with (fail)
  obtain ⟨eb, hnb⟩ : ∃ eb, ((nw : Int) == 0) = eb := ⟨_, rfl⟩
  refine region_of ?_
  intro arr harr
  obtain ⟨gA, hg⟩ : ∃ g : Nat → Value, g = fun j => arr.getD j undef := ⟨_, rfl⟩
  have hg3 : gA 3 = (.pointer (some ⟨Y, 0, none⟩)) := by rw [hg, harr]; rfl
  have hg4 : gA 4 = (.slice A4 nw c4) := by rw [hg, harr]; rfl
  refine wp_region_inv rfl (RgK 11 waAct gA (fun _ _ => True) (RgI w0 none 9 1 waR 1000 11 (gA 0) waU (waL (wordsOf t).length) (waX (wsB (wordsOf t))) (waC eb nw X (.slice A4 nw c4) (.agg #[.int .i64 k, .int .i64 m, .string s, .slice A l cc])))) ?h0 ?hs ?hd
  case h0 =>
    refine ⟨by simp, trivial, fun j => gA (waS j), fun _ => (gA 0), by rw [hg, harr]; rfl, RgI.init (grown_drew (World.grownBy.refl w0 none)) (fun k e => by cases e) ?_ (by rw [hg, harr]; rfl)⟩
    exact fun e => absurd e (by decide)
  case hs =>
    clear hg harr
    rintro listed a W i ⟨hsz, hx, f, g', rfl, h⟩ hi
    obtain ⟨hn, o, ho, haft⟩ := mem_ready.1 hi
    have hiN : i < 11 := by have := (Array.getElem?_eq_some_iff.1 ho).1; simpa using this
    have hcs : i = 0 ∨ i = 1 ∨ i = 2 ∨ i = 3 ∨ i = 4 ∨ i = 5 ∨ i = 6 ∨ i = 7 ∨ i = 8 ∨ i = 9 ∨ i = 10 := by omega
    clear hi hiN
    have hng := ngot hn
    rcases hcs with rfl | rfl | rfl | rfl | rfl | rfl | rfl | rfl | rfl | rfl | rfl
    all_goals (simp at ho; subst ho)
    · refine wpOp_of_list rfl ?_
      simp only [waAct, hg3, hg4]
      go_wp2_with fail
      change (listed.setIfInBounds 0 true).size = 11 ∧ _
      refine ⟨by simp [hsz], trivial, upd f 0 (.slice A4 nw c4), upd g' 0 (.slice A4 nw c4), ?_, h.quiet (by omega) hng (by omega) (by decide) (by decide) rfl (World.grownBy.refl W none) (.inl rfl)⟩
      simp only [waAct, upd, hg3, hg4]
      try rfl
    · have g0 : got listed 0 := haft ⟨0, .data⟩ (by simp) rfl
      have e0 : f 0 = (.slice A4 nw c4) := h.cv 0 (by decide) g0
      refine wpOp_of_list rfl ?_
      simp only [waAct, hg3, hg4, e0]
      go_wp2_with fail
      refine (CI.out W (below_of h.be)).mono ?_
      rintro e W' ⟨rfl, hb⟩
      go_wp2_with fail
      change (listed.setIfInBounds 1 true).size = 11 ∧ _
      refine ⟨by simp [hsz], trivial, upd f 1 (.string X), upd g' 1 (.string X), ?_, h.quiet (by omega) hng (by omega) (by decide) (by decide) rfl (below_grown hb none) (.inl rfl)⟩
      simp only [waAct, upd, hg3, hg4, e0]
      try rfl
    · obtain ⟨a0, a1, a2, a3⟩ := blkE_cells (SZ.out.next (below_of h.be)).ba
      refine wpOp_of_list rfl ?_
      simp only [waAct, hg3, hg4]
      go_wp2_with fail
      change (listed.setIfInBounds 2 true).size = 11 ∧ _
      refine ⟨by simp [hsz], trivial, upd f 2 (.agg #[.int .i64 k, .int .i64 m, .string s, .slice A l cc]), upd g' 2 (.agg #[.int .i64 k, .int .i64 m, .string s, .slice A l cc]), ?_, h.quiet (by omega) hng (by omega) (by decide) (by decide) rfl (World.grownBy.refl W none) (.inl rfl)⟩
      simp only [waAct, upd, hg3, hg4]
      try rfl
    · have g2 : got listed 2 := haft ⟨2, .data⟩ (by simp) rfl
      have e2 : f 2 = (.agg #[.int .i64 k, .int .i64 m, .string s, .slice A l cc]) := h.cv 2 (by decide) g2
      refine wpOp_of_list rfl ?_
      simp only [waAct, hg3, hg4, e2]
      go_wp2_with fail
      refine (specExprWords k m s A l cc t W (SZ.out.next (below_of h.be)).ka HW.out).mono ?_
      rintro e W' ⟨v, rfl, hown, hb⟩
      go_wp2_with fail
      change (listed.setIfInBounds 3 true).size = 11 ∧ _
      refine ⟨by simp [hsz], trivial, upd f 3 v, upd g' 3 v, ?_, h.fresh (by omega) hng (by omega) (by decide) (by decide) (below_grown hb none) (.inl rfl) hown rfl rfl⟩
      simp only [waAct, upd, hg3, hg4, e2]
      try rfl
    · have g3 : got listed 3 := haft ⟨3, .data⟩ (by simp) rfl
      have hownR := h.own (j := 3) (by decide) g3 (ngot_out (by rw [hsz]; decide))
      refine wpOp_of_list rfl ?_
      simp only [waAct, hg3, hg4]
      go_wp2_with fail
      refine (specText t (f 3) _ _ W hownR rfl).mono ?_
      rintro e W' ⟨he, hb⟩
      rw [HX.out] at he
      subst he
      go_wp2_with fail
      change (listed.setIfInBounds 4 true).size = 11 ∧ _
      refine ⟨by simp [hsz], trivial, upd f 4 (.string X), upd g' 4 (.string X), ?_, h.quiet (by omega) hng (by omega) (by decide) (by decide) rfl (below_grown hb none) (.inl rfl)⟩
      simp only [waAct, upd, hg3, hg4]
      try rfl
    · have g1 : got listed 1 := haft ⟨1, .data⟩ (by simp) rfl
      have g4 : got listed 4 := haft ⟨4, .data⟩ (by simp) rfl
      have e1 : f 1 = (.string X) := h.cv 1 (by decide) g1
      have e4 : f 4 = (.string X) := h.cv 4 (by decide) g4
      refine wpOp_of_list rfl ?_
      simp only [waAct, hg3, hg4, e1, e4]
      go_wp2_with fail
      change (listed.setIfInBounds 5 true).size = 11 ∧ _
      refine ⟨by simp [hsz], trivial, upd f 5 (.bool false), upd g' 5 (.bool false), ?_, h.quiet (by omega) hng (by omega) (by decide) (by decide) rfl (World.grownBy.refl W none) (.inl rfl)⟩
      simp only [waAct, upd, hg3, hg4, e1, e4]
      try rfl
    · have g5 : got listed 5 := haft ⟨5, .data⟩ (by simp) rfl
      have e5 : f 5 = (.bool false) := h.cv 5 (by decide) g5
      refine wpOp_of_list rfl ?_
      simp only [waAct, hg3, hg4, e5]
      go_wp2_with fail
      change (listed.setIfInBounds 6 true).size = 11 ∧ _
      refine ⟨by simp [hsz], trivial, upd f 6 (.bool false), upd g' 6 (.bool false), ?_, h.quiet (by omega) hng (by omega) (by decide) (by decide) rfl (World.grownBy.refl W none) (.inl rfl)⟩
      simp only [waAct, upd, hg3, hg4, e5]
      try rfl
    · have g6 : got listed 6 := haft ⟨6, .guard⟩ (by simp) rfl
      have e6 : f 6 = (.bool false) := h.cv 6 (by decide) g6
      refine wpOp_of_list rfl ?_
      simp only [waAct, hg3, hg4, e6]
      go_wp2_with fail
      change (listed.setIfInBounds 7 true).size = 11 ∧ _
      refine ⟨by simp [hsz], trivial, upd f 7 (.slice A4 nw c4), upd g' 7 (.slice A4 nw c4), ?_, h.quiet (by omega) hng (by omega) (by decide) (by decide) rfl (World.grownBy.refl W none) (.inl rfl)⟩
      simp only [waAct, upd, hg3, hg4, e6]
      try rfl
    · have g7 : got listed 7 := haft ⟨7, .data⟩ (by simp) rfl
      have g6 : got listed 6 := haft ⟨6, .guard⟩ (by simp) rfl
      have e6 : f 6 = (.bool false) := h.cv 6 (by decide) g6
      have e7 : f 7 = (.slice A4 nw c4) := h.cv 7 (by decide) g7
      refine wpOp_of_list rfl ?_
      simp only [waAct, hg3, hg4, e6, e7]
      go_wp2_with fail
      change (listed.setIfInBounds 8 true).size = 11 ∧ _
      refine ⟨by simp [hsz], trivial, upd f 8 (.int .i64 (nw : Int)), upd g' 8 (.int .i64 (nw : Int)), ?_, h.quiet (by omega) hng (by omega) (by decide) (by decide) rfl (World.grownBy.refl W none) (.inl rfl)⟩
      simp only [waAct, upd, hg3, hg4, e6, e7]
      try rfl
    · have g8 : got listed 8 := haft ⟨8, .data⟩ (by simp) rfl
      have g6 : got listed 6 := haft ⟨6, .guard⟩ (by simp) rfl
      have e6 : f 6 = (.bool false) := h.cv 6 (by decide) g6
      have e8 : f 8 = (.int .i64 (nw : Int)) := h.cv 8 (by decide) g8
      refine wpOp_of_list rfl ?_
      simp only [waAct, hg3, hg4, e6, e8]
      go_wp2_with fail
      change (listed.setIfInBounds 9 true).size = 11 ∧ _
      refine ⟨by simp [hsz], trivial, upd f 9 (.bool eb), upd g' 9 (.bool eb), ?_, h.quiet (by omega) hng (by omega) (by decide) (by decide) rfl (World.grownBy.refl W none) (.inl rfl)⟩
      simp only [waAct, upd, hg3, hg4, e6, e8]
      try rfl
    · have g6 : got listed 6 := haft ⟨6, .data⟩ (by simp) rfl
      have g9 : got listed 9 := haft ⟨9, .data⟩ (by simp) rfl
      have e6 : f 6 = (.bool false) := h.cv 6 (by decide) g6
      have e9 : f 9 = (.bool eb) := h.cv 9 (by decide) g9
      refine wpOp_of_list rfl ?_
      simp only [waAct, hg3, hg4, e6, e9]
      go_wp2_with fail
      change (listed.setIfInBounds 10 true).size = 11 ∧ _
      refine ⟨by simp [hsz], trivial, upd f 10 (.bool eb), upd g' 10 (.bool eb), ?_, h.quiet (by omega) hng (by omega) (by decide) (by decide) rfl (World.grownBy.refl W none) (.inl rfl)⟩
      simp only [waAct, upd, hg3, hg4, e6, e9]
      try rfl
  case hd =>
    rintro listed a wc ⟨hsz, hx, f, g', rfl, h⟩ hr
    have hall := ready_all (listed := listed) (by kernel_rfl) (by rw [hsz]; rfl) hr
    have e10 : f 10 = .bool eb := h.cv 10 (by decide) (hall 10 (by decide))
    have G1 := Lib.hid h.be
    clear hr h hx hall
    clear hg3 hg4
    subst hg harr
    simp only [waAct, e10]
    have S1 := Lib.hid (SZ.out.next (below_of G1.out))
    have HB1 : Hid (Below w.heap.size w wc) := HB.out.trans ((below_of G1.out).mono HB.out.size)
    have HR1 : Hid (Row wc wc.heap.size A4 (wsB (wordsOf t))) := (HR.out.below (below_of G1.out)).more (below_of G1.out).size
    have HBI := Lib.hid (below_of G1.out)
    clear SZ HB HR G1 hx1
    obtain ⟨wz, hwz⟩ : ∃ wz, wz = wc := ⟨_, rfl⟩
    rw [← hwz] at S1 HB1 HR1 HBI ⊢
    clear hwz
    cases eb with
    | true =>
      go_upto_region 6 with (fail)
      refine region_of ?_
      intro arr harr
      obtain ⟨gA, hg⟩ : ∃ g : Nat → Value, g = fun j => arr.getD j undef := ⟨_, rfl⟩
      have hg3 : gA 3 = (.pointer (some ⟨Y, 0, none⟩)) := by rw [hg, harr]; rfl
      have hg4 : gA 4 = (.slice A4 nw c4) := by rw [hg, harr]; rfl
      refine wp_region_inv rfl (RgK 7 wbAct gA (fun _ _ => True) (RgI wz none 9 1 wbR 1000 7 (gA 0) wbU (wbL (wordsOf t).length) (wbX (wsB (wordsOf t))) (wbC X (.slice A4 nw c4) (.agg #[.int .i64 k, .int .i64 m, .string s, .slice A l cc])))) ?h0 ?hs ?hd
      case h0 =>
        refine ⟨by simp, trivial, fun j => gA (wbS j), fun _ => (gA 0), by rw [hg, harr]; rfl, RgI.init (grown_drew (World.grownBy.refl wz none)) (fun k e => by cases e) ?_ (by rw [hg, harr]; rfl)⟩
        exact fun e => absurd e (by decide)
      case hs =>
        clear hg harr
        rintro listed a W i ⟨hsz, hx, f, g', rfl, h⟩ hi
        obtain ⟨hn, o, ho, haft⟩ := mem_ready.1 hi
        have hiN : i < 7 := by have := (Array.getElem?_eq_some_iff.1 ho).1; simpa using this
        have hcs : i = 0 ∨ i = 1 ∨ i = 2 ∨ i = 3 ∨ i = 4 ∨ i = 5 ∨ i = 6 := by omega
        clear hi hiN
        have hng := ngot hn
        rcases hcs with rfl | rfl | rfl | rfl | rfl | rfl | rfl
        all_goals (simp at ho; subst ho)
        · refine wpOp_of_list rfl ?_
          simp only [wbAct, hg3, hg4]
          go_wp2_with fail
          change (listed.setIfInBounds 0 true).size = 7 ∧ _
          refine ⟨by simp [hsz], trivial, upd f 0 (.slice A4 nw c4), upd g' 0 (.slice A4 nw c4), ?_, h.quiet (by omega) hng (by omega) (by decide) (by decide) rfl (World.grownBy.refl W none) (.inl rfl)⟩
          simp only [wbAct, upd, hg3, hg4]
          try rfl
        · have g0 : got listed 0 := haft ⟨0, .data⟩ (by simp) rfl
          have e0 : f 0 = (.slice A4 nw c4) := h.cv 0 (by decide) g0
          refine wpOp_of_list rfl ?_
          simp only [wbAct, hg3, hg4, e0]
          go_wp2_with fail
          refine (CI.out W (HBI.out.trans ((below_of h.be).mono HBI.out.size))).mono ?_
          rintro e W' ⟨rfl, hb⟩
          go_wp2_with fail
          change (listed.setIfInBounds 1 true).size = 7 ∧ _
          refine ⟨by simp [hsz], trivial, upd f 1 (.string X), upd g' 1 (.string X), ?_, h.quiet (by omega) hng (by omega) (by decide) (by decide) rfl (below_grown hb none) (.inl rfl)⟩
          simp only [wbAct, upd, hg3, hg4, e0]
          try rfl
        · obtain ⟨a0, a1, a2, a3⟩ := blkE_cells (S1.out.next (below_of h.be)).ba
          refine wpOp_of_list rfl ?_
          simp only [wbAct, hg3, hg4]
          go_wp2_with fail
          change (listed.setIfInBounds 2 true).size = 7 ∧ _
          refine ⟨by simp [hsz], trivial, upd f 2 (.agg #[.int .i64 k, .int .i64 m, .string s, .slice A l cc]), upd g' 2 (.agg #[.int .i64 k, .int .i64 m, .string s, .slice A l cc]), ?_, h.quiet (by omega) hng (by omega) (by decide) (by decide) rfl (World.grownBy.refl W none) (.inl rfl)⟩
          simp only [wbAct, upd, hg3, hg4]
          try rfl
        · have g2 : got listed 2 := haft ⟨2, .data⟩ (by simp) rfl
          have e2 : f 2 = (.agg #[.int .i64 k, .int .i64 m, .string s, .slice A l cc]) := h.cv 2 (by decide) g2
          refine wpOp_of_list rfl ?_
          simp only [wbAct, hg3, hg4, e2]
          go_wp2_with fail
          refine (specExprWords k m s A l cc t W (S1.out.next (below_of h.be)).ka HW.out).mono ?_
          rintro e W' ⟨v, rfl, hown, hb⟩
          go_wp2_with fail
          change (listed.setIfInBounds 3 true).size = 7 ∧ _
          refine ⟨by simp [hsz], trivial, upd f 3 v, upd g' 3 v, ?_, h.fresh (by omega) hng (by omega) (by decide) (by decide) (below_grown hb none) (.inl rfl) hown rfl rfl⟩
          simp only [wbAct, upd, hg3, hg4, e2]
          try rfl
        · have g3 : got listed 3 := haft ⟨3, .data⟩ (by simp) rfl
          have hownR := h.own (j := 3) (by decide) g3 (ngot_out (by rw [hsz]; decide))
          refine wpOp_of_list rfl ?_
          simp only [wbAct, hg3, hg4]
          go_wp2_with fail
          refine (specText t (f 3) _ _ W hownR rfl).mono ?_
          rintro e W' ⟨he, hb⟩
          rw [HX.out] at he
          subst he
          go_wp2_with fail
          change (listed.setIfInBounds 4 true).size = 7 ∧ _
          refine ⟨by simp [hsz], trivial, upd f 4 (.string X), upd g' 4 (.string X), ?_, h.quiet (by omega) hng (by omega) (by decide) (by decide) rfl (below_grown hb none) (.inl rfl)⟩
          simp only [wbAct, upd, hg3, hg4]
          try rfl
        · have g1 : got listed 1 := haft ⟨1, .data⟩ (by simp) rfl
          have g4 : got listed 4 := haft ⟨4, .data⟩ (by simp) rfl
          have e1 : f 1 = (.string X) := h.cv 1 (by decide) g1
          have e4 : f 4 = (.string X) := h.cv 4 (by decide) g4
          refine wpOp_of_list rfl ?_
          simp only [wbAct, hg3, hg4, e1, e4]
          go_wp2_with fail
          change (listed.setIfInBounds 5 true).size = 7 ∧ _
          refine ⟨by simp [hsz], trivial, upd f 5 (.bool true), upd g' 5 (.bool true), ?_, h.quiet (by omega) hng (by omega) (by decide) (by decide) rfl (World.grownBy.refl W none) (.inl rfl)⟩
          simp only [wbAct, upd, hg3, hg4, e1, e4]
          try rfl
        · have g5 : got listed 5 := haft ⟨5, .data⟩ (by simp) rfl
          have e5 : f 5 = (.bool true) := h.cv 5 (by decide) g5
          refine wpOp_of_list rfl ?_
          simp only [wbAct, hg3, hg4, e5]
          go_wp2_with fail
          change (listed.setIfInBounds 6 true).size = 7 ∧ _
          refine ⟨by simp [hsz], trivial, upd f 6 (.bool true), upd g' 6 (.bool true), ?_, h.quiet (by omega) hng (by omega) (by decide) (by decide) rfl (World.grownBy.refl W none) (.inl rfl)⟩
          simp only [wbAct, upd, hg3, hg4, e5]
          try rfl
      case hd =>
        rintro listed a wc ⟨hsz, hx, f, g', rfl, h⟩ hr
        have hall := ready_all (listed := listed) (by kernel_rfl) (by rw [hsz]; rfl) hr
        have e6 : f 6 = .bool true := h.cv 6 (by decide) (hall 6 (by decide))
        have HBF : Hid (Below w.heap.size w wc) := HB1.out.trans ((below_of h.be).mono HB1.out.size)
        clear hr h hx hall harr hg
        simp only [wbAct, hg3, hg4, e6]
        go_wp2_with fail
        go_ret
        exact ⟨rfl, HBF.out⟩
    | false =>
      have hnw0 : 0 < nw := by
        rcases Nat.eq_zero_or_pos nw with e | e
        · rw [e] at hnb; simp at hnb
        · exact e
      obtain ⟨is0, his, hs0, hs1, hs2⟩ := info_parts strInfo
      have hwl : (wsB (wordsOf t)).length = nw := by rw [wsB_len]; exact HNW.out.symm
      obtain ⟨b4, o4, rfl, hb4, hcz⟩ := HR1.out.at_ (i := 0) (by rw [hwl]; exact hnw0)
      clear hcz
      have HWL := Lib.hid hwl
      have hnb2 : ¬ ((nw : Int) = 0) := by omega
      clear hwl CI HX HXJ hx2 HBI S1 HW
      go_wp2_with fail
      go_loopw [5, 6] (fun u v wr => ∃ i : Nat, u = .int .i64 (opn t i) ∧ v = .int .i64 (i : Int) ∧ i ≤ nw ∧ Below wz.heap.size wz wr) (fun _ v _ => nw - (intOf v).toNat)
      case atStart => exact ⟨0, by rw [opn_zero], rfl, Nat.zero_le _, Below.refl _ _⟩
      case round =>
        obtain ⟨i, rfl, rfl, hi, hbw⟩ := hrel
        have HBW := Lib.hid hbw
        clear hbw
        by_cases hlt : i < nw
        · have hil : i < (wordsOf t).length := by rw [← HNW.out]; exact hlt
          obtain ⟨x, hx⟩ : ∃ x, x = (wordsOf t)[i] := ⟨_, rfl⟩
          have hgt : (wsB (wordsOf t))[i]? = some (.string (mkB x)) := by unfold wsB strB; rw [hx]; simp [hil]
          obtain ⟨b', o', e', _, hce⟩ := HR1.out i _ hgt
          injection e' with e'
          injection e' with e1 e2
          subst e1 e2
          have hcell := (HBW.out.cell (p := ⟨b4, o4 + i, none⟩) hb4).trans hce
          obtain ⟨hk0, hk8⟩ := wordsOf_word t x (by rw [hx]; exact List.getElem_mem _)
          obtain ⟨g, hg⟩ : ∃ g, g = mkB x := ⟨_, rfl⟩
          rw [← hg] at hcell
          have hgl : g.toList = x := by rw [hg, ByteArray.toList_eq, mkB_data]
          have hgs : g.size = x.length := by rw [hg, mkB_size]
          have HBR : Hid (Below w.heap.size w wr) := HB1.out.trans (HBW.out.mono HB1.out.size)
          have CK := Lib.hid (implTokKind g wr (HT.out.keep HBR.out) (by omega))
          obtain ⟨tk, htk⟩ : ∃ tk, tk = tokKind g.data.toList := ⟨_, rfl⟩
          have hk1 : tk ≠ 0 := by rw [htk, hg, mkB_data]; exact hk0
          rw [← htk] at CK
          have hk : ((tk : Int) == 0) = false := by rw [beq_eq_false_iff_ne]; omega
          have hnx := opn_next t hil
          rw [← hx] at hnx
          have hq0 := opn_ge t i
          have hq1 := opn_le t i
          have hp0 := opn_ge t (i + 1)
          obtain ⟨q, hq⟩ : ∃ q, q = opn t i := ⟨_, rfl⟩
          obtain ⟨p, hp⟩ : ∃ p, p = opn t (i + 1) := ⟨_, rfl⟩
          have HP := Lib.hid hp
          rw [← hp, ← hq] at hnx
          rw [← hp] at hp0
          rw [← hq] at hq0 hq1 ⊢
          have hi0 : (0 : Int) ≤ (i : Int) := by omega
          have hi1 : (i : Int) < (nw : Int) := by omega
          have hp1 : ¬ p < 0 := by omega
          have hp2 : (p < 0) = False := eq_false hp1
          clear hgt hce hk0 hk8 hg hgs hk1 htk hq hp hil hx
          by_cases h40 : x = [40]
          · rw [if_pos h40] at hnx
            have g1 : (g.toList == [40]) = true := by rw [hgl, h40]; rfl
            have g2 : (g.toList == [41]) = false := by rw [hgl, h40]; rfl
            have hpq : q + 1 = p := hnx.symm
            clear h40 hgl hnx
            go_wp2_with fail
            refine CK.out.mono ?_
            rintro e w' ⟨rfl, hb'⟩
            have HB' : Hid (Below wz.heap.size wz w') := HBW.out.trans (hb'.mono HBW.out.size)
            clear hb' hcell CK
            go_wp2_with fail
            go_roundw
            case rel => (repeat apply Exists.intro); exact ⟨⟨i + 1, by rw [HP.out], by go_num, by omega, HB'.out⟩, rfl⟩
            case measure => simp [intOf]; omega
          · rw [if_neg h40] at hnx
            have g1 : (g.toList == [40]) = false := by rw [hgl, beq_eq_false_iff_ne]; exact h40
            by_cases h41 : x = [41]
            · rw [if_pos h41] at hnx
              have g2 : (g.toList == [41]) = true := by rw [hgl, h41]; rfl
              have hpq : q - 1 = p := by omega
              clear h41 h40 hgl hnx
              go_wp2_with fail
              refine CK.out.mono ?_
              rintro e w' ⟨rfl, hb'⟩
              have HB' : Hid (Below wz.heap.size wz w') := HBW.out.trans (hb'.mono HBW.out.size)
              clear hb' hcell CK
              go_wp2_with fail
              go_roundw
              case rel => (repeat apply Exists.intro); exact ⟨⟨i + 1, by rw [HP.out], by go_num, by omega, HB'.out⟩, rfl⟩
              case measure => simp [intOf]; omega
            · rw [if_neg h41] at hnx
              have g2 : (g.toList == [41]) = false := by rw [hgl, beq_eq_false_iff_ne]; exact h41
              obtain rfl : q = p := by omega
              clear h41 h40 hgl hnx
              go_wp2_with fail
              refine CK.out.mono ?_
              rintro e w' ⟨rfl, hb'⟩
              have HB' : Hid (Below wz.heap.size wz w') := HBW.out.trans (hb'.mono HBW.out.size)
              clear hb' hcell CK
              go_wp2_with fail
              go_roundw
              case rel => (repeat apply Exists.intro); exact ⟨⟨i + 1, by rw [HP.out], by go_num, by omega, HB'.out⟩, rfl⟩
              case measure => simp [intOf]; omega
        · obtain rfl : i = nw := by omega
          have hz : opn t i = 0 := by rw [HNW.out]; exact opn_all t
          rw [hz]
          have HBR : Hid (Below w.heap.size w wr) := HB1.out.trans (HBW.out.mono HB1.out.size)
          have HRR : Hid (Row wr wr.heap.size (some ⟨b4, o4, none⟩) (wsB (wordsOf t))) := (HR1.out.below HBW.out).more HBW.out.size
          have hlt2 : ¬ ((i : Int) < (i : Int)) := by omega
          have hne : wordsOf t ≠ [] := by intro e; rw [e] at HNW; have := HNW.out; simp at this; omega
          have HNE := Lib.hid hne
          clear HB1 HR1 HBW hz hi hlt hne hnb hnb2
          go_upto_region 17 with (fail)
          have hal := (Below.refl wr.heap.size wr).alloc (Nat.le_refl _) (.cells #[.string ⟨#[40]⟩] 9)
          have O1 : Hid ((wr.alloc (.cells #[.string ⟨#[40]⟩] 9)).ownsRow wr.heap.size 9 1 (.slice (some ⟨wr.heap.size, 0, none⟩) 1 1) 1 [.string ⟨#[40]⟩]) := World.ownsRow_lit wr #[.string ⟨#[40]⟩] 1 (Nat.le_refl _) (by unfold maxLen; omega) rfl
          have R1 := Lib.hid (row_addj (HRR.out.below hal))
          clear hal
          go_wp2_with (at_builtin; refine wpList_append_own_at _ rfl _ _ 26 rfl wr.heap.size 9 is0 (.string ByteArray.empty) 1 16 Tryd.underlying26 his hs0 hs1 hs2 rfl (by decide) _ _ _ rfl O1.out ⟨b4, o4, none⟩ i c4 (wsB (wordsOf t)) rfl ?c0 ?c1 ?c2 ?c3 ?c4 ?c5 ?_)
          case c0 => rw [HWL.out]
          case c1 => exact R1.out
          case c2 => exact wsB_one
          case c3 => unfold maxLen; omega
          case c4 => omega
          intro v1 wa hown1 hg1 _ hat1
          have G1 := Lib.hid ((World.grownBy_alloc wr (.cells #[.string ⟨#[40]⟩] 9) none).andThen hg1 (fun j hj => .inl (O1.out.lt j hj).1))
          have O2 : Hid ((wa.alloc (.cells #[.string ⟨#[41]⟩] 9)).ownsRow wr.heap.size 9 1 v1 (1 + i) ([.string ⟨#[40]⟩] ++ wsB (wordsOf t))) := hown1.alloc _
          have R2 := Lib.hid (cell_one_new wa (.string ⟨#[41]⟩) 9)
          clear hown1 hg1 hat1 O1 R1
          go_wp2_with (at_builtin; refine wpList_append_own_at _ rfl _ _ 26 rfl wr.heap.size 9 is0 (.string ByteArray.empty) 1 16 Tryd.underlying26 his hs0 hs1 hs2 rfl (by decide) _ _ _ rfl O2.out ⟨wa.heap.size, 0, none⟩ 1 1 [.string ⟨#[41]⟩] rfl rfl ?d1 ?d2 ?d3 ?d4 ?d5 ?_)
          case d1 => exact R2.out
          case d2 => intro u hu; simp at hu; subst hu; rfl
          case d3 => unfold maxLen; omega
          case d4 => omega
          case d5 => exact Nat.le_trans G1.out.size (by simp)
          intro v2 wb hown2 hg2 _ _
          have G2 := (G1.out.trans (World.grownBy_alloc wa (.cells #[.string ⟨#[41]⟩] 9) none)).andThen hg2 (fun j hj => .inl (O2.out.lt j hj).1)
          have HBb := Lib.hid (below_of G2)
          have C3 := Lib.hid (readNot v2 (1 + i + 1) wr.heap.size (mkB [40] :: ((wordsOf t).map mkB ++ [mkB [41]])) wb (by
            have e : [Value.string ⟨#[40]⟩] ++ wsB (wordsOf t) ++ [Value.string ⟨#[41]⟩] = strB (mkB [40] :: ((wordsOf t).map mkB ++ [mkB [41]])) := by simp [wsB, strB, mkB]
            rw [← e]; exact hown2) (by simp [← HNW.out]; omega) (bytes8 t) (HT.out.keep (HBR.out.trans (HBb.out.mono HBR.out.size))) (fun t' h => no_brk HNE.out h))
          clear hown2 hg2 G2 G1 O2 R2
          go_wp2_with fail
          refine C3.out.mono ?_
          rintro e wd ⟨k1, n1, s1, A1, l1, c1, rfl, hb5⟩
          have HBd : Hid (Below wr.heap.size wr (wd.alloc (.cells #[.int .i64 k1, .int .i64 n1, .string s1, .slice A1 l1 c1] 25))) := (HBb.out.trans (hb5.mono HBb.out.size)).alloc (Nat.le_trans HBb.out.size hb5.size) _
          clear hb5 C3 HBb
          go_upto_region 18 with (fail)
          obtain ⟨wf, hwf⟩ : ∃ wf, wf = wd.alloc (.cells #[.int .i64 k1, .int .i64 n1, .string s1, .slice A1 l1 c1] 25) := ⟨_, rfl⟩
          rw [← hwf] at HBd ⊢
          clear hwf
          have HBF : Hid (Below w.heap.size w wf) := HBR.out.trans (HBd.out.mono HBR.out.size)
          have hal := (Below.refl wf.heap.size wf).alloc (Nat.le_refl _) (.cells #[] 9)
          have O1 : Hid ((wf.alloc (.cells #[] 9)).ownsRow wf.heap.size 9 1 (.slice (some ⟨wf.heap.size, 0, none⟩) 0 0) 0 []) := (own_behind (Below.refl _ _)).1
          have R1 := Lib.hid (row_add3 (((HRR.out.below HBd.out).more HBd.out.size).below hal))
          clear hal HRR HBR HBd
          go_wp2_with (at_builtin; refine wpList_append_own_at _ rfl _ _ 26 rfl wf.heap.size 9 is0 (.string ByteArray.empty) 1 16 Tryd.underlying26 his hs0 hs1 hs2 rfl (by decide) _ _ _ rfl O1.out ⟨b4, o4, none⟩ i c4 (wsB (wordsOf t)) rfl ?e0 ?e1 ?e2 ?e3 ?e4 ?e5 ?_)
          case e0 => rw [HWL.out]; omega
          case e1 => exact R1.out
          case e2 => exact wsB_one
          case e3 => unfold maxLen; omega
          case e4 => omega
          case e5 => simp
          intro v1 wa hown1 hg1 _ hat1
          have G1 := Lib.hid ((World.grownBy_alloc wf (.cells #[] 9) none).andThen hg1 (fun j hj => .inl (O1.out.lt j hj).1))
          have O2 : Hid ((wa.alloc (.cells #[.string ⟨#[41]⟩] 9)).ownsRow wf.heap.size 9 1 v1 i (wsB (wordsOf t))) := hown1.alloc _
          have R2 := Lib.hid (cell_one_new wa (.string ⟨#[41]⟩) 9)
          clear hown1 hg1 hat1 O1 R1
          go_wp2_with (at_builtin; refine wpList_append_own_at _ rfl _ _ 26 rfl wf.heap.size 9 is0 (.string ByteArray.empty) 1 16 Tryd.underlying26 his hs0 hs1 hs2 rfl (by decide) _ _ _ rfl O2.out ⟨wa.heap.size, 0, none⟩ 1 1 [.string ⟨#[41]⟩] rfl rfl ?g1 ?g2 ?g3 ?g4 ?g5 ?_)
          case g1 => exact R2.out
          case g2 => intro u hu; simp at hu; subst hu; rfl
          case g3 => unfold maxLen; omega
          case g4 => omega
          case g5 => exact Nat.le_trans G1.out.size (by simp)
          intro v2 wb hown2 hg2 _ _
          have G2 := (G1.out.trans (World.grownBy_alloc wa (.cells #[.string ⟨#[41]⟩] 9) none)).andThen hg2 (fun j hj => .inl (O2.out.lt j hj).1)
          have HBb := Lib.hid (below_of G2)
          have HBG := Lib.hid (HBF.out.trans (HBb.out.mono HBF.out.size))
          have C3 := Lib.hid (readNot v2 (i + 1) wf.heap.size ((wordsOf t).map mkB ++ [mkB [41]]) wb (by
            have e : wsB (wordsOf t) ++ [Value.string ⟨#[41]⟩] = strB ((wordsOf t).map mkB ++ [mkB [41]]) := by simp [wsB, strB, mkB]
            rw [← e]; exact hown2) (by simp [← HNW.out]) (fun x hx => bytes8 t x (List.mem_cons_of_mem _ hx)) (HT.out.keep HBG.out) (fun t' h => no_tail HNE.out h))
          clear hown2 hg2 G2 G1 O2 R2 HBb
          go_wp2_with fail
          refine C3.out.mono ?_
          rintro e wd ⟨k2, n2, s2, A2, l2, c2, rfl, hb5⟩
          have HBE : Hid (Below w.heap.size w (wd.alloc (.cells #[.int .i64 k2, .int .i64 n2, .string s2, .slice A2 l2 c2] 25))) := (HBG.out.trans (hb5.mono HBG.out.size)).alloc (Nat.le_trans HBG.out.size hb5.size) _
          clear hb5 C3
          go_upto_region 19 with (fail)
          go_wp2_with fail
          go_ret
          exact ⟨rfl, HBE.out⟩
end Go.Proofs.YtfjmjlpobbjjdaaDoor
