/- FnExprSame. -/
import Derived.Test.YtfjmjlpobbjjdaaDoorSmA
namespace Go.Proofs.YtfjmjlpobbjjdaaDoor
open Go.RowKit Ilp
set_option linter.unusedVariables false
set_option linter.unusedSimpArgs false

def saAct (g f : Nat → Value) : Act := { tmps := #[g 0, g 1, g 2, g 3, g 4, g 5, g 6, g 7, g 8, g 9, g 10, g 11, g 12, g 13, g 14, g 15, g 16, g 17, g 18, g 19, g 20, g 21, g 22, g 23, f 0, f 1, f 2, f 3, f 4, f 5, f 6, f 7, f 8, f 9, f 10, f 11, f 12, f 13, f 14, f 15, f 16, f 17, f 18, f 19, f 20, f 21, g 46, g 47, g 48, g 49, g 50, g 51, g 52, g 53, g 54, g 55, g 56, g 57, g 58, g 59, g 60, g 61, g 62, g 63, g 64, g 65, g 66, g 67, g 68, g 69, g 70, g 71, g 72, g 73, g 74, g 75, g 76, g 77, g 78, g 79, g 80, g 81, g 82, g 83, g 84, g 85, g 86, g 87, g 88, g 89, g 90, g 91, g 92, g 93, g 94, g 95, g 96], defers := [] }
def saS : Nat → Nat
  | 0 => 24
  | 1 => 25
  | 2 => 26
  | 3 => 27
  | 4 => 28
  | 5 => 29
  | 6 => 30
  | 7 => 31
  | 8 => 32
  | 9 => 33
  | 10 => 34
  | 11 => 35
  | 12 => 36
  | 13 => 37
  | 14 => 38
  | 15 => 39
  | 16 => 40
  | 17 => 41
  | 18 => 42
  | 19 => 43
  | 20 => 44
  | 21 => 45
  | _ => 0
def saR : List Nat := []
def saU : Nat → Nat
  | _ => 1000
def saL  : Nat → Nat
  | _ => 0
def saX  : Nat → List Value
  | _ => []
def saC (E1 E2 : Bool) (x1 x2 x3 : Value) : Nat → Value
  | 0 => x1
  | 1 => x2
  | 2 => (.bool E1)
  | 3 => x1
  | 4 => x2
  | 5 => (.bool E1)
  | 6 => (.bool false)
  | 7 => (.bool false)
  | 8 => x1
  | 9 => x3
  | 10 => (.bool E2)
  | 11 => x3
  | 12 => x1
  | 13 => (.bool E2)
  | 14 => (.bool false)
  | 15 => (.bool false)
  | 16 => (.bool false)
  | 17 => x1
  | 18 => x1
  | 19 => (.bool true)
  | 20 => (.bool false)
  | 21 => (.bool false)
  | _ => undef
def scAct (g f : Nat → Value) : Act := { tmps := #[g 0, g 1, g 2, g 3, g 4, g 5, g 6, g 7, g 8, g 9, g 10, g 11, g 12, g 13, g 14, g 15, g 16, g 17, g 18, g 19, g 20, g 21, g 22, g 23, g 24, g 25, g 26, g 27, g 28, g 29, g 30, g 31, g 32, g 33, g 34, g 35, g 36, g 37, g 38, g 39, g 40, g 41, g 42, g 43, g 44, g 45, g 46, g 47, g 48, g 49, g 50, g 51, g 52, f 0, f 1, f 2, f 3, f 4, f 5, f 6, g 60, g 61, g 62, g 63, g 64, g 65, g 66, g 67, g 68, g 69, g 70, g 71, g 72, g 73, g 74, g 75, g 76, g 77, g 78, g 79, g 80, g 81, g 82, g 83, g 84, g 85, g 86, g 87, g 88, g 89, g 90, g 91, g 92, g 93, g 94, g 95, g 96], defers := [] }
def scS : Nat → Nat
  | 0 => 53
  | 1 => 54
  | 2 => 55
  | 3 => 56
  | 4 => 57
  | 5 => 58
  | 6 => 59
  | _ => 0
def scR : List Nat := []
def scU : Nat → Nat
  | _ => 1000
def scL  : Nat → Nat
  | _ => 0
def scX  : Nat → List Value
  | _ => []
def scC (xa b o l1 c1 i : Nat) (x1 x2 : Value) : Nat → Value
  | 0 => x1
  | 1 => (.pointer (some ⟨xa, 3, none⟩))
  | 2 => (.slice (some ⟨b, o, none⟩) l1 c1)
  | 3 => (.int .i64 (i : Int))
  | 4 => (.pointer (some ⟨b, o + i * 4, none⟩))
  | 5 => x2
  | 6 => (.bool false)
  | _ => undef
def sdAct (g f : Nat → Value) : Act := { tmps := #[g 0, g 1, g 2, g 3, f 24, g 5, g 6, g 7, g 8, g 9, g 10, g 11, g 12, g 13, g 14, g 15, g 16, g 17, g 18, g 19, g 20, g 21, g 22, g 23, g 24, g 25, g 26, g 27, g 28, g 29, g 30, g 31, g 32, g 33, g 34, g 35, g 36, g 37, g 38, g 39, g 40, g 41, g 42, g 43, g 44, g 45, g 46, g 47, g 48, g 49, g 50, g 51, g 52, g 53, g 54, g 55, g 56, g 57, g 58, g 59, g 60, g 61, g 62, g 63, g 64, g 65, g 66, g 67, g 68, g 69, g 70, g 71, g 72, f 0, f 1, f 2, f 3, f 4, f 5, f 6, f 7, f 8, f 9, f 10, f 11, f 12, f 13, f 14, f 15, f 16, f 17, f 18, f 19, f 20, f 21, f 22, f 23], defers := [] }
def sdS : Nat → Nat
  | 0 => 73
  | 1 => 74
  | 2 => 75
  | 3 => 76
  | 4 => 77
  | 5 => 78
  | 6 => 79
  | 7 => 80
  | 8 => 81
  | 9 => 82
  | 10 => 83
  | 11 => 84
  | 12 => 85
  | 13 => 86
  | 14 => 87
  | 15 => 88
  | 16 => 89
  | 17 => 90
  | 18 => 91
  | 19 => 92
  | 20 => 93
  | 21 => 94
  | 22 => 95
  | 23 => 96
  | 24 => 4
  | _ => 0
def sdR : List Nat := [4, 7, 16, 19]
def sdU : Nat → Nat
  | _ => 1000
def sdL (n1 n2 n3 : Nat) : Nat → Nat
  | 4 => n1
  | 7 => n2
  | 16 => n1
  | 19 => n3
  | _ => 0
def sdX (z1 z2 z3 : List Value) : Nat → List Value
  | 4 => z1
  | 7 => z2
  | 16 => z1
  | 19 => z3
  | _ => []
def sdC (E1 E2 Q1 Q2 : Bool) (x1 x2 x3 : ByteArray) (y1 y2 y3 : Value) : Nat → Value
  | 0 => y1
  | 1 => y2
  | 2 => (.bool E1)
  | 3 => y1
  | 5 => (.string x1)
  | 6 => y2
  | 8 => (.string x2)
  | 9 => (.bool Q1)
  | 10 => (.bool true)
  | 11 => (.bool true)
  | 12 => y1
  | 13 => y3
  | 14 => (.bool E2)
  | 15 => y1
  | 17 => (.string x1)
  | 18 => y3
  | 20 => (.string x3)
  | 21 => (.bool Q2)
  | 22 => (.bool true)
  | 23 => (.bool true)
  | 24 => (.bool true)
  | _ => undef

set_option maxHeartbeats 2000000 in
set_option maxRecDepth 20000 in
theorem law_FnExprSame (a : Option Addr) (n c : Nat) (z : List Int) (a2 : Option Addr) (n2 c2 : Nat) (z2 : List Int) (w : World) (hsh : w.ShapedOpen Tryd.prog) (hT : Tabs w) (hz : IsRow .u8 w a n c z) (hz2 : IsRow .u8 w a2 n2 c2 z2) :
    Calls Tryd.prog 12 #[.slice a n c, .slice a2 n2 c2] w fun e w' => e = .returned (.bool true) ∧ Below w.heap.size w w' := by
  have HZ := Lib.hid hz
  have HZ2 := Lib.hid hz2
  have HT := Lib.hid hT
  have hn : (n : Int) ≤ 9223372036854775807 := hz.row.2.2.2.1
  have hn2 : (n2 : Int) ≤ 9223372036854775807 := hz2.row.2.2.2.1
  clear hz hz2 hT hsh
  go_enter Tryd.func12, Tryd.ntmps12
  by_cases hbig : (1048576 : Int) < (n : Int)
  · have hbig2 : (n : Int) > 1048576 := hbig
    go_wp2_with fail
    go_ret
    exact ⟨rfl, Below.refl _ _⟩
  have hbig2 : ¬ (n : Int) > 1048576 := hbig
  by_cases hbig3 : (1048576 : Int) < (n2 : Int)
  · have hbig4 : (n2 : Int) > 1048576 := hbig3
    go_wp2_with fail
    go_ret
    exact ⟨rfl, Below.refl _ _⟩
  have hbig4 : ¬ (n2 : Int) > 1048576 := hbig3
  go_wp2_with fail
  clear hbig hbig2 hbig3 hbig4 hn hn2
  refine (drawExprSame a n c z w HZ.out).mono ?_
  rintro e w1 ⟨k1, m1, s1, A1, l1, c1, t1, k2, m2, s2, A2, l2, c2', t2, rfl, hev1, hev2, hw1, hw2, hb1⟩
  have hba1 : Below w1.heap.size w1 (w1.alloc (.cells #[.int .i64 k1, .int .i64 m1, .string s1, .slice A1 l1 c1] 25)) := (Below.refl _ _).alloc (Nat.le_refl _) _
  obtain ⟨w2, hw2e⟩ : ∃ w2, w2 = (w1.alloc (.cells #[.int .i64 k1, .int .i64 m1, .string s1, .slice A1 l1 c1] 25)).alloc (.cells #[.int .i64 k2, .int .i64 m2, .string s2, .slice A2 l2 c2'] 25) := ⟨_, rfl⟩
  have hb2 : Below w1.heap.size w1 w2 := by rw [hw2e]; exact hba1.alloc hba1.size _
  have SA2 : Hid (CopS w1.heap.size k1 m1 s1 A1 l1 c1 t1 w2) := ⟨by rw [hw2e]; exact (Blk.alloc_ w1 25 [.int .i64 k1, .int .i64 m1, .string s1, .slice A1 l1 c1]).alloc _, hev1.below hb2⟩
  have SB2 : Hid (CopS (w1.heap.size + 1) k2 m2 s2 A2 l2 c2' t2 w2) := ⟨by rw [hw2e]; have := Blk.alloc_ (w1.alloc (.cells #[.int .i64 k1, .int .i64 m1, .string s1, .slice A1 l1 c1] 25)) 25 [.int .i64 k2, .int .i64 m2, .string s2, .slice A2 l2 c2']; rw [World.size_alloc] at this; exact this, hev2.below hb2⟩
  have HB2 : Hid (Below w.heap.size w w2) := hb1.trans (hb2.mono hb1.size)
  have HW1 := Lib.hid hw1
  have HW2 := Lib.hid hw2
  clear hev1 hev2 hw1 hw2 hb1 hba1 hb2
  go_upto_region 4 with (fail)
  rw [← hw2e]
  obtain ⟨xa, hxa⟩ : ∃ xa, xa = w1.heap.size := ⟨_, rfl⟩
  rw [← hxa] at SA2 SB2 ⊢
  obtain ⟨xb, hxb⟩ : ∃ xb, xb = xa + 1 := ⟨_, rfl⟩
  rw [← hxb] at SB2 ⊢
  clear hw2e hxa hxb
  go_wp2_with fail
  refine (drawExprWords a2 n2 c2 z2 w2 (isRow_below HZ2.out HB2.out)).mono ?_
  rintro e w3 ⟨k3, m3, s3, A3, l3, c3, t3, rfl, hev3, hw3, _, hb3⟩
  obtain ⟨w0, hw0⟩ : ∃ w0, w0 = w3.alloc (.cells #[.int .i64 k3, .int .i64 m3, .string s3, .slice A3 l3 c3] 25) := ⟨_, rfl⟩
  have hb0 : Below w3.heap.size w3 w0 := by rw [hw0]; exact (Below.refl _ _).alloc (Nat.le_refl _) _
  have SA := Lib.hid ((SA2.out.next hb3).next hb0)
  have SB := Lib.hid ((SB2.out.next hb3).next hb0)
  have SC : Hid (CopS w3.heap.size k3 m3 s3 A3 l3 c3 t3 w0) := ⟨by rw [hw0]; exact Blk.alloc_ w3 25 [.int .i64 k3, .int .i64 m3, .string s3, .slice A3 l3 c3], hev3.below hb0⟩
  have HB : Hid (Below w.heap.size w w0) := (HB2.out.trans (hb3.mono HB2.out.size)).trans (hb0.mono (Nat.le_trans HB2.out.size hb3.size))
  have HW3 := Lib.hid hw3
  clear hev3 hw3 hb3 hb0 SA2 SB2 HB2
  go_upto_region 5 with (fail)
  rw [← hw0]
  obtain ⟨xc, hxc⟩ : ∃ xc, xc = w3.heap.size := ⟨_, rfl⟩
  rw [← hxc] at SC ⊢
  clear hw0 hxc
  obtain ⟨E1, hE1⟩ : ∃ E, exEq t1 t2 = E := ⟨_, rfl⟩
  obtain ⟨E2, hE2⟩ : ∃ E, exEq t1 t3 = E := ⟨_, rfl⟩
  have HE1 := Lib.hid hE1
  have HE2 := Lib.hid hE2
  have HE3 : Hid (exEq t3 t1 = E2) := by unfold Hid; rw [exEq_comm, hE2]
  have hx1 : (E1 != E1) = false := by simp
  have hx2 : (E2 != E2) = false := by simp
  clear hE1 hE2
  refine region_of ?_
  intro arr harr
  obtain ⟨gA, hg⟩ : ∃ g : Nat → Value, g = fun j => arr.getD j undef := ⟨_, rfl⟩
  have hg5 : gA 5 = (.pointer (some ⟨xa, 0, none⟩)) := by rw [hg, harr]; rfl
  have hg6 : gA 6 = (.pointer (some ⟨xb, 0, none⟩)) := by rw [hg, harr]; rfl
  have hg7 : gA 7 = (.pointer (some ⟨xc, 0, none⟩)) := by rw [hg, harr]; rfl
  refine wp_region_inv rfl (RgK 22 saAct gA (fun _ _ => True) (RgI w0 none 9 1 saR 1000 22 (gA 0) saU saL saX (saC E1 E2 (.agg #[.int .i64 k1, .int .i64 m1, .string s1, .slice A1 l1 c1]) (.agg #[.int .i64 k2, .int .i64 m2, .string s2, .slice A2 l2 c2']) (.agg #[.int .i64 k3, .int .i64 m3, .string s3, .slice A3 l3 c3])))) ?h0 ?hs ?hd
  case h0 =>
    refine ⟨by simp, trivial, fun j => gA (saS j), fun _ => (gA 0), by rw [hg, harr]; rfl, RgI.init (grown_drew (World.grownBy.refl w0 none)) (fun k e => by cases e) ?_ (by rw [hg, harr]; rfl)⟩
    exact fun e => absurd e (by decide)
  case hs =>
    clear hg harr
    rintro listed a W i ⟨hsz, hx, f, g', rfl, h⟩ hi
    obtain ⟨hn, o, ho, haft⟩ := mem_ready.1 hi
    have hiN : i < 22 := by have := (Array.getElem?_eq_some_iff.1 ho).1; simpa using this
    have hcs : i = 0 ∨ i = 1 ∨ i = 2 ∨ i = 3 ∨ i = 4 ∨ i = 5 ∨ i = 6 ∨ i = 7 ∨ i = 8 ∨ i = 9 ∨ i = 10 ∨ i = 11 ∨ i = 12 ∨ i = 13 ∨ i = 14 ∨ i = 15 ∨ i = 16 ∨ i = 17 ∨ i = 18 ∨ i = 19 ∨ i = 20 ∨ i = 21 := by omega
    clear hi hiN
    have hng := ngot hn
    rcases hcs with rfl | rfl | rfl | rfl | rfl | rfl | rfl | rfl | rfl | rfl | rfl | rfl | rfl | rfl | rfl | rfl | rfl | rfl | rfl | rfl | rfl | rfl
    all_goals (simp at ho; subst ho)
    · obtain ⟨a0, a1, a2, a3⟩ := blkE_cells (SA.out.next (below_of h.be)).ba
      refine wpOp_of_list rfl ?_
      simp only [saAct, hg5, hg6, hg7]
      go_wp2_with fail
      change (listed.setIfInBounds 0 true).size = 22 ∧ _
      refine ⟨by simp [hsz], trivial, upd f 0 (.agg #[.int .i64 k1, .int .i64 m1, .string s1, .slice A1 l1 c1]), upd g' 0 (.agg #[.int .i64 k1, .int .i64 m1, .string s1, .slice A1 l1 c1]), ?_, h.quiet (by omega) hng (by omega) (by decide) (by decide) rfl (World.grownBy.refl W none) (.inl rfl)⟩
      simp only [saAct, upd, hg5, hg6, hg7]
      try rfl
    · obtain ⟨a0, a1, a2, a3⟩ := blkE_cells (SB.out.next (below_of h.be)).ba
      refine wpOp_of_list rfl ?_
      simp only [saAct, hg5, hg6, hg7]
      go_wp2_with fail
      change (listed.setIfInBounds 1 true).size = 22 ∧ _
      refine ⟨by simp [hsz], trivial, upd f 1 (.agg #[.int .i64 k2, .int .i64 m2, .string s2, .slice A2 l2 c2']), upd g' 1 (.agg #[.int .i64 k2, .int .i64 m2, .string s2, .slice A2 l2 c2']), ?_, h.quiet (by omega) hng (by omega) (by decide) (by decide) rfl (World.grownBy.refl W none) (.inl rfl)⟩
      simp only [saAct, upd, hg5, hg6, hg7]
      try rfl
    · have g0 : got listed 0 := haft ⟨0, .data⟩ (by simp) rfl
      have g1 : got listed 1 := haft ⟨1, .data⟩ (by simp) rfl
      have e0 : f 0 = (.agg #[.int .i64 k1, .int .i64 m1, .string s1, .slice A1 l1 c1]) := h.cv 0 (by decide) g0
      have e1 : f 1 = (.agg #[.int .i64 k2, .int .i64 m2, .string s2, .slice A2 l2 c2']) := h.cv 1 (by decide) g1
      refine wpOp_of_list rfl ?_
      simp only [saAct, hg5, hg6, hg7, e0, e1]
      go_wp2_with fail
      refine (implExprV (SA.out.next (below_of h.be)).ka (SB.out.next (below_of h.be)).ka).mono ?_
      rintro e W' ⟨he, hb⟩
      replace he : e = .returned (.bool E1) := by rw [he]; exact congrArg (fun b => Ending.returned (.bool b)) HE1.out
      subst he
      go_wp2_with fail
      change (listed.setIfInBounds 2 true).size = 22 ∧ _
      refine ⟨by simp [hsz], trivial, upd f 2 (.bool E1), upd g' 2 (.bool E1), ?_, h.quiet (by omega) hng (by omega) (by decide) (by decide) rfl (below_grown hb none) (.inl rfl)⟩
      simp only [saAct, upd, hg5, hg6, hg7, e0, e1]
      try rfl
    · obtain ⟨a0, a1, a2, a3⟩ := blkE_cells (SA.out.next (below_of h.be)).ba
      refine wpOp_of_list rfl ?_
      simp only [saAct, hg5, hg6, hg7]
      go_wp2_with fail
      change (listed.setIfInBounds 3 true).size = 22 ∧ _
      refine ⟨by simp [hsz], trivial, upd f 3 (.agg #[.int .i64 k1, .int .i64 m1, .string s1, .slice A1 l1 c1]), upd g' 3 (.agg #[.int .i64 k1, .int .i64 m1, .string s1, .slice A1 l1 c1]), ?_, h.quiet (by omega) hng (by omega) (by decide) (by decide) rfl (World.grownBy.refl W none) (.inl rfl)⟩
      simp only [saAct, upd, hg5, hg6, hg7]
      try rfl
    · obtain ⟨a0, a1, a2, a3⟩ := blkE_cells (SB.out.next (below_of h.be)).ba
      refine wpOp_of_list rfl ?_
      simp only [saAct, hg5, hg6, hg7]
      go_wp2_with fail
      change (listed.setIfInBounds 4 true).size = 22 ∧ _
      refine ⟨by simp [hsz], trivial, upd f 4 (.agg #[.int .i64 k2, .int .i64 m2, .string s2, .slice A2 l2 c2']), upd g' 4 (.agg #[.int .i64 k2, .int .i64 m2, .string s2, .slice A2 l2 c2']), ?_, h.quiet (by omega) hng (by omega) (by decide) (by decide) rfl (World.grownBy.refl W none) (.inl rfl)⟩
      simp only [saAct, upd, hg5, hg6, hg7]
      try rfl
    · have g3 : got listed 3 := haft ⟨3, .data⟩ (by simp) rfl
      have g4 : got listed 4 := haft ⟨4, .data⟩ (by simp) rfl
      have e3 : f 3 = (.agg #[.int .i64 k1, .int .i64 m1, .string s1, .slice A1 l1 c1]) := h.cv 3 (by decide) g3
      have e4 : f 4 = (.agg #[.int .i64 k2, .int .i64 m2, .string s2, .slice A2 l2 c2']) := h.cv 4 (by decide) g4
      refine wpOp_of_list rfl ?_
      simp only [saAct, hg5, hg6, hg7, e3, e4]
      go_wp2_with fail
      refine (specExprV (SA.out.next (below_of h.be)).ka (SB.out.next (below_of h.be)).ka).mono ?_
      rintro e W' ⟨he, hb⟩
      replace he : e = .returned (.bool E1) := by rw [he]; exact congrArg (fun b => Ending.returned (.bool b)) HE1.out
      subst he
      go_wp2_with fail
      change (listed.setIfInBounds 5 true).size = 22 ∧ _
      refine ⟨by simp [hsz], trivial, upd f 5 (.bool E1), upd g' 5 (.bool E1), ?_, h.quiet (by omega) hng (by omega) (by decide) (by decide) rfl (below_grown hb none) (.inl rfl)⟩
      simp only [saAct, upd, hg5, hg6, hg7, e3, e4]
      try rfl
    · have g2 : got listed 2 := haft ⟨2, .data⟩ (by simp) rfl
      have g5 : got listed 5 := haft ⟨5, .data⟩ (by simp) rfl
      have e2 : f 2 = (.bool E1) := h.cv 2 (by decide) g2
      have e5 : f 5 = (.bool E1) := h.cv 5 (by decide) g5
      refine wpOp_of_list rfl ?_
      simp only [saAct, hg5, hg6, hg7, e2, e5]
      go_wp2_with fail
      change (listed.setIfInBounds 6 true).size = 22 ∧ _
      refine ⟨by simp [hsz], trivial, upd f 6 (.bool false), upd g' 6 (.bool false), ?_, h.quiet (by omega) hng (by omega) (by decide) (by decide) rfl (World.grownBy.refl W none) (.inl rfl)⟩
      simp only [saAct, upd, hg5, hg6, hg7, e2, e5]
      try rfl
    · have g6 : got listed 6 := haft ⟨6, .data⟩ (by simp) rfl
      have e6 : f 6 = (.bool false) := h.cv 6 (by decide) g6
      refine wpOp_of_list rfl ?_
      simp only [saAct, hg5, hg6, hg7, e6]
      go_wp2_with fail
      change (listed.setIfInBounds 7 true).size = 22 ∧ _
      refine ⟨by simp [hsz], trivial, upd f 7 (.bool false), upd g' 7 (.bool false), ?_, h.quiet (by omega) hng (by omega) (by decide) (by decide) rfl (World.grownBy.refl W none) (.inl rfl)⟩
      simp only [saAct, upd, hg5, hg6, hg7, e6]
      try rfl
    · have g7 : got listed 7 := haft ⟨7, .guard⟩ (by simp) rfl
      have e7 : f 7 = (.bool false) := h.cv 7 (by decide) g7
      obtain ⟨a0, a1, a2, a3⟩ := blkE_cells (SA.out.next (below_of h.be)).ba
      refine wpOp_of_list rfl ?_
      simp only [saAct, hg5, hg6, hg7, e7]
      go_wp2_with fail
      change (listed.setIfInBounds 8 true).size = 22 ∧ _
      refine ⟨by simp [hsz], trivial, upd f 8 (.agg #[.int .i64 k1, .int .i64 m1, .string s1, .slice A1 l1 c1]), upd g' 8 (.agg #[.int .i64 k1, .int .i64 m1, .string s1, .slice A1 l1 c1]), ?_, h.quiet (by omega) hng (by omega) (by decide) (by decide) rfl (World.grownBy.refl W none) (.inl rfl)⟩
      simp only [saAct, upd, hg5, hg6, hg7, e7]
      try rfl
    · have g7 : got listed 7 := haft ⟨7, .guard⟩ (by simp) rfl
      have e7 : f 7 = (.bool false) := h.cv 7 (by decide) g7
      obtain ⟨a0, a1, a2, a3⟩ := blkE_cells (SC.out.next (below_of h.be)).ba
      refine wpOp_of_list rfl ?_
      simp only [saAct, hg5, hg6, hg7, e7]
      go_wp2_with fail
      change (listed.setIfInBounds 9 true).size = 22 ∧ _
      refine ⟨by simp [hsz], trivial, upd f 9 (.agg #[.int .i64 k3, .int .i64 m3, .string s3, .slice A3 l3 c3]), upd g' 9 (.agg #[.int .i64 k3, .int .i64 m3, .string s3, .slice A3 l3 c3]), ?_, h.quiet (by omega) hng (by omega) (by decide) (by decide) rfl (World.grownBy.refl W none) (.inl rfl)⟩
      simp only [saAct, upd, hg5, hg6, hg7, e7]
      try rfl
    · have g8 : got listed 8 := haft ⟨8, .data⟩ (by simp) rfl
      have g9 : got listed 9 := haft ⟨9, .data⟩ (by simp) rfl
      have g7 : got listed 7 := haft ⟨7, .guard⟩ (by simp) rfl
      have e7 : f 7 = (.bool false) := h.cv 7 (by decide) g7
      have e8 : f 8 = (.agg #[.int .i64 k1, .int .i64 m1, .string s1, .slice A1 l1 c1]) := h.cv 8 (by decide) g8
      have e9 : f 9 = (.agg #[.int .i64 k3, .int .i64 m3, .string s3, .slice A3 l3 c3]) := h.cv 9 (by decide) g9
      refine wpOp_of_list rfl ?_
      simp only [saAct, hg5, hg6, hg7, e7, e8, e9]
      go_wp2_with fail
      refine (implExprV (SA.out.next (below_of h.be)).ka (SC.out.next (below_of h.be)).ka).mono ?_
      rintro e W' ⟨he, hb⟩
      replace he : e = .returned (.bool E2) := by rw [he]; exact congrArg (fun b => Ending.returned (.bool b)) HE2.out
      subst he
      go_wp2_with fail
      change (listed.setIfInBounds 10 true).size = 22 ∧ _
      refine ⟨by simp [hsz], trivial, upd f 10 (.bool E2), upd g' 10 (.bool E2), ?_, h.quiet (by omega) hng (by omega) (by decide) (by decide) rfl (below_grown hb none) (.inl rfl)⟩
      simp only [saAct, upd, hg5, hg6, hg7, e7, e8, e9]
      try rfl
    · have g7 : got listed 7 := haft ⟨7, .guard⟩ (by simp) rfl
      have e7 : f 7 = (.bool false) := h.cv 7 (by decide) g7
      obtain ⟨a0, a1, a2, a3⟩ := blkE_cells (SC.out.next (below_of h.be)).ba
      refine wpOp_of_list rfl ?_
      simp only [saAct, hg5, hg6, hg7, e7]
      go_wp2_with fail
      change (listed.setIfInBounds 11 true).size = 22 ∧ _
      refine ⟨by simp [hsz], trivial, upd f 11 (.agg #[.int .i64 k3, .int .i64 m3, .string s3, .slice A3 l3 c3]), upd g' 11 (.agg #[.int .i64 k3, .int .i64 m3, .string s3, .slice A3 l3 c3]), ?_, h.quiet (by omega) hng (by omega) (by decide) (by decide) rfl (World.grownBy.refl W none) (.inl rfl)⟩
      simp only [saAct, upd, hg5, hg6, hg7, e7]
      try rfl
    · have g7 : got listed 7 := haft ⟨7, .guard⟩ (by simp) rfl
      have e7 : f 7 = (.bool false) := h.cv 7 (by decide) g7
      obtain ⟨a0, a1, a2, a3⟩ := blkE_cells (SA.out.next (below_of h.be)).ba
      refine wpOp_of_list rfl ?_
      simp only [saAct, hg5, hg6, hg7, e7]
      go_wp2_with fail
      change (listed.setIfInBounds 12 true).size = 22 ∧ _
      refine ⟨by simp [hsz], trivial, upd f 12 (.agg #[.int .i64 k1, .int .i64 m1, .string s1, .slice A1 l1 c1]), upd g' 12 (.agg #[.int .i64 k1, .int .i64 m1, .string s1, .slice A1 l1 c1]), ?_, h.quiet (by omega) hng (by omega) (by decide) (by decide) rfl (World.grownBy.refl W none) (.inl rfl)⟩
      simp only [saAct, upd, hg5, hg6, hg7, e7]
      try rfl
    · have g11 : got listed 11 := haft ⟨11, .data⟩ (by simp) rfl
      have g12 : got listed 12 := haft ⟨12, .data⟩ (by simp) rfl
      have g7 : got listed 7 := haft ⟨7, .guard⟩ (by simp) rfl
      have e7 : f 7 = (.bool false) := h.cv 7 (by decide) g7
      have e11 : f 11 = (.agg #[.int .i64 k3, .int .i64 m3, .string s3, .slice A3 l3 c3]) := h.cv 11 (by decide) g11
      have e12 : f 12 = (.agg #[.int .i64 k1, .int .i64 m1, .string s1, .slice A1 l1 c1]) := h.cv 12 (by decide) g12
      refine wpOp_of_list rfl ?_
      simp only [saAct, hg5, hg6, hg7, e7, e11, e12]
      go_wp2_with fail
      refine (implExprV (SC.out.next (below_of h.be)).ka (SA.out.next (below_of h.be)).ka).mono ?_
      rintro e W' ⟨he, hb⟩
      replace he : e = .returned (.bool E2) := by rw [he]; exact congrArg (fun b => Ending.returned (.bool b)) HE3.out
      subst he
      go_wp2_with fail
      change (listed.setIfInBounds 13 true).size = 22 ∧ _
      refine ⟨by simp [hsz], trivial, upd f 13 (.bool E2), upd g' 13 (.bool E2), ?_, h.quiet (by omega) hng (by omega) (by decide) (by decide) rfl (below_grown hb none) (.inl rfl)⟩
      simp only [saAct, upd, hg5, hg6, hg7, e7, e11, e12]
      try rfl
    · have g10 : got listed 10 := haft ⟨10, .data⟩ (by simp) rfl
      have g13 : got listed 13 := haft ⟨13, .data⟩ (by simp) rfl
      have g7 : got listed 7 := haft ⟨7, .guard⟩ (by simp) rfl
      have e7 : f 7 = (.bool false) := h.cv 7 (by decide) g7
      have e10 : f 10 = (.bool E2) := h.cv 10 (by decide) g10
      have e13 : f 13 = (.bool E2) := h.cv 13 (by decide) g13
      refine wpOp_of_list rfl ?_
      simp only [saAct, hg5, hg6, hg7, e7, e10, e13]
      go_wp2_with fail
      change (listed.setIfInBounds 14 true).size = 22 ∧ _
      refine ⟨by simp [hsz], trivial, upd f 14 (.bool false), upd g' 14 (.bool false), ?_, h.quiet (by omega) hng (by omega) (by decide) (by decide) rfl (World.grownBy.refl W none) (.inl rfl)⟩
      simp only [saAct, upd, hg5, hg6, hg7, e7, e10, e13]
      try rfl
    · have g7 : got listed 7 := haft ⟨7, .data⟩ (by simp) rfl
      have g14 : got listed 14 := haft ⟨14, .data⟩ (by simp) rfl
      have e7 : f 7 = (.bool false) := h.cv 7 (by decide) g7
      have e14 : f 14 = (.bool false) := h.cv 14 (by decide) g14
      refine wpOp_of_list rfl ?_
      simp only [saAct, hg5, hg6, hg7, e7, e14]
      go_wp2_with fail
      change (listed.setIfInBounds 15 true).size = 22 ∧ _
      refine ⟨by simp [hsz], trivial, upd f 15 (.bool false), upd g' 15 (.bool false), ?_, h.quiet (by omega) hng (by omega) (by decide) (by decide) rfl (World.grownBy.refl W none) (.inl rfl)⟩
      simp only [saAct, upd, hg5, hg6, hg7, e7, e14]
      try rfl
    · have g15 : got listed 15 := haft ⟨15, .data⟩ (by simp) rfl
      have e15 : f 15 = (.bool false) := h.cv 15 (by decide) g15
      refine wpOp_of_list rfl ?_
      simp only [saAct, hg5, hg6, hg7, e15]
      go_wp2_with fail
      change (listed.setIfInBounds 16 true).size = 22 ∧ _
      refine ⟨by simp [hsz], trivial, upd f 16 (.bool false), upd g' 16 (.bool false), ?_, h.quiet (by omega) hng (by omega) (by decide) (by decide) rfl (World.grownBy.refl W none) (.inl rfl)⟩
      simp only [saAct, upd, hg5, hg6, hg7, e15]
      try rfl
    · have g16 : got listed 16 := haft ⟨16, .guard⟩ (by simp) rfl
      have e16 : f 16 = (.bool false) := h.cv 16 (by decide) g16
      obtain ⟨a0, a1, a2, a3⟩ := blkE_cells (SA.out.next (below_of h.be)).ba
      refine wpOp_of_list rfl ?_
      simp only [saAct, hg5, hg6, hg7, e16]
      go_wp2_with fail
      change (listed.setIfInBounds 17 true).size = 22 ∧ _
      refine ⟨by simp [hsz], trivial, upd f 17 (.agg #[.int .i64 k1, .int .i64 m1, .string s1, .slice A1 l1 c1]), upd g' 17 (.agg #[.int .i64 k1, .int .i64 m1, .string s1, .slice A1 l1 c1]), ?_, h.quiet (by omega) hng (by omega) (by decide) (by decide) rfl (World.grownBy.refl W none) (.inl rfl)⟩
      simp only [saAct, upd, hg5, hg6, hg7, e16]
      try rfl
    · have g16 : got listed 16 := haft ⟨16, .guard⟩ (by simp) rfl
      have e16 : f 16 = (.bool false) := h.cv 16 (by decide) g16
      obtain ⟨a0, a1, a2, a3⟩ := blkE_cells (SA.out.next (below_of h.be)).ba
      refine wpOp_of_list rfl ?_
      simp only [saAct, hg5, hg6, hg7, e16]
      go_wp2_with fail
      change (listed.setIfInBounds 18 true).size = 22 ∧ _
      refine ⟨by simp [hsz], trivial, upd f 18 (.agg #[.int .i64 k1, .int .i64 m1, .string s1, .slice A1 l1 c1]), upd g' 18 (.agg #[.int .i64 k1, .int .i64 m1, .string s1, .slice A1 l1 c1]), ?_, h.quiet (by omega) hng (by omega) (by decide) (by decide) rfl (World.grownBy.refl W none) (.inl rfl)⟩
      simp only [saAct, upd, hg5, hg6, hg7, e16]
      try rfl
    · have g17 : got listed 17 := haft ⟨17, .data⟩ (by simp) rfl
      have g18 : got listed 18 := haft ⟨18, .data⟩ (by simp) rfl
      have g16 : got listed 16 := haft ⟨16, .guard⟩ (by simp) rfl
      have e16 : f 16 = (.bool false) := h.cv 16 (by decide) g16
      have e17 : f 17 = (.agg #[.int .i64 k1, .int .i64 m1, .string s1, .slice A1 l1 c1]) := h.cv 17 (by decide) g17
      have e18 : f 18 = (.agg #[.int .i64 k1, .int .i64 m1, .string s1, .slice A1 l1 c1]) := h.cv 18 (by decide) g18
      refine wpOp_of_list rfl ?_
      simp only [saAct, hg5, hg6, hg7, e16, e17, e18]
      go_wp2_with fail
      refine (implExprV (SA.out.next (below_of h.be)).ka (SA.out.next (below_of h.be)).ka).mono ?_
      rintro e W' ⟨he, hb⟩
      replace he : e = .returned (.bool true) := by rw [he]; exact congrArg (fun b => Ending.returned (.bool b)) (exEq_true rfl)
      subst he
      go_wp2_with fail
      change (listed.setIfInBounds 19 true).size = 22 ∧ _
      refine ⟨by simp [hsz], trivial, upd f 19 (.bool true), upd g' 19 (.bool true), ?_, h.quiet (by omega) hng (by omega) (by decide) (by decide) rfl (below_grown hb none) (.inl rfl)⟩
      simp only [saAct, upd, hg5, hg6, hg7, e16, e17, e18]
      try rfl
    · have g19 : got listed 19 := haft ⟨19, .data⟩ (by simp) rfl
      have g16 : got listed 16 := haft ⟨16, .guard⟩ (by simp) rfl
      have e16 : f 16 = (.bool false) := h.cv 16 (by decide) g16
      have e19 : f 19 = (.bool true) := h.cv 19 (by decide) g19
      refine wpOp_of_list rfl ?_
      simp only [saAct, hg5, hg6, hg7, e16, e19]
      go_wp2_with fail
      change (listed.setIfInBounds 20 true).size = 22 ∧ _
      refine ⟨by simp [hsz], trivial, upd f 20 (.bool false), upd g' 20 (.bool false), ?_, h.quiet (by omega) hng (by omega) (by decide) (by decide) rfl (World.grownBy.refl W none) (.inl rfl)⟩
      simp only [saAct, upd, hg5, hg6, hg7, e16, e19]
      try rfl
    · have g16 : got listed 16 := haft ⟨16, .data⟩ (by simp) rfl
      have g20 : got listed 20 := haft ⟨20, .data⟩ (by simp) rfl
      have e16 : f 16 = (.bool false) := h.cv 16 (by decide) g16
      have e20 : f 20 = (.bool false) := h.cv 20 (by decide) g20
      refine wpOp_of_list rfl ?_
      simp only [saAct, hg5, hg6, hg7, e16, e20]
      go_wp2_with fail
      change (listed.setIfInBounds 21 true).size = 22 ∧ _
      refine ⟨by simp [hsz], trivial, upd f 21 (.bool false), upd g' 21 (.bool false), ?_, h.quiet (by omega) hng (by omega) (by decide) (by decide) rfl (World.grownBy.refl W none) (.inl rfl)⟩
      simp only [saAct, upd, hg5, hg6, hg7, e16, e20]
      try rfl
  case hd =>
    rintro listed a wc ⟨hsz, hx, f, g', rfl, h⟩ hr
    have hall := ready_all (listed := listed) (by kernel_rfl) (by rw [hsz]; rfl) hr
    have e21 : f 21 = .bool false := h.cv 21 (by decide) (hall 21 (by decide))
    have G1 := Lib.hid h.be
    clear hr h hx hall
    clear hg5 hg6 hg7
    subst hg harr
    simp only [saAct, e21]
    have S1 := Lib.hid (SA.out.next (below_of G1.out))
    have T1 := Lib.hid (SB.out.next (below_of G1.out))
    have U1 := Lib.hid (SC.out.next (below_of G1.out))
    have HB1 : Hid (Below w.heap.size w wc) := HB.out.trans ((below_of G1.out).mono HB.out.size)
    clear SA SB SC HB G1 hx1 hx2
    obtain ⟨wc0, hwc0⟩ : ∃ wc0, wc0 = wc := ⟨_, rfl⟩
    rw [← hwc0] at S1 T1 U1 HB1 ⊢
    clear hwc0
    have hl1 : (l1 : Int) ≤ 1048576 := by
      obtain ⟨_, _, _, q4, _⟩ := S1.out.ka.parts
      have h1 := wgts_len t1.kids
      have h2 := wgt_eq t1
      have h3 := HW1.out
      omega
    go_wp2_with fail
    go_loopw [8] (fun v wr => ∃ i : Nat, v = .int .i64 (i : Int) ∧ i ≤ l1 ∧ Below wc0.heap.size wc0 wr) (fun v _ => l1 - (intOf v).toNat)
    case atStart => exact ⟨0, rfl, Nat.zero_le _, Below.refl _ _⟩
    case round =>
      obtain ⟨i, rfl, hi, hbw⟩ := hrel
      have SR := Lib.hid (S1.out.next hbw)
      have HBW := Lib.hid hbw
      clear hbw
      by_cases hlt : i < l1
      · obtain ⟨r1, r2, r3, q4, r5, r6, r7, dd, hk⟩ := SR.out.ka.parts
        clear r1 r2 r3 r5 r6 r7
        have hx : i < t1.kids.length := by rw [← q4]; exact hlt
        obtain ⟨b, o, kk, mk, sk, Ak, lk, ck, rfl, hb, hevk, e0, e1, e2, e3⟩ := IsEV.kid hk (i := i) hx
        have CK : Hid (Cel b (o + i * 4) kk mk sk Ak lk ck wr) := ⟨e0, e1, e2, e3⟩
        obtain ⟨tk, htk⟩ : ∃ tk, tk = t1.kids[i] := ⟨_, rfl⟩
        rw [← htk] at hevk
        have EK := Lib.hid hevk
        have HNE : Hid (exEq t1 tk = false) := by unfold Hid; rw [htk]; exact exEq_false (kid_ne (List.getElem_mem _))
        have hi0 : (0 : Int) ≤ (i : Int) := by omega
        have hi1 : (i : Int) < (l1 : Int) := by omega
        obtain ⟨a0, a1, a2, a3⟩ := blkE_cells SR.out.ba
        clear q4 hk hx hb hevk e0 e1 e2 e3 htk
        go_upto_region 10 with (fail)
        clear a0 a1 a2 a3
        refine region_of ?_
        intro arr harr
        obtain ⟨gA, hg⟩ : ∃ g : Nat → Value, g = fun j => arr.getD j undef := ⟨_, rfl⟩
        have hg5 : gA 5 = (.pointer (some ⟨xa, 0, none⟩)) := by rw [hg, harr]; rfl
        have hg8 : gA 8 = .int .i64 (i : Int) := by rw [hg, harr]; rfl
        refine wp_region_inv rfl (RgK 7 scAct gA (fun _ _ => True) (RgI wr none 9 1 scR 1000 7 (gA 0) scU scL scX (scC xa b o l1 c1 i (.agg #[.int .i64 k1, .int .i64 m1, .string s1, .slice (some ⟨b, o, none⟩) l1 c1]) (.agg #[.int .i64 kk, .int .i64 mk, .string sk, .slice Ak lk ck])))) ?h0 ?hs ?hd
        case h0 =>
          refine ⟨by simp, trivial, fun j => gA (scS j), fun _ => (gA 0), by rw [hg, harr]; rfl, RgI.init (grown_drew (World.grownBy.refl wr none)) (fun k e => by cases e) ?_ (by rw [hg, harr]; rfl)⟩
          exact fun e => absurd e (by decide)
        case hs =>
          clear hg harr
          rintro listed a W i ⟨hsz, hx, f, g', rfl, h⟩ hi
          obtain ⟨hn, o, ho, haft⟩ := mem_ready.1 hi
          have hiN : i < 7 := by have := (Array.getElem?_eq_some_iff.1 ho).1; simpa using this
          have hcs : i = 0 ∨ i = 1 ∨ i = 2 ∨ i = 3 ∨ i = 4 ∨ i = 5 ∨ i = 6 := by omega
          clear hi hiN
          have hng := ngot hn
          rcases hcs with rfl | rfl | rfl | rfl | rfl | rfl | rfl
          all_goals (simp at ho; subst ho)
          · obtain ⟨a0, a1, a2, a3⟩ := blkE_cells (SR.out.next (below_of h.be)).ba
            refine wpOp_of_list rfl ?_
            simp only [scAct, hg5, hg8]
            go_wp2_with fail
            change (listed.setIfInBounds 0 true).size = 7 ∧ _
            refine ⟨by simp [hsz], trivial, upd f 0 (.agg #[.int .i64 k1, .int .i64 m1, .string s1, .slice (some ⟨b, o, none⟩) l1 c1]), upd g' 0 (.agg #[.int .i64 k1, .int .i64 m1, .string s1, .slice (some ⟨b, o, none⟩) l1 c1]), ?_, h.quiet (by omega) hng (by omega) (by decide) (by decide) rfl (World.grownBy.refl W none) (.inl rfl)⟩
            simp only [scAct, upd, hg5, hg8]
            try rfl
          · refine wpOp_of_list rfl ?_
            simp only [scAct, hg5, hg8]
            go_wp2_with fail
            change (listed.setIfInBounds 1 true).size = 7 ∧ _
            refine ⟨by simp [hsz], trivial, upd f 1 (.pointer (some ⟨xa, 3, none⟩)), upd g' 1 (.pointer (some ⟨xa, 3, none⟩)), ?_, h.quiet (by omega) hng (by omega) (by decide) (by decide) rfl (World.grownBy.refl W none) (.inl rfl)⟩
            simp only [scAct, upd, hg5, hg8]
            try rfl
          · have g1 : got listed 1 := haft ⟨1, .data⟩ (by simp) rfl
            have e1 : f 1 = (.pointer (some ⟨xa, 3, none⟩)) := h.cv 1 (by decide) g1
            obtain ⟨a0, a1, a2, a3⟩ := blkE_cells (SR.out.next (below_of h.be)).ba
            refine wpOp_of_list rfl ?_
            simp only [scAct, hg5, hg8, e1]
            go_wp2_with fail
            change (listed.setIfInBounds 2 true).size = 7 ∧ _
            refine ⟨by simp [hsz], trivial, upd f 2 (.slice (some ⟨b, o, none⟩) l1 c1), upd g' 2 (.slice (some ⟨b, o, none⟩) l1 c1), ?_, h.quiet (by omega) hng (by omega) (by decide) (by decide) rfl (World.grownBy.refl W none) (.inl rfl)⟩
            simp only [scAct, upd, hg5, hg8, e1]
            try rfl
          · refine wpOp_of_list rfl ?_
            simp only [scAct, hg5, hg8]
            go_wp2_with fail
            change (listed.setIfInBounds 3 true).size = 7 ∧ _
            refine ⟨by simp [hsz], trivial, upd f 3 (.int .i64 (i : Int)), upd g' 3 (.int .i64 (i : Int)), ?_, h.quiet (by omega) hng (by omega) (by decide) (by decide) rfl (World.grownBy.refl W none) (.inl rfl)⟩
            simp only [scAct, upd, hg5, hg8]
            try rfl
          · have g2 : got listed 2 := haft ⟨2, .data⟩ (by simp) rfl
            have g3 : got listed 3 := haft ⟨3, .data⟩ (by simp) rfl
            have e2 : f 2 = (.slice (some ⟨b, o, none⟩) l1 c1) := h.cv 2 (by decide) g2
            have e3 : f 3 = (.int .i64 (i : Int)) := h.cv 3 (by decide) g3
            refine wpOp_of_list rfl ?_
            simp only [scAct, hg5, hg8, e2, e3]
            go_wp2_with fail
            change (listed.setIfInBounds 4 true).size = 7 ∧ _
            refine ⟨by simp [hsz], trivial, upd f 4 (.pointer (some ⟨b, o + i * 4, none⟩)), upd g' 4 (.pointer (some ⟨b, o + i * 4, none⟩)), ?_, h.quiet (by omega) hng (by omega) (by decide) (by decide) rfl (World.grownBy.refl W none) (.inl rfl)⟩
            simp only [scAct, upd, hg5, hg8, e2, e3]
            try rfl
          · have g4 : got listed 4 := haft ⟨4, .data⟩ (by simp) rfl
            have e4 : f 4 = (.pointer (some ⟨b, o + i * 4, none⟩)) := h.cv 4 (by decide) g4
            obtain ⟨c0, c1, c2, c3⟩ := CK.out.below (below_of h.be)
            refine wpOp_of_list rfl ?_
            simp only [scAct, hg5, hg8, e4]
            go_wp2_with fail
            change (listed.setIfInBounds 5 true).size = 7 ∧ _
            refine ⟨by simp [hsz], trivial, upd f 5 (.agg #[.int .i64 kk, .int .i64 mk, .string sk, .slice Ak lk ck]), upd g' 5 (.agg #[.int .i64 kk, .int .i64 mk, .string sk, .slice Ak lk ck]), ?_, h.quiet (by omega) hng (by omega) (by decide) (by decide) rfl (World.grownBy.refl W none) (.inl rfl)⟩
            simp only [scAct, upd, hg5, hg8, e4]
            try rfl
          · have g0 : got listed 0 := haft ⟨0, .data⟩ (by simp) rfl
            have g5 : got listed 5 := haft ⟨5, .data⟩ (by simp) rfl
            have e0 : f 0 = (.agg #[.int .i64 k1, .int .i64 m1, .string s1, .slice (some ⟨b, o, none⟩) l1 c1]) := h.cv 0 (by decide) g0
            have e5 : f 5 = (.agg #[.int .i64 kk, .int .i64 mk, .string sk, .slice Ak lk ck]) := h.cv 5 (by decide) g5
            refine wpOp_of_list rfl ?_
            simp only [scAct, hg5, hg8, e0, e5]
            go_wp2_with fail
            refine (implExprV (SR.out.next (below_of h.be)).ka (EK.out.below (below_of h.be))).mono ?_
            rintro e W' ⟨he, hb⟩
            replace he : e = .returned (.bool false) := by rw [he]; exact congrArg (fun b => Ending.returned (.bool b)) HNE.out
            subst he
            go_wp2_with fail
            change (listed.setIfInBounds 6 true).size = 7 ∧ _
            refine ⟨by simp [hsz], trivial, upd f 6 (.bool false), upd g' 6 (.bool false), ?_, h.quiet (by omega) hng (by omega) (by decide) (by decide) rfl (below_grown hb none) (.inl rfl)⟩
            simp only [scAct, upd, hg5, hg8, e0, e5]
            try rfl
        case hd =>
          rintro listed a wc ⟨hsz, hx, f, g', rfl, h⟩ hr
          have hall := ready_all (listed := listed) (by kernel_rfl) (by rw [hsz]; rfl) hr
          have e6 : f 6 = .bool false := h.cv 6 (by decide) (hall 6 (by decide))
          have HGE := Lib.hid h.be
          clear hr h hx hall
          clear hg5 hg8
          subst hg harr
          simp only [scAct, e6]
          have HBE : Hid (Below wc0.heap.size wc0 wc) := HBW.out.trans ((below_of HGE.out).mono HBW.out.size)
          go_wp2_with fail
          go_roundw
          case rel => (repeat apply Exists.intro); exact ⟨⟨i + 1, by go_num, by omega, HBE.out⟩, rfl⟩
          case measure => simp [intOf]; omega
      · obtain rfl : i = l1 := by omega
        have TR := Lib.hid (T1.out.next HBW.out)
        have UR := Lib.hid (U1.out.next HBW.out)
        have HBR : Hid (Below w.heap.size w wr) := HB1.out.trans (HBW.out.mono HB1.out.size)
        clear S1 T1 U1 HB1 HBW
        obtain ⟨a0, a1, a2, a3⟩ := blkE_cells SR.out.ba
        have CO := Lib.hid (specExprOk k1 m1 s1 A1 i c1 t1 wr SR.out.ka (by have := HW1.out; omega))
        cases hok1 : exprOk t1 with
        | false =>
          rw [hok1] at CO
          clear hok1
          go_wp2_with fail
          refine CO.out.mono ?_
          rintro e wa ⟨rfl, hba⟩
          have HBa : Hid (Below w.heap.size w wa) := HBR.out.trans (hba.mono HBR.out.size)
          clear hba a0 a1 a2 a3
          go_wp2_with fail
          go_ret
          exact ⟨rfl, HBa.out⟩
        | true =>
          rw [hok1] at CO
          have OK1 := Lib.hid hok1
          clear hok1
          go_wp2_with fail
          refine CO.out.mono ?_
          rintro e wa ⟨rfl, hba⟩
          have Sa := Lib.hid (SR.out.next hba)
          have Ta := Lib.hid (TR.out.next hba)
          have Ua := Lib.hid (UR.out.next hba)
          have HBa : Hid (Below w.heap.size w wa) := HBR.out.trans (hba.mono HBR.out.size)
          clear hba a0 a1 a2 a3 SR TR UR HBR CO
          obtain ⟨a0, a1, a2, a3⟩ := blkE_cells Ta.out.ba
          have CO := Lib.hid (specExprOk k2 m2 s2 A2 l2 c2' t2 wa Ta.out.ka (by have := HW2.out; omega))
          cases hok2 : exprOk t2 with
          | false =>
            rw [hok2] at CO
            clear hok2
            go_wp2_with fail
            refine CO.out.mono ?_
            rintro e wb ⟨rfl, hbb⟩
            have HBb : Hid (Below w.heap.size w wb) := HBa.out.trans (hbb.mono HBa.out.size)
            clear hbb a0 a1 a2 a3
            go_wp2_with fail
            go_ret
            exact ⟨rfl, HBb.out⟩
          | true =>
            rw [hok2] at CO
            have OK2 := Lib.hid hok2
            clear hok2
            go_wp2_with fail
            refine CO.out.mono ?_
            rintro e wb ⟨rfl, hbb⟩
            have Sb := Lib.hid (Sa.out.next hbb)
            have Tb := Lib.hid (Ta.out.next hbb)
            have Ub := Lib.hid (Ua.out.next hbb)
            have HBb : Hid (Below w.heap.size w wb) := HBa.out.trans (hbb.mono HBa.out.size)
            clear hbb a0 a1 a2 a3 Sa Ta Ua HBa CO
            obtain ⟨a0, a1, a2, a3⟩ := blkE_cells Ub.out.ba
            have CO := Lib.hid (specExprOk k3 m3 s3 A3 l3 c3 t3 wb Ub.out.ka (by have := HW3.out; omega))
            cases hok3 : exprOk t3 with
            | false =>
              rw [hok3] at CO
              clear hok3
              go_wp2_with fail
              refine CO.out.mono ?_
              rintro e wd ⟨rfl, hbd⟩
              have HBd : Hid (Below w.heap.size w wd) := HBb.out.trans (hbd.mono HBb.out.size)
              clear hbd a0 a1 a2 a3
              go_wp2_with fail
              go_ret
              exact ⟨rfl, HBd.out⟩
            | true =>
              rw [hok3] at CO
              have OK3 := Lib.hid hok3
              clear hok3
              go_wp2_with fail
              refine CO.out.mono ?_
              rintro e wz ⟨rfl, hbz⟩
              have SZ := Lib.hid (Sb.out.next hbz)
              have TZ := Lib.hid (Tb.out.next hbz)
              have UZ := Lib.hid (Ub.out.next hbz)
              have HBZ : Hid (Below w.heap.size w wz) := HBb.out.trans (hbz.mono HBb.out.size)
              clear hbz a0 a1 a2 a3 Sb Tb Ub HBb CO
              go_upto_region 14 with (fail)
              obtain ⟨Q1, hQ1⟩ : ∃ Q, ((textE t1).toList == (textE t2).toList) = Q := ⟨_, rfl⟩
              obtain ⟨Q2, hQ2⟩ : ∃ Q, ((textE t1).toList == (textE t3).toList) = Q := ⟨_, rfl⟩
              have hr1 : (E1 == Q1) = true := by rw [← HE1.out, ← hQ1]; exact same_text OK1.out OK2.out
              have hr2 : (E2 == Q2) = true := by rw [← HE2.out, ← hQ2]; exact same_text OK1.out OK3.out
              obtain ⟨x1, hx1⟩ : ∃ x, x = textE t1 := ⟨_, rfl⟩
              obtain ⟨x2, hx2⟩ : ∃ x, x = textE t2 := ⟨_, rfl⟩
              obtain ⟨x3, hx3⟩ : ∃ x, x = textE t3 := ⟨_, rfl⟩
              rw [← hx1, ← hx2] at hQ1
              rw [← hx1, ← hx3] at hQ2
              have HX1 := Lib.hid hx1
              have HX2 := Lib.hid hx2
              have HX3 := Lib.hid hx3
              clear hx1 hx2 hx3
              refine region_of ?_
              intro arr harr
              obtain ⟨gA, hg⟩ : ∃ g : Nat → Value, g = fun j => arr.getD j undef := ⟨_, rfl⟩
              have hg5 : gA 5 = (.pointer (some ⟨xa, 0, none⟩)) := by rw [hg, harr]; rfl
              have hg6 : gA 6 = (.pointer (some ⟨xb, 0, none⟩)) := by rw [hg, harr]; rfl
              have hg7 : gA 7 = (.pointer (some ⟨xc, 0, none⟩)) := by rw [hg, harr]; rfl
              refine wp_region_inv rfl (RgK 25 sdAct gA (fun _ _ => True) (RgI wz none 9 1 sdR 1000 25 (gA 0) sdU (sdL (wordsOf t1).length (wordsOf t2).length (wordsOf t3).length) (sdX (wsB (wordsOf t1)) (wsB (wordsOf t2)) (wsB (wordsOf t3))) (sdC E1 E2 Q1 Q2 x1 x2 x3 (.agg #[.int .i64 k1, .int .i64 m1, .string s1, .slice A1 i c1]) (.agg #[.int .i64 k2, .int .i64 m2, .string s2, .slice A2 l2 c2']) (.agg #[.int .i64 k3, .int .i64 m3, .string s3, .slice A3 l3 c3])))) ?h0 ?hs ?hd
              case h0 =>
                refine ⟨by simp, trivial, fun j => gA (sdS j), fun _ => (gA 0), by rw [hg, harr]; rfl, RgI.init (grown_drew (World.grownBy.refl wz none)) (fun k e => by cases e) ?_ (by rw [hg, harr]; rfl)⟩
                exact fun e => absurd e (by decide)
              case hs =>
                clear hg harr
                rintro listed a W i ⟨hsz, hx, f, g', rfl, h⟩ hi
                obtain ⟨hn, o, ho, haft⟩ := mem_ready.1 hi
                have hiN : i < 25 := by have := (Array.getElem?_eq_some_iff.1 ho).1; simpa using this
                have hcs : i = 0 ∨ i = 1 ∨ i = 2 ∨ i = 3 ∨ i = 4 ∨ i = 5 ∨ i = 6 ∨ i = 7 ∨ i = 8 ∨ i = 9 ∨ i = 10 ∨ i = 11 ∨ i = 12 ∨ i = 13 ∨ i = 14 ∨ i = 15 ∨ i = 16 ∨ i = 17 ∨ i = 18 ∨ i = 19 ∨ i = 20 ∨ i = 21 ∨ i = 22 ∨ i = 23 ∨ i = 24 := by omega
                clear hi hiN
                have hng := ngot hn
                rcases hcs with rfl | rfl | rfl | rfl | rfl | rfl | rfl | rfl | rfl | rfl | rfl | rfl | rfl | rfl | rfl | rfl | rfl | rfl | rfl | rfl | rfl | rfl | rfl | rfl | rfl
                all_goals (simp at ho; subst ho)
                · obtain ⟨a0, a1, a2, a3⟩ := blkE_cells (SZ.out.next (below_of h.be)).ba
                  refine wpOp_of_list rfl ?_
                  simp only [sdAct, hg5, hg6, hg7]
                  go_wp2_with fail
                  change (listed.setIfInBounds 0 true).size = 25 ∧ _
                  refine ⟨by simp [hsz], trivial, upd f 0 (.agg #[.int .i64 k1, .int .i64 m1, .string s1, .slice A1 i c1]), upd g' 0 (.agg #[.int .i64 k1, .int .i64 m1, .string s1, .slice A1 i c1]), ?_, h.quiet (by omega) hng (by omega) (by decide) (by decide) rfl (World.grownBy.refl W none) (.inl rfl)⟩
                  simp only [sdAct, upd, hg5, hg6, hg7]
                  try rfl
                · obtain ⟨a0, a1, a2, a3⟩ := blkE_cells (TZ.out.next (below_of h.be)).ba
                  refine wpOp_of_list rfl ?_
                  simp only [sdAct, hg5, hg6, hg7]
                  go_wp2_with fail
                  change (listed.setIfInBounds 1 true).size = 25 ∧ _
                  refine ⟨by simp [hsz], trivial, upd f 1 (.agg #[.int .i64 k2, .int .i64 m2, .string s2, .slice A2 l2 c2']), upd g' 1 (.agg #[.int .i64 k2, .int .i64 m2, .string s2, .slice A2 l2 c2']), ?_, h.quiet (by omega) hng (by omega) (by decide) (by decide) rfl (World.grownBy.refl W none) (.inl rfl)⟩
                  simp only [sdAct, upd, hg5, hg6, hg7]
                  try rfl
                · have g0 : got listed 0 := haft ⟨0, .data⟩ (by simp) rfl
                  have g1 : got listed 1 := haft ⟨1, .data⟩ (by simp) rfl
                  have e0 : f 0 = (.agg #[.int .i64 k1, .int .i64 m1, .string s1, .slice A1 i c1]) := h.cv 0 (by decide) g0
                  have e1 : f 1 = (.agg #[.int .i64 k2, .int .i64 m2, .string s2, .slice A2 l2 c2']) := h.cv 1 (by decide) g1
                  refine wpOp_of_list rfl ?_
                  simp only [sdAct, hg5, hg6, hg7, e0, e1]
                  go_wp2_with fail
                  refine (implExprV (SZ.out.next (below_of h.be)).ka (TZ.out.next (below_of h.be)).ka).mono ?_
                  rintro e W' ⟨he, hb⟩
                  replace he : e = .returned (.bool E1) := by rw [he]; exact congrArg (fun b => Ending.returned (.bool b)) HE1.out
                  subst he
                  go_wp2_with fail
                  change (listed.setIfInBounds 2 true).size = 25 ∧ _
                  refine ⟨by simp [hsz], trivial, upd f 2 (.bool E1), upd g' 2 (.bool E1), ?_, h.quiet (by omega) hng (by omega) (by decide) (by decide) rfl (below_grown hb none) (.inl rfl)⟩
                  simp only [sdAct, upd, hg5, hg6, hg7, e0, e1]
                  try rfl
                · obtain ⟨a0, a1, a2, a3⟩ := blkE_cells (SZ.out.next (below_of h.be)).ba
                  refine wpOp_of_list rfl ?_
                  simp only [sdAct, hg5, hg6, hg7]
                  go_wp2_with fail
                  change (listed.setIfInBounds 3 true).size = 25 ∧ _
                  refine ⟨by simp [hsz], trivial, upd f 3 (.agg #[.int .i64 k1, .int .i64 m1, .string s1, .slice A1 i c1]), upd g' 3 (.agg #[.int .i64 k1, .int .i64 m1, .string s1, .slice A1 i c1]), ?_, h.quiet (by omega) hng (by omega) (by decide) (by decide) rfl (World.grownBy.refl W none) (.inl rfl)⟩
                  simp only [sdAct, upd, hg5, hg6, hg7]
                  try rfl
                · have g3 : got listed 3 := haft ⟨3, .data⟩ (by simp) rfl
                  have e3 : f 3 = (.agg #[.int .i64 k1, .int .i64 m1, .string s1, .slice A1 i c1]) := h.cv 3 (by decide) g3
                  refine wpOp_of_list rfl ?_
                  simp only [sdAct, hg5, hg6, hg7, e3]
                  go_wp2_with fail
                  refine (implExprWords k1 m1 s1 A1 i c1 t1  W (SZ.out.next (below_of h.be)).ka (by have := HW1.out; omega) (HT.out.keep (HBZ.out.trans ((below_of h.be).mono HBZ.out.size)))).mono ?_
                  rintro e W' ⟨v, rfl, hown, hb⟩
                  go_wp2_with fail
                  change (listed.setIfInBounds 4 true).size = 25 ∧ _
                  refine ⟨by simp [hsz], trivial, upd f 4 v, upd g' 4 v, ?_, h.fresh (by omega) hng (by omega) (by decide) (by decide) (below_grown hb none) (.inl rfl) hown rfl rfl⟩
                  simp only [sdAct, upd, hg5, hg6, hg7, e3]
                  try rfl
                · have g4 : got listed 4 := haft ⟨4, .data⟩ (by simp) rfl
                  have hownR := h.own (j := 4) (by decide) g4 (ngot_out (by rw [hsz]; decide))
                  refine wpOp_of_list rfl ?_
                  simp only [sdAct, hg5, hg6, hg7]
                  go_wp2_with fail
                  refine (implText t1 (f 4) _ _ W hownR rfl).mono ?_
                  rintro e W' ⟨he, hb⟩
                  rw [← HX1.out] at he
                  subst he
                  go_wp2_with fail
                  change (listed.setIfInBounds 5 true).size = 25 ∧ _
                  refine ⟨by simp [hsz], trivial, upd f 5 (.string x1), upd g' 5 (.string x1), ?_, h.quiet (by omega) hng (by omega) (by decide) (by decide) rfl (below_grown hb none) (.inl rfl)⟩
                  simp only [sdAct, upd, hg5, hg6, hg7]
                  try rfl
                · obtain ⟨a0, a1, a2, a3⟩ := blkE_cells (TZ.out.next (below_of h.be)).ba
                  refine wpOp_of_list rfl ?_
                  simp only [sdAct, hg5, hg6, hg7]
                  go_wp2_with fail
                  change (listed.setIfInBounds 6 true).size = 25 ∧ _
                  refine ⟨by simp [hsz], trivial, upd f 6 (.agg #[.int .i64 k2, .int .i64 m2, .string s2, .slice A2 l2 c2']), upd g' 6 (.agg #[.int .i64 k2, .int .i64 m2, .string s2, .slice A2 l2 c2']), ?_, h.quiet (by omega) hng (by omega) (by decide) (by decide) rfl (World.grownBy.refl W none) (.inl rfl)⟩
                  simp only [sdAct, upd, hg5, hg6, hg7]
                  try rfl
                · have g6 : got listed 6 := haft ⟨6, .data⟩ (by simp) rfl
                  have e6 : f 6 = (.agg #[.int .i64 k2, .int .i64 m2, .string s2, .slice A2 l2 c2']) := h.cv 6 (by decide) g6
                  refine wpOp_of_list rfl ?_
                  simp only [sdAct, hg5, hg6, hg7, e6]
                  go_wp2_with fail
                  refine (implExprWords k2 m2 s2 A2 l2 c2' t2  W (TZ.out.next (below_of h.be)).ka (by have := HW2.out; omega) (HT.out.keep (HBZ.out.trans ((below_of h.be).mono HBZ.out.size)))).mono ?_
                  rintro e W' ⟨v, rfl, hown, hb⟩
                  go_wp2_with fail
                  change (listed.setIfInBounds 7 true).size = 25 ∧ _
                  refine ⟨by simp [hsz], trivial, upd f 7 v, upd g' 7 v, ?_, h.fresh (by omega) hng (by omega) (by decide) (by decide) (below_grown hb none) (.inl rfl) hown rfl rfl⟩
                  simp only [sdAct, upd, hg5, hg6, hg7, e6]
                  try rfl
                · have g7 : got listed 7 := haft ⟨7, .data⟩ (by simp) rfl
                  have hownR := h.own (j := 7) (by decide) g7 (ngot_out (by rw [hsz]; decide))
                  refine wpOp_of_list rfl ?_
                  simp only [sdAct, hg5, hg6, hg7]
                  go_wp2_with fail
                  refine (implText t2 (f 7) _ _ W hownR rfl).mono ?_
                  rintro e W' ⟨he, hb⟩
                  rw [← HX2.out] at he
                  subst he
                  go_wp2_with fail
                  change (listed.setIfInBounds 8 true).size = 25 ∧ _
                  refine ⟨by simp [hsz], trivial, upd f 8 (.string x2), upd g' 8 (.string x2), ?_, h.quiet (by omega) hng (by omega) (by decide) (by decide) rfl (below_grown hb none) (.inl rfl)⟩
                  simp only [sdAct, upd, hg5, hg6, hg7]
                  try rfl
                · have g5 : got listed 5 := haft ⟨5, .data⟩ (by simp) rfl
                  have g8 : got listed 8 := haft ⟨8, .data⟩ (by simp) rfl
                  have e5 : f 5 = (.string x1) := h.cv 5 (by decide) g5
                  have e8 : f 8 = (.string x2) := h.cv 8 (by decide) g8
                  refine wpOp_of_list rfl ?_
                  simp only [sdAct, hg5, hg6, hg7, e5, e8]
                  go_wp2_with fail
                  change (listed.setIfInBounds 9 true).size = 25 ∧ _
                  refine ⟨by simp [hsz], trivial, upd f 9 (.bool Q1), upd g' 9 (.bool Q1), ?_, h.quiet (by omega) hng (by omega) (by decide) (by decide) rfl (World.grownBy.refl W none) (.inl rfl)⟩
                  simp only [sdAct, upd, hg5, hg6, hg7, e5, e8]
                  try rfl
                · have g2 : got listed 2 := haft ⟨2, .data⟩ (by simp) rfl
                  have g9 : got listed 9 := haft ⟨9, .data⟩ (by simp) rfl
                  have e2 : f 2 = (.bool E1) := h.cv 2 (by decide) g2
                  have e9 : f 9 = (.bool Q1) := h.cv 9 (by decide) g9
                  refine wpOp_of_list rfl ?_
                  simp only [sdAct, hg5, hg6, hg7, e2, e9]
                  go_wp2_with fail
                  change (listed.setIfInBounds 10 true).size = 25 ∧ _
                  refine ⟨by simp [hsz], trivial, upd f 10 (.bool true), upd g' 10 (.bool true), ?_, h.quiet (by omega) hng (by omega) (by decide) (by decide) rfl (World.grownBy.refl W none) (.inl rfl)⟩
                  simp only [sdAct, upd, hg5, hg6, hg7, e2, e9]
                  try rfl
                · have g10 : got listed 10 := haft ⟨10, .data⟩ (by simp) rfl
                  have e10 : f 10 = (.bool true) := h.cv 10 (by decide) g10
                  refine wpOp_of_list rfl ?_
                  simp only [sdAct, hg5, hg6, hg7, e10]
                  go_wp2_with fail
                  change (listed.setIfInBounds 11 true).size = 25 ∧ _
                  refine ⟨by simp [hsz], trivial, upd f 11 (.bool true), upd g' 11 (.bool true), ?_, h.quiet (by omega) hng (by omega) (by decide) (by decide) rfl (World.grownBy.refl W none) (.inl rfl)⟩
                  simp only [sdAct, upd, hg5, hg6, hg7, e10]
                  try rfl
                · have g11 : got listed 11 := haft ⟨11, .guard⟩ (by simp) rfl
                  have e11 : f 11 = (.bool true) := h.cv 11 (by decide) g11
                  obtain ⟨a0, a1, a2, a3⟩ := blkE_cells (SZ.out.next (below_of h.be)).ba
                  refine wpOp_of_list rfl ?_
                  simp only [sdAct, hg5, hg6, hg7, e11]
                  go_wp2_with fail
                  change (listed.setIfInBounds 12 true).size = 25 ∧ _
                  refine ⟨by simp [hsz], trivial, upd f 12 (.agg #[.int .i64 k1, .int .i64 m1, .string s1, .slice A1 i c1]), upd g' 12 (.agg #[.int .i64 k1, .int .i64 m1, .string s1, .slice A1 i c1]), ?_, h.quiet (by omega) hng (by omega) (by decide) (by decide) rfl (World.grownBy.refl W none) (.inl rfl)⟩
                  simp only [sdAct, upd, hg5, hg6, hg7, e11]
                  try rfl
                · have g11 : got listed 11 := haft ⟨11, .guard⟩ (by simp) rfl
                  have e11 : f 11 = (.bool true) := h.cv 11 (by decide) g11
                  obtain ⟨a0, a1, a2, a3⟩ := blkE_cells (UZ.out.next (below_of h.be)).ba
                  refine wpOp_of_list rfl ?_
                  simp only [sdAct, hg5, hg6, hg7, e11]
                  go_wp2_with fail
                  change (listed.setIfInBounds 13 true).size = 25 ∧ _
                  refine ⟨by simp [hsz], trivial, upd f 13 (.agg #[.int .i64 k3, .int .i64 m3, .string s3, .slice A3 l3 c3]), upd g' 13 (.agg #[.int .i64 k3, .int .i64 m3, .string s3, .slice A3 l3 c3]), ?_, h.quiet (by omega) hng (by omega) (by decide) (by decide) rfl (World.grownBy.refl W none) (.inl rfl)⟩
                  simp only [sdAct, upd, hg5, hg6, hg7, e11]
                  try rfl
                · have g12 : got listed 12 := haft ⟨12, .data⟩ (by simp) rfl
                  have g13 : got listed 13 := haft ⟨13, .data⟩ (by simp) rfl
                  have g11 : got listed 11 := haft ⟨11, .guard⟩ (by simp) rfl
                  have e11 : f 11 = (.bool true) := h.cv 11 (by decide) g11
                  have e12 : f 12 = (.agg #[.int .i64 k1, .int .i64 m1, .string s1, .slice A1 i c1]) := h.cv 12 (by decide) g12
                  have e13 : f 13 = (.agg #[.int .i64 k3, .int .i64 m3, .string s3, .slice A3 l3 c3]) := h.cv 13 (by decide) g13
                  refine wpOp_of_list rfl ?_
                  simp only [sdAct, hg5, hg6, hg7, e11, e12, e13]
                  go_wp2_with fail
                  refine (implExprV (SZ.out.next (below_of h.be)).ka (UZ.out.next (below_of h.be)).ka).mono ?_
                  rintro e W' ⟨he, hb⟩
                  replace he : e = .returned (.bool E2) := by rw [he]; exact congrArg (fun b => Ending.returned (.bool b)) HE2.out
                  subst he
                  go_wp2_with fail
                  change (listed.setIfInBounds 14 true).size = 25 ∧ _
                  refine ⟨by simp [hsz], trivial, upd f 14 (.bool E2), upd g' 14 (.bool E2), ?_, h.quiet (by omega) hng (by omega) (by decide) (by decide) rfl (below_grown hb none) (.inl rfl)⟩
                  simp only [sdAct, upd, hg5, hg6, hg7, e11, e12, e13]
                  try rfl
                · have g11 : got listed 11 := haft ⟨11, .guard⟩ (by simp) rfl
                  have e11 : f 11 = (.bool true) := h.cv 11 (by decide) g11
                  obtain ⟨a0, a1, a2, a3⟩ := blkE_cells (SZ.out.next (below_of h.be)).ba
                  refine wpOp_of_list rfl ?_
                  simp only [sdAct, hg5, hg6, hg7, e11]
                  go_wp2_with fail
                  change (listed.setIfInBounds 15 true).size = 25 ∧ _
                  refine ⟨by simp [hsz], trivial, upd f 15 (.agg #[.int .i64 k1, .int .i64 m1, .string s1, .slice A1 i c1]), upd g' 15 (.agg #[.int .i64 k1, .int .i64 m1, .string s1, .slice A1 i c1]), ?_, h.quiet (by omega) hng (by omega) (by decide) (by decide) rfl (World.grownBy.refl W none) (.inl rfl)⟩
                  simp only [sdAct, upd, hg5, hg6, hg7, e11]
                  try rfl
                · have g15 : got listed 15 := haft ⟨15, .data⟩ (by simp) rfl
                  have g11 : got listed 11 := haft ⟨11, .guard⟩ (by simp) rfl
                  have e11 : f 11 = (.bool true) := h.cv 11 (by decide) g11
                  have e15 : f 15 = (.agg #[.int .i64 k1, .int .i64 m1, .string s1, .slice A1 i c1]) := h.cv 15 (by decide) g15
                  refine wpOp_of_list rfl ?_
                  simp only [sdAct, hg5, hg6, hg7, e11, e15]
                  go_wp2_with fail
                  refine (implExprWords k1 m1 s1 A1 i c1 t1  W (SZ.out.next (below_of h.be)).ka (by have := HW1.out; omega) (HT.out.keep (HBZ.out.trans ((below_of h.be).mono HBZ.out.size)))).mono ?_
                  rintro e W' ⟨v, rfl, hown, hb⟩
                  go_wp2_with fail
                  change (listed.setIfInBounds 16 true).size = 25 ∧ _
                  refine ⟨by simp [hsz], trivial, upd f 16 v, upd g' 16 v, ?_, h.fresh (by omega) hng (by omega) (by decide) (by decide) (below_grown hb none) (.inl rfl) hown rfl rfl⟩
                  simp only [sdAct, upd, hg5, hg6, hg7, e11, e15]
                  try rfl
                · have g16 : got listed 16 := haft ⟨16, .data⟩ (by simp) rfl
                  have g11 : got listed 11 := haft ⟨11, .guard⟩ (by simp) rfl
                  have e11 : f 11 = (.bool true) := h.cv 11 (by decide) g11
                  have hownR := h.own (j := 16) (by decide) g16 (ngot_out (by rw [hsz]; decide))
                  refine wpOp_of_list rfl ?_
                  simp only [sdAct, hg5, hg6, hg7, e11]
                  go_wp2_with fail
                  refine (implText t1 (f 16) _ _ W hownR rfl).mono ?_
                  rintro e W' ⟨he, hb⟩
                  rw [← HX1.out] at he
                  subst he
                  go_wp2_with fail
                  change (listed.setIfInBounds 17 true).size = 25 ∧ _
                  refine ⟨by simp [hsz], trivial, upd f 17 (.string x1), upd g' 17 (.string x1), ?_, h.quiet (by omega) hng (by omega) (by decide) (by decide) rfl (below_grown hb none) (.inl rfl)⟩
                  simp only [sdAct, upd, hg5, hg6, hg7, e11]
                  try rfl
                · have g11 : got listed 11 := haft ⟨11, .guard⟩ (by simp) rfl
                  have e11 : f 11 = (.bool true) := h.cv 11 (by decide) g11
                  obtain ⟨a0, a1, a2, a3⟩ := blkE_cells (UZ.out.next (below_of h.be)).ba
                  refine wpOp_of_list rfl ?_
                  simp only [sdAct, hg5, hg6, hg7, e11]
                  go_wp2_with fail
                  change (listed.setIfInBounds 18 true).size = 25 ∧ _
                  refine ⟨by simp [hsz], trivial, upd f 18 (.agg #[.int .i64 k3, .int .i64 m3, .string s3, .slice A3 l3 c3]), upd g' 18 (.agg #[.int .i64 k3, .int .i64 m3, .string s3, .slice A3 l3 c3]), ?_, h.quiet (by omega) hng (by omega) (by decide) (by decide) rfl (World.grownBy.refl W none) (.inl rfl)⟩
                  simp only [sdAct, upd, hg5, hg6, hg7, e11]
                  try rfl
                · have g18 : got listed 18 := haft ⟨18, .data⟩ (by simp) rfl
                  have g11 : got listed 11 := haft ⟨11, .guard⟩ (by simp) rfl
                  have e11 : f 11 = (.bool true) := h.cv 11 (by decide) g11
                  have e18 : f 18 = (.agg #[.int .i64 k3, .int .i64 m3, .string s3, .slice A3 l3 c3]) := h.cv 18 (by decide) g18
                  refine wpOp_of_list rfl ?_
                  simp only [sdAct, hg5, hg6, hg7, e11, e18]
                  go_wp2_with fail
                  refine (implExprWords k3 m3 s3 A3 l3 c3 t3  W (UZ.out.next (below_of h.be)).ka (by have := HW3.out; omega) (HT.out.keep (HBZ.out.trans ((below_of h.be).mono HBZ.out.size)))).mono ?_
                  rintro e W' ⟨v, rfl, hown, hb⟩
                  go_wp2_with fail
                  change (listed.setIfInBounds 19 true).size = 25 ∧ _
                  refine ⟨by simp [hsz], trivial, upd f 19 v, upd g' 19 v, ?_, h.fresh (by omega) hng (by omega) (by decide) (by decide) (below_grown hb none) (.inl rfl) hown rfl rfl⟩
                  simp only [sdAct, upd, hg5, hg6, hg7, e11, e18]
                  try rfl
                · have g19 : got listed 19 := haft ⟨19, .data⟩ (by simp) rfl
                  have g11 : got listed 11 := haft ⟨11, .guard⟩ (by simp) rfl
                  have e11 : f 11 = (.bool true) := h.cv 11 (by decide) g11
                  have hownR := h.own (j := 19) (by decide) g19 (ngot_out (by rw [hsz]; decide))
                  refine wpOp_of_list rfl ?_
                  simp only [sdAct, hg5, hg6, hg7, e11]
                  go_wp2_with fail
                  refine (implText t3 (f 19) _ _ W hownR rfl).mono ?_
                  rintro e W' ⟨he, hb⟩
                  rw [← HX3.out] at he
                  subst he
                  go_wp2_with fail
                  change (listed.setIfInBounds 20 true).size = 25 ∧ _
                  refine ⟨by simp [hsz], trivial, upd f 20 (.string x3), upd g' 20 (.string x3), ?_, h.quiet (by omega) hng (by omega) (by decide) (by decide) rfl (below_grown hb none) (.inl rfl)⟩
                  simp only [sdAct, upd, hg5, hg6, hg7, e11]
                  try rfl
                · have g17 : got listed 17 := haft ⟨17, .data⟩ (by simp) rfl
                  have g20 : got listed 20 := haft ⟨20, .data⟩ (by simp) rfl
                  have g11 : got listed 11 := haft ⟨11, .guard⟩ (by simp) rfl
                  have e11 : f 11 = (.bool true) := h.cv 11 (by decide) g11
                  have e17 : f 17 = (.string x1) := h.cv 17 (by decide) g17
                  have e20 : f 20 = (.string x3) := h.cv 20 (by decide) g20
                  refine wpOp_of_list rfl ?_
                  simp only [sdAct, hg5, hg6, hg7, e11, e17, e20]
                  go_wp2_with fail
                  change (listed.setIfInBounds 21 true).size = 25 ∧ _
                  refine ⟨by simp [hsz], trivial, upd f 21 (.bool Q2), upd g' 21 (.bool Q2), ?_, h.quiet (by omega) hng (by omega) (by decide) (by decide) rfl (World.grownBy.refl W none) (.inl rfl)⟩
                  simp only [sdAct, upd, hg5, hg6, hg7, e11, e17, e20]
                  try rfl
                · have g14 : got listed 14 := haft ⟨14, .data⟩ (by simp) rfl
                  have g21 : got listed 21 := haft ⟨21, .data⟩ (by simp) rfl
                  have g11 : got listed 11 := haft ⟨11, .guard⟩ (by simp) rfl
                  have e11 : f 11 = (.bool true) := h.cv 11 (by decide) g11
                  have e14 : f 14 = (.bool E2) := h.cv 14 (by decide) g14
                  have e21 : f 21 = (.bool Q2) := h.cv 21 (by decide) g21
                  refine wpOp_of_list rfl ?_
                  simp only [sdAct, hg5, hg6, hg7, e11, e14, e21]
                  go_wp2_with fail
                  change (listed.setIfInBounds 22 true).size = 25 ∧ _
                  refine ⟨by simp [hsz], trivial, upd f 22 (.bool true), upd g' 22 (.bool true), ?_, h.quiet (by omega) hng (by omega) (by decide) (by decide) rfl (World.grownBy.refl W none) (.inl rfl)⟩
                  simp only [sdAct, upd, hg5, hg6, hg7, e11, e14, e21]
                  try rfl
                · have g11 : got listed 11 := haft ⟨11, .data⟩ (by simp) rfl
                  have g22 : got listed 22 := haft ⟨22, .data⟩ (by simp) rfl
                  have e11 : f 11 = (.bool true) := h.cv 11 (by decide) g11
                  have e22 : f 22 = (.bool true) := h.cv 22 (by decide) g22
                  refine wpOp_of_list rfl ?_
                  simp only [sdAct, hg5, hg6, hg7, e11, e22]
                  go_wp2_with fail
                  change (listed.setIfInBounds 23 true).size = 25 ∧ _
                  refine ⟨by simp [hsz], trivial, upd f 23 (.bool true), upd g' 23 (.bool true), ?_, h.quiet (by omega) hng (by omega) (by decide) (by decide) rfl (World.grownBy.refl W none) (.inl rfl)⟩
                  simp only [sdAct, upd, hg5, hg6, hg7, e11, e22]
                  try rfl
                · have g23 : got listed 23 := haft ⟨23, .data⟩ (by simp) rfl
                  have e23 : f 23 = (.bool true) := h.cv 23 (by decide) g23
                  refine wpOp_of_list rfl ?_
                  simp only [sdAct, hg5, hg6, hg7, e23]
                  go_wp2_with fail
                  change (listed.setIfInBounds 24 true).size = 25 ∧ _
                  refine ⟨by simp [hsz], trivial, upd f 24 (.bool true), upd g' 24 (.bool true), ?_, h.quiet (by omega) hng (by omega) (by decide) (by decide) rfl (World.grownBy.refl W none) (.inl rfl)⟩
                  simp only [sdAct, upd, hg5, hg6, hg7, e23]
                  try rfl
              case hd =>
                rintro listed a wc ⟨hsz, hx, f, g', rfl, h⟩ hr
                have hall := ready_all (listed := listed) (by kernel_rfl) (by rw [hsz]; rfl) hr
                have e24 : f 24 = .bool true := h.cv 24 (by decide) (hall 24 (by decide))
                have HBF : Hid (Below w.heap.size w wc) := HBZ.out.trans ((below_of h.be).mono HBZ.out.size)
                clear hr h hx hall harr hg
                simp only [sdAct, hg5, hg6, hg7, e24]
                go_wp2_with fail
                go_ret
                exact ⟨rfl, HBF.out⟩
end Go.Proofs.YtfjmjlpobbjjdaaDoor
