/- The walk of FnExprLast. -/
import Derived.Test.YtfjmjlpobbjjdaaDoorLsQ
import Derived.Test.YtfjmjlpobbjjdaaDoorInts
import Derived.Deep.Cut
import Derived.Deep.DeepCutAuto
namespace Go.Proofs.YtfjmjlpobbjjdaaDoor
open Go.RowKit Ilp
set_option linter.unusedVariables false
set_option linter.unusedSimpArgs false

/-- The frame of the first region: what came before, the slots of the operations. -/
def lsAct (g f : Nat → Value) : Act := { tmps := #[g 0, g 1, g 2, g 3, g 4, g 5, g 6, g 7, g 8, g 9, f 15, f 16, g 12, g 13, g 14, g 15, g 16, g 17, g 18, g 19, g 20, g 21, g 22, g 23, g 24, g 25, g 26, g 27, g 28, g 29, g 30, g 31, g 32, g 33, g 34, g 35, g 36, g 37, g 38, g 39, g 40, g 41, g 42, g 43, g 44, g 45, g 46, g 47, g 48, g 49, g 50, g 51, g 52, g 53, g 54, g 55, g 56, g 57, g 58, g 59, g 60, g 61, g 62, g 63, f 12, f 0, f 1, f 2, f 3, f 4, f 5, f 6, f 7, f 8, f 9, f 10, f 11, f 13, f 14, undef, undef, undef, undef, undef, undef, undef, undef, undef, undef, undef, undef, undef, undef, undef, undef, undef, undef, undef, undef, undef, undef, undef, undef, undef, undef, undef, undef, undef, undef, undef, undef, undef, undef, undef, undef, undef, undef, undef, undef, undef, undef, undef, undef, undef, undef, undef, undef, undef, undef, undef, undef, undef, undef, undef, undef, undef, undef, undef, undef, undef, undef, undef, undef], defers := [] }
def LsK (g : Nat → Value) (V : World) (ag names nums tup vn vb : Value) (ns : List ByteArray) (xs : List Int) (listed : Array Bool) (a : Act) (W : World) : Prop := listed.size = 17 ∧ ∃ f, a = lsAct g f ∧ LsO V ag names nums tup vn vb ns xs listed f W
theorem strB_one {zs : List ByteArray} : ∀ u ∈ strB zs, u.oneCell' = true := by
  intro u hu; unfold strB at hu; obtain ⟨x, _, rfl⟩ := List.mem_map.1 hu; rfl
theorem intB_one {zs : List Int} : ∀ u ∈ ints zs, u.oneCell' = true := by
  intro u hu; unfold ints at hu; obtain ⟨x, _, rfl⟩ := List.mem_map.1 hu; rfl

theorem region_arr {P : Program} {c : Code} {Q : Exit → Act → World → Prop} {arr : Array Value} {W : World} (h : ∀ arr', arr' = arr → c.wp P Q { tmps := arr', defers := [] } W) : c.wp P Q { tmps := arr, defers := [] } W := h arr rfl
def q9E : List (Nat × Nat) := [(3, 1), (6, 4), (6, 3), (7, 3), (7, 6), (7, 0), (8, 7), (9, 8), (10, 8), (11, 9), (12, 10)]
def q9S : Nat → Nat
  | 0 => 80
  | 1 => 81
  | 2 => 82
  | 3 => 83
  | 4 => 84
  | 5 => 85
  | 6 => 86
  | 7 => 87
  | 8 => 79
  | 9 => 88
  | 10 => 89
  | 11 => 12
  | 12 => 13
  | _ => 0
def q9Act (g f : Nat → Value) : Act := { tmps := #[g 0, g 1, g 2, g 3, g 4, g 5, g 6, g 7, g 8, g 9, g 10, g 11, f 11, f 12, g 14, g 15, g 16, g 17, g 18, g 19, g 20, g 21, g 22, g 23, g 24, g 25, g 26, g 27, g 28, g 29, g 30, g 31, g 32, g 33, g 34, g 35, g 36, g 37, g 38, g 39, g 40, g 41, g 42, g 43, g 44, g 45, g 46, g 47, g 48, g 49, g 50, g 51, g 52, g 53, g 54, g 55, g 56, g 57, g 58, g 59, g 60, g 61, g 62, g 63, g 64, g 65, g 66, g 67, g 68, g 69, g 70, g 71, g 72, g 73, g 74, g 75, g 76, g 77, g 78, f 8, f 0, f 1, f 2, f 3, f 4, f 5, f 6, f 7, f 9, f 10, g 90, g 91, g 92, g 93, g 94, g 95, g 96, g 97, g 98, g 99, g 100, g 101, g 102, g 103, g 104, g 105, g 106, g 107, g 108, g 109, g 110, g 111, g 112, g 113, g 114, g 115, g 116, g 117, g 118, g 119, g 120, g 121, g 122, g 123, g 124, g 125, g 126, g 127, g 128, g 129, g 130, g 131, g 132, g 133, g 134, g 135, g 136, g 137, g 138, g 139, g 140, g 141, g 142], defers := [] }
def q9k (tup vn vb : Value) : Nat → Value → Prop
  | 0, v => v = tup
  | 1, v => v = vn
  | 2, v => v = vb
  | 3, v => v = vn
  | 4, v => v = vb
  | _, _ => True
def q9K (g : Nat → Value) (V : World) (T2 : TypeId) (ag names vals tup : Value) (k : Nat → Value → Prop) (ws1 us1 ws2 us2 : List Value) (listed : Array Bool) (a : Act) (W : World) : Prop := listed.size = 13 ∧ ∃ f, a = q9Act g f ∧ LqO V T2 ag names vals tup k q9E ws1 us1 ws2 us2 listed f W

def q16E : List (Nat × Nat) := [(3, 1), (6, 4), (6, 3), (7, 3), (7, 6), (7, 0), (8, 7)]
def q16S : Nat → Nat
  | 0 => 106
  | 1 => 107
  | 2 => 108
  | 3 => 109
  | 4 => 110
  | 5 => 111
  | 6 => 112
  | 7 => 113
  | 8 => 17
  | _ => 0
def q16Act (g f : Nat → Value) : Act := { tmps := #[g 0, g 1, g 2, g 3, g 4, g 5, g 6, g 7, g 8, g 9, g 10, g 11, g 12, g 13, g 14, g 15, g 16, f 8, g 18, g 19, g 20, g 21, g 22, g 23, g 24, g 25, g 26, g 27, g 28, g 29, g 30, g 31, g 32, g 33, g 34, g 35, g 36, g 37, g 38, g 39, g 40, g 41, g 42, g 43, g 44, g 45, g 46, g 47, g 48, g 49, g 50, g 51, g 52, g 53, g 54, g 55, g 56, g 57, g 58, g 59, g 60, g 61, g 62, g 63, g 64, g 65, g 66, g 67, g 68, g 69, g 70, g 71, g 72, g 73, g 74, g 75, g 76, g 77, g 78, g 79, g 80, g 81, g 82, g 83, g 84, g 85, g 86, g 87, g 88, g 89, g 90, g 91, g 92, g 93, g 94, g 95, g 96, g 97, g 98, g 99, g 100, g 101, g 102, g 103, g 104, g 105, f 0, f 1, f 2, f 3, f 4, f 5, f 6, f 7, g 114, g 115, g 116, g 117, g 118, g 119, g 120, g 121, g 122, g 123, g 124, g 125, g 126, g 127, g 128, g 129, g 130, g 131, g 132, g 133, g 134, g 135, g 136, g 137, g 138, g 139, g 140, g 141, g 142], defers := [] }
def q16k (ru : Value) : Nat → Value → Prop
  | 0, v => v = ru
  | _, _ => True
def q16K (g : Nat → Value) (V : World) (T2 : TypeId) (ag names vals tup : Value) (k : Nat → Value → Prop) (ws1 us1 ws2 us2 : List Value) (listed : Array Bool) (a : Act) (W : World) : Prop := listed.size = 9 ∧ ∃ f, a = q16Act g f ∧ LqO V T2 ag names vals tup k q16E ws1 us1 ws2 us2 listed f W
def tysI (n i : Nat) : List ByteArray := List.replicate i ⟨#[105, 110, 116]⟩ ++ List.replicate (n - i) ByteArray.empty
theorem tysI_len {n i : Nat} (h : i ≤ n) : (tysI n i).length = n := by simp [tysI]; omega
theorem tysI_zero (n : Nat) : tysI n 0 = List.replicate n ByteArray.empty := by simp [tysI]
theorem tysI_set {n i : Nat} (h : i < n) : (strB (tysI n i)).set i (.string ⟨#[105, 110, 116]⟩) = strB (tysI n (i + 1)) := by
  have h1 : n - i = (n - (i + 1)) + 1 := by omega
  unfold tysI strB
  rw [h1, List.replicate_succ, List.replicate_succ', List.map_append, List.map_append, List.map_cons, List.set_append_right _ _ (by simp)]
  simp

set_option maxHeartbeats 8000000 in
set_option maxRecDepth 20000 in
theorem law_FnExprLast (a : Option Addr) (n c : Nat) (z : List Int) (w : World) (hsh : w.ShapedOpen Tryd.prog) (hT : Tabs w) (hz : IsRow .u8 w a n c z) :
    Calls Tryd.prog 3 #[.slice a n c] w fun e w' => e = .returned (.bool true) ∧ Below w.heap.size w w' := by
  have HZ := Lib.hid hz
  have HT := Lib.hid hT
  have hn : (n : Int) ≤ 9223372036854775807 := hz.row.2.2.2.1
  clear hz hT hsh
  go_enter Tryd.func3, Tryd.ntmps3
  by_cases hbig : (1048576 : Int) < (n : Int)
  · have hbig2 : (n : Int) > 1048576 := hbig
    go_wp2_with fail
    go_ret
    exact ⟨rfl, Below.refl _ _⟩
  have hbig2 : ¬ (n : Int) > 1048576 := hbig
  go_wp2_with fail
  refine (drawExprOf a n c z w HZ.out).mono ?_
  rintro e w1 ⟨k, m, s, A, l, cc, t, gn, gt, nn, mt, ns, xs, rfl, hev, hw, hcl, hbn, hbt, ln, lt, hnn, hmt, hb1⟩
  have S2 := Lib.hid (boxS_start hev (hbn.row) (hbt.row))
  have HB1 := Lib.hid hb1
  have LN := Lib.hid ln
  have LT := Lib.hid lt
  have HCL := Lib.hid hcl
  have hw2 : wgt t ≤ 1048576 := by omega
  have HW := Lib.hid hw2
  have hnn2 : (nn : Int) ≤ 1048576 := by omega
  have hmt2 : (mt : Int) ≤ 1048576 := by omega
  have hnn3 : nn ≤ 10 := hnn
  clear hev hw hbn hbt ln lt hnn hmt hb1 hw2 hbig hbig2 HZ hcl
  go_upto_region 4 with (fail)
  generalize w1.alloc (.cells #[.int .i64 k, .int .i64 m, .string s, .slice A l cc] 25) = w2 at *
  obtain ⟨a0, a1, a2, a3⟩ := blkE_cells S2.out.ba
  go_wp2_with fail
  refine (implExprOf k m s A l cc t _ nn nn ns _ mt mt xs w2 S2.out.ka HW.out S2.out.rn S2.out.rt LN LT hnn2 hmt2 (HT.out.keep (HB1.out.trans (S2.out.be.mono HB1.out.size)))).mono ?_
  rintro e w3 ⟨rfl, hb3⟩
  have S3 := Lib.hid (S2.out.next hb3)
  clear hb3 a0 a1 a2 a3 S2
  obtain ⟨a0, a1, a2, a3⟩ := blkE_cells S3.out.ba
  generalize hR : ofE (lstL ns) xs t = R at *
  have HR := Lib.hid hR
  clear hR
  generalize hRn : R.getD 0 = Rn at *
  generalize hRb : R.isSome = Rb at *
  have HRn := Lib.hid hRn
  have HRb := Lib.hid hRb
  have hn1 : (Rn != Rn) = false := by simp
  have hn2 : (Rb != Rb) = false := by simp
  clear hRn hRb
  go_wp2_with fail
  refine (specExprOf k m s A l cc t _ nn nn ns _ mt mt xs w3 S3.out.ka HW.out S3.out.rn S3.out.rt LN LT hnn2 hmt2).mono ?_
  rintro e w4 ⟨he, hb4⟩
  rw [HR.out, HRn.out, HRb.out] at he
  subst he
  have S4 := Lib.hid (S3.out.next hb4)
  have HB4 : Hid (Below w.heap.size w w4) := HB1.out.trans (S4.out.be.mono HB1.out.size)
  clear hb4 a0 a1 a2 a3 S3
  by_cases hnm : nn = mt
  · subst hnm
    clear hmt2
    go_upto_region 8 with (fail)
    clear hn1 hn2
    obtain ⟨is0, his, hs0, hs1, hs2⟩ := info_parts strInfo
    obtain ⟨ii0, hii, hi0, hi1, hi2⟩ := info_parts intInfo
    have hlS : (strB ns).length = nn := by rw [strB_length]; exact LN.out
    have hlI : (ints xs).length = nn := by rw [ints_length]; exact LT.out
    have hg : ∃ g : Nat → Value, g = fun j => (#[Value.slice a n c, undef, Value.bool false, Value.pointer (some { block := w1.heap.size, off := 0 }), Value.slice (some { block := gn, off := 0 }) nn nn, Value.slice (some { block := gt, off := 0 }) nn nn, Value.int IntKind.i64 Rn, Value.bool Rb, Value.int IntKind.i64 Rn, Value.bool Rb, undef, undef, undef, undef, undef, undef, undef, undef, Value.slice a n c, Value.int IntKind.i64 (n : Int), Value.bool false, Value.tuple #[Value.agg #[Value.int IntKind.i64 k, Value.int IntKind.i64 m, Value.string s, Value.slice A l cc], Value.slice (some { block := gn, off := 0 }) nn nn, Value.slice (some { block := gt, off := 0 }) nn nn], Value.slice a n c, Value.tuple #[Value.agg #[Value.int IntKind.i64 k, Value.int IntKind.i64 m, Value.string s, Value.slice A l cc], Value.slice (some { block := gn, off := 0 }) nn nn, Value.slice (some { block := gt, off := 0 }) nn nn], Value.agg #[Value.int IntKind.i64 k, Value.int IntKind.i64 m, Value.string s, Value.slice A l cc], Value.slice (some { block := gn, off := 0 }) nn nn, Value.slice (some { block := gt, off := 0 }) nn nn, Value.tuple #[Value.int IntKind.i64 Rn, Value.bool Rb], Value.agg #[Value.int IntKind.i64 k, Value.int IntKind.i64 m, Value.string s, Value.slice A l cc], Value.slice (some { block := gn, off := 0 }) nn nn, Value.slice (some { block := gt, off := 0 }) nn nn, Value.tuple #[Value.int IntKind.i64 Rn, Value.bool Rb], Value.int IntKind.i64 Rn, Value.bool Rb, Value.tuple #[Value.int IntKind.i64 Rn, Value.bool Rb], Value.agg #[Value.int IntKind.i64 k, Value.int IntKind.i64 m, Value.string s, Value.slice A l cc], Value.slice (some { block := gn, off := 0 }) nn nn, Value.slice (some { block := gt, off := 0 }) nn nn, Value.tuple #[Value.int IntKind.i64 Rn, Value.bool Rb], Value.int IntKind.i64 Rn, Value.bool Rb, Value.int IntKind.i64 Rn, Value.int IntKind.i64 Rn, Value.bool false, Value.bool false, Value.bool Rb, Value.bool Rb, Value.bool false, Value.bool false, Value.bool false, Value.slice (some { block := gn, off := 0 }) nn nn, Value.int IntKind.i64 (nn : Int), Value.slice (some { block := gt, off := 0 }) nn nn, Value.int IntKind.i64 (nn : Int), Value.bool false, Value.bool false, undef, undef, undef, undef, undef, undef, undef, undef] : Array Value).getD j undef := ⟨_, rfl⟩
    obtain ⟨g, hg⟩ := hg
    have hg3 : g 3 = .pointer (some ⟨w1.heap.size, 0, none⟩) := by rw [hg]; rfl
    have hg4 : g 4 = (.slice (some ⟨gn, 0, none⟩) nn nn) := by rw [hg]; rfl
    have hg5 : g 5 = (.slice (some ⟨gt, 0, none⟩) nn nn) := by rw [hg]; rfl
    go_cut [10, 11] from 64 to 78 (fun s10 s11 wc => s10 = .int .i64 Rn ∧ s11 = .bool Rb ∧ Below w4.heap.size w4 wc)
    case first =>
      refine wp_region_inv rfl (LsK g w4 (.agg #[.int .i64 k, .int .i64 m, .string s, .slice A l cc]) (.slice (some ⟨gn, 0, none⟩) nn nn) (.slice (some ⟨gt, 0, none⟩) nn nn) (.tuple #[.int .i64 Rn, .bool Rb]) (.int .i64 Rn) (.bool Rb) ns xs) ?h0 ?hs ?hd
      case h0 =>
        have hf : ∀ j, (Array.replicate 17 false).getD j false = false := fun j => by
          rw [Array.getD_eq_getD_getElem?, Array.getElem?_replicate]; split <;> rfl
        have hng : ∀ j, ¬ got (Array.replicate 17 false) j := fun j e => absurd ((hf j).symm.trans e) (by decide)
        have gr : ∀ T us u, Gr w4.heap.size T us u false false false false undef undef undef undef w4.drew := fun T us u => ⟨(fun x => by cases x), (fun x => by cases x), (fun x => by cases x), (fun x => by cases x)⟩
        refine ⟨by simp, fun _ => undef, by rw [hg]; rfl, (Below.refl _ _).drew, fun _ => ?_, fun _ => ?_, fun j e => absurd e (hng j), fun p _ e => absurd e (hng _)⟩
        · show GrAt _ _ _ _ _ _ _ _ (Array.replicate 17 false) _ _
          unfold GrAt; rw [hf, hf, hf, hf]; exact gr _ _ _
        · show GrAt _ _ _ _ _ _ _ _ (Array.replicate 17 false) _ _
          unfold GrAt; rw [hf, hf, hf, hf]; exact gr _ _ _
      case hs =>
        clear hg
        rintro listed a W i ⟨hsz, f, rfl, h⟩ hi
        obtain ⟨hn, o, ho, haft⟩ := mem_ready.1 hi
        have hi17 : i < 17 := by have := (Array.getElem?_eq_some_iff.1 ho).1; simpa using this
        have hcs : i = 0 ∨ i = 1 ∨ i = 2 ∨ i = 3 ∨ i = 4 ∨ i = 5 ∨ i = 6 ∨ i = 7 ∨ i = 8 ∨ i = 9 ∨ i = 10 ∨ i = 11 ∨ i = 12 ∨ i = 13 ∨ i = 14 ∨ i = 15 ∨ i = 16 := by omega
        clear hi hi17
        have hng := ngot hn
        rcases hcs with rfl | rfl | rfl | rfl | rfl | rfl | rfl | rfl | rfl | rfl | rfl | rfl | rfl | rfl | rfl | rfl | rfl
        all_goals (simp at ho; subst ho)
        · have hBx := S4.out.ba.below h.be S4.out.ba.lt
          obtain ⟨z0, z1, z2, z3⟩ := blkE_cells hBx
          have HOE : ∀ j, (0, j) ∈ lsE → got listed j := by
            intro j hj
            simp [lsE] at hj
          refine wpOp_of_list rfl ?_
          simp only [lsAct]
          go_wp2_with fail
          change (listed.setIfInBounds 0 true).size = 17 ∧ _
          refine ⟨by simp [hsz], upd f 0 (.agg #[.int .i64 k, .int .i64 m, .string s, .slice A l cc]), ?_, h.step HOE rfl h.be (fun n11 _ => grAt_other (h.gs n11) (by decide)) (fun n11 _ => grAt_other (h.gi n11) (by decide)) hsz (by omega)⟩
          simp only [lsAct, upd, hg3, hg4, hg5]
          try rfl
        · have na : ¬ got listed 3 := fun g => hng (h.od (3, 1) (by decide) g)
          have nb : ¬ got listed 5 := fun g => na (h.od (5, 3) (by decide) g)
          have hbs := h.be.size
          have HOE : ∀ j, (1, j) ∈ lsE → got listed j := by
            intro j hj
            simp [lsE] at hj
          refine wpOp_of_list rfl ?_
          simp only [lsAct]
          go_wp2_with fail
          change (listed.setIfInBounds 1 true).size = 17 ∧ _
          refine ⟨by simp [hsz], upd f 1 (.slice (some ⟨W.heap.size, 0, none⟩) 0 0), ?_, h.step HOE trivial (h.be.alloc hbs _) (fun n11 _ => grAt_m (h.gs n11) (by omega) (by decide) hng na nb hbs) (fun n11 _ => grAt_other (grAt_alloc (h.gi n11) _) (by decide)) hsz (by omega)⟩
          simp only [lsAct, upd, hg3, hg4, hg5]
          try rfl
        · have HOE : ∀ j, (2, j) ∈ lsE → got listed j := by
            intro j hj
            simp [lsE] at hj
          refine wpOp_of_list rfl ?_
          simp only [lsAct]
          go_wp2_with fail
          change (listed.setIfInBounds 2 true).size = 17 ∧ _
          refine ⟨by simp [hsz], upd f 2 (.slice (some ⟨gn, 0, none⟩) nn nn), ?_, h.step HOE rfl h.be (fun n11 _ => grAt_other (h.gs n11) (by decide)) (fun n11 _ => grAt_other (h.gi n11) (by decide)) hsz (by omega)⟩
          simp only [lsAct, upd, hg3, hg4, hg5]
          try rfl
        · have g1 : got listed 1 := haft ⟨1, .data⟩ (by simp) rfl
          have g2 : got listed 2 := haft ⟨2, .data⟩ (by simp) rfl
          have nb : ¬ got listed 5 := fun g => hng (h.od (5, 3) (by decide) g)
          have n11 : ¬ got listed 11 := fun g => nb (h.od (11, 5) (by decide) g)
          have hown := Gr.own1 (h.gs n11) g1 (ngot_false hng)
          have e2 : f 2 = (.slice (some ⟨gn, 0, none⟩) nn nn) := h.cv 2 g2
          have hrow := S4.out.rn.below h.be
          have hbs := h.be.size
          have HOE : ∀ j, (3, j) ∈ lsE → got listed j := by
            intro j hj
            simp [lsE] at hj
            subst hj; exact g1
          refine wpOp_of_list rfl ?_
          simp only [lsAct, e2]
          refine wpList_append_own_at _ rfl (.tmp 66) (.tmp 67) 26 rfl w4.heap.size 9 is0 (.string ByteArray.empty) 1 16 Tryd.underlying26 his hs0 hs1 hs2 rfl (by decide) (f 1) 0 [] rfl hown ⟨gn, 0, none⟩ nn nn (strB ns) rfl ?c0 (row_add3 hrow) strB_one ?c3 ?c4 ?c5 ?_
          case c0 => rw [hlS]; omega
          case c3 => unfold maxLen; omega
          case c4 => omega
          case c5 => exact hbs
          intro v' W' hown' hgrow _ hat
          go_wp2_with fail
          change (listed.setIfInBounds 3 true).size = 17 ∧ _
          refine ⟨by simp [hsz], upd f 3 v', ?_, h.step HOE trivial (h.be.grown hgrow hbs (fun q hq => (hown.lt q hq).1)) (fun n11 _ => grAt_a (h.gs n11) (by omega) (by decide) g1 hng nb (by rw [hlS]; simpa using hown') hgrow hat) (fun n11 _ => grAt_other (grAt_keep (h.gi n11) hown (by decide) hgrow) (by decide)) hsz (by omega)⟩
          simp only [lsAct, upd, hg3, hg4, hg5, e2]
          try rfl
        · have nb : ¬ got listed 5 := fun g => hng (h.od (5, 4) (by decide) g)
          have hbs := h.be.size
          have HOE : ∀ j, (4, j) ∈ lsE → got listed j := by
            intro j hj
            simp [lsE] at hj
          refine wpOp_of_list rfl ?_
          simp only [lsAct]
          go_wp2_with fail
          change (listed.setIfInBounds 4 true).size = 17 ∧ _
          refine ⟨by simp [hsz], upd f 4 (.slice (some ⟨W.heap.size, 0, none⟩) 1 1), ?_, h.step HOE trivial (h.be.alloc hbs _) (fun n11 _ => grAt_l (h.gs n11) (by omega) (by decide) hng nb) (fun n11 _ => grAt_other (grAt_alloc (h.gi n11) _) (by decide)) hsz (by omega)⟩
          simp only [lsAct, upd, hg3, hg4, hg5]
          try rfl
        · have g3 : got listed 3 := haft ⟨3, .data⟩ (by simp) rfl
          have g4 : got listed 4 := haft ⟨4, .data⟩ (by simp) rfl
          have g1 : got listed 1 := h.od (3, 1) (by decide) g3
          have n11 : ¬ got listed 11 := fun g => hng (h.od (11, 5) (by decide) g)
          have hown := Gr.own2 (h.gs n11) g3 (ngot_false hng)
          obtain ⟨b4, e4, hB4, _, _⟩ := Gr.lit (h.gs n11) g4 (ngot_false hng)
          have hbs := h.be.size
          have HOE : ∀ j, (5, j) ∈ lsE → got listed j := by
            intro j hj
            simp [lsE] at hj
            rcases hj with rfl | rfl
            · exact g3
            · exact g4
          refine wpOp_of_list rfl ?_
          simp only [lsAct, e4]
          refine wpList_append_own_at _ rfl (.tmp 68) (.tmp 69) 26 rfl w4.heap.size 9 is0 (.string ByteArray.empty) 1 16 Tryd.underlying26 his hs0 hs1 hs2 rfl (by decide) (f 3) (strB ns).length (strB ns) rfl hown ⟨b4, 0, none⟩ 1 1 [.string unusedB] rfl rfl (row_add3 hB4.row) ?c2 ?c3 ?c4 ?c5 ?_
          case c2 => intro u hu; simp at hu; subst hu; rfl
          case c3 => rw [hlS]; unfold maxLen; omega
          case c4 => rw [hlS]; omega
          case c5 => exact hbs
          intro v' W' hown' hgrow _ hat
          go_wp2_with fail
          change (listed.setIfInBounds 5 true).size = 17 ∧ _
          refine ⟨by simp [hsz], upd f 5 v', ?_, h.step HOE trivial (h.be.grown hgrow hbs (fun q hq => (hown.lt q hq).1)) (fun n11 _ => grAt_b (h.gs n11) (by omega) (by decide) g1 g3 g4 hng hown') (fun n11 _ => grAt_other (grAt_keep (h.gi n11) hown (by decide) hgrow) (by decide)) hsz (by omega)⟩
          simp only [lsAct, upd, hg3, hg4, hg5, e4]
          try rfl
        · have na : ¬ got listed 8 := fun g => hng (h.od (8, 6) (by decide) g)
          have nb : ¬ got listed 10 := fun g => na (h.od (10, 8) (by decide) g)
          have hbs := h.be.size
          have HOE : ∀ j, (6, j) ∈ lsE → got listed j := by
            intro j hj
            simp [lsE] at hj
          refine wpOp_of_list rfl ?_
          simp only [lsAct]
          go_wp2_with fail
          change (listed.setIfInBounds 6 true).size = 17 ∧ _
          refine ⟨by simp [hsz], upd f 6 (.slice (some ⟨W.heap.size, 0, none⟩) 0 0), ?_, h.step HOE trivial (h.be.alloc hbs _) (fun n11 _ => grAt_other (grAt_alloc (h.gs n11) _) (by decide)) (fun n11 _ => grAt_m (h.gi n11) (by omega) (by decide) hng na nb hbs) hsz (by omega)⟩
          simp only [lsAct, upd, hg3, hg4, hg5]
          try rfl
        · have HOE : ∀ j, (7, j) ∈ lsE → got listed j := by
            intro j hj
            simp [lsE] at hj
          refine wpOp_of_list rfl ?_
          simp only [lsAct]
          go_wp2_with fail
          change (listed.setIfInBounds 7 true).size = 17 ∧ _
          refine ⟨by simp [hsz], upd f 7 (.slice (some ⟨gt, 0, none⟩) nn nn), ?_, h.step HOE rfl h.be (fun n11 _ => grAt_other (h.gs n11) (by decide)) (fun n11 _ => grAt_other (h.gi n11) (by decide)) hsz (by omega)⟩
          simp only [lsAct, upd, hg3, hg4, hg5]
          try rfl
        · have g6 : got listed 6 := haft ⟨6, .data⟩ (by simp) rfl
          have g7 : got listed 7 := haft ⟨7, .data⟩ (by simp) rfl
          have nb : ¬ got listed 10 := fun g => hng (h.od (10, 8) (by decide) g)
          have n11 : ¬ got listed 11 := fun g => nb (h.od (11, 10) (by decide) g)
          have hown := Gr.own1 (h.gi n11) g6 (ngot_false hng)
          have e7 : f 7 = (.slice (some ⟨gt, 0, none⟩) nn nn) := h.cv 7 g7
          have hrow := S4.out.rt.below h.be
          have hbs := h.be.size
          have HOE : ∀ j, (8, j) ∈ lsE → got listed j := by
            intro j hj
            simp [lsE] at hj
            subst hj; exact g6
          refine wpOp_of_list rfl ?_
          simp only [lsAct, e7]
          refine wpList_append_own_at _ rfl (.tmp 71) (.tmp 72) 27 rfl w4.heap.size 3 ii0 (.int .i64 0) 1 8 Tryd.underlying27 hii hi0 hi1 hi2 rfl (by decide) (f 6) 0 [] rfl hown ⟨gt, 0, none⟩ nn nn (ints xs) rfl ?c0 (row_add3 hrow) intB_one ?c3 ?c4 ?c5 ?_
          case c0 => rw [hlI]; omega
          case c3 => unfold maxLen; omega
          case c4 => omega
          case c5 => exact hbs
          intro v' W' hown' hgrow _ hat
          go_wp2_with fail
          change (listed.setIfInBounds 8 true).size = 17 ∧ _
          refine ⟨by simp [hsz], upd f 8 v', ?_, h.step HOE trivial (h.be.grown hgrow hbs (fun q hq => (hown.lt q hq).1)) (fun n11 _ => grAt_other (grAt_keep (h.gs n11) hown (by decide) hgrow) (by decide)) (fun n11 _ => grAt_a (h.gi n11) (by omega) (by decide) g6 hng nb (by rw [hlI]; simpa using hown') hgrow hat) hsz (by omega)⟩
          simp only [lsAct, upd, hg3, hg4, hg5, e7]
          try rfl
        · have nb : ¬ got listed 10 := fun g => hng (h.od (10, 9) (by decide) g)
          have hbs := h.be.size
          have HOE : ∀ j, (9, j) ∈ lsE → got listed j := by
            intro j hj
            simp [lsE] at hj
          refine wpOp_of_list rfl ?_
          simp only [lsAct]
          go_wp2_with fail
          change (listed.setIfInBounds 9 true).size = 17 ∧ _
          refine ⟨by simp [hsz], upd f 9 (.slice (some ⟨W.heap.size, 0, none⟩) 1 1), ?_, h.step HOE trivial (h.be.alloc hbs _) (fun n11 _ => grAt_other (grAt_alloc (h.gs n11) _) (by decide)) (fun n11 _ => grAt_l (h.gi n11) (by omega) (by decide) hng nb) hsz (by omega)⟩
          simp only [lsAct, upd, hg3, hg4, hg5]
          try rfl
        · have g8 : got listed 8 := haft ⟨8, .data⟩ (by simp) rfl
          have g9 : got listed 9 := haft ⟨9, .data⟩ (by simp) rfl
          have g6 : got listed 6 := h.od (8, 6) (by decide) g8
          have n11 : ¬ got listed 11 := fun g => hng (h.od (11, 10) (by decide) g)
          have hown := Gr.own2 (h.gi n11) g8 (ngot_false hng)
          obtain ⟨b4, e9, hB4, _, _⟩ := Gr.lit (h.gi n11) g9 (ngot_false hng)
          have hbs := h.be.size
          have HOE : ∀ j, (10, j) ∈ lsE → got listed j := by
            intro j hj
            simp [lsE] at hj
            rcases hj with rfl | rfl
            · exact g8
            · exact g9
          refine wpOp_of_list rfl ?_
          simp only [lsAct, e9]
          refine wpList_append_own_at _ rfl (.tmp 73) (.tmp 74) 27 rfl w4.heap.size 3 ii0 (.int .i64 0) 1 8 Tryd.underlying27 hii hi0 hi1 hi2 rfl (by decide) (f 8) (ints xs).length (ints xs) rfl hown ⟨b4, 0, none⟩ 1 1 [.int .i64 77] rfl rfl (row_add3 hB4.row) ?c2 ?c3 ?c4 ?c5 ?_
          case c2 => intro u hu; simp at hu; subst hu; rfl
          case c3 => rw [hlI]; unfold maxLen; omega
          case c4 => rw [hlI]; omega
          case c5 => exact hbs
          intro v' W' hown' hgrow _ hat
          go_wp2_with fail
          change (listed.setIfInBounds 10 true).size = 17 ∧ _
          refine ⟨by simp [hsz], upd f 10 v', ?_, h.step HOE trivial (h.be.grown hgrow hbs (fun q hq => (hown.lt q hq).1)) (fun n11 _ => grAt_other (grAt_keep (h.gs n11) hown (by decide) hgrow) (by decide)) (fun n11 _ => grAt_b (h.gi n11) (by omega) (by decide) g6 g8 g9 hng hown') hsz (by omega)⟩
          simp only [lsAct, upd, hg3, hg4, hg5, e9]
          try rfl
        · have g0 : got listed 0 := haft ⟨0, .data⟩ (by simp) rfl
          have g5 : got listed 5 := haft ⟨5, .data⟩ (by simp) rfl
          have g10 : got listed 10 := haft ⟨10, .data⟩ (by simp) rfl
          have own5 := Gr.own3 (h.gs hng) g5
          have own10 := Gr.own3 (h.gi hng) g10
          rw [hlS] at own5
          rw [hlI] at own10
          obtain ⟨A5, c5, e5, _, r5⟩ := own_row own5
          obtain ⟨A10, c10, e10, _, r10⟩ := own_row own10
          have e0 : f 0 = (.agg #[.int .i64 k, .int .i64 m, .string s, .slice A l cc]) := h.cv 0 g0
          have r5' : Row W W.heap.size A5 (strB (ns ++ [unusedB])) := by simpa [strB] using r5
          have r10' : Row W W.heap.size A10 (ints (xs ++ [77])) := by simpa [ints] using r10
          have HOE : ∀ j, (11, j) ∈ lsE → got listed j := by
            intro j hj
            simp [lsE] at hj
            rcases hj with rfl | rfl | rfl
            · exact g5
            · exact g10
            · exact g0
          refine wpOp_of_list rfl ?_
          simp only [lsAct, e0, e5, e10]
          go_wp2_with fail
          refine (implExprOf k m s A l cc t A5 (nn + 1) c5 (ns ++ [unusedB]) A10 (nn + 1) c10 (xs ++ [77]) W (S4.out.ka.below h.be) HW.out r5' r10' (by unfold Hid; rw [List.length_append, LN.out]; rfl) (by unfold Hid; rw [List.length_append, LT.out]; rfl) (by omega) (by omega) (HT.out.keep (HB4.out.trans (h.be.mono HB4.out.size)))).mono ?_
          rintro e W' ⟨he, hb⟩
          rw [ofE_snoc HCL.out (by rw [LN.out, LT.out]) unusedB rfl 77, HR.out, HRn.out, HRb.out] at he
          subst he
          go_wp2_with fail
          change (listed.setIfInBounds 11 true).size = 17 ∧ _
          refine ⟨by simp [hsz], upd f 11 (.tuple #[.int .i64 Rn, .bool Rb]), ?_, h.step HOE rfl (h.be.trans (hb.mono h.be.size)) (fun _ e => absurd rfl e) (fun _ e => absurd rfl e) hsz (by omega)⟩
          simp only [lsAct, upd, hg3, hg4, hg5, e0, e5, e10]
          try rfl
        · have g11 : got listed 11 := haft ⟨11, .data⟩ (by simp) rfl
          have e11 : f 11 = (.tuple #[.int .i64 Rn, .bool Rb]) := h.cv 11 g11
          have HOE : ∀ j, (12, j) ∈ lsE → got listed j := by
            intro j hj
            simp [lsE] at hj
            subst hj; exact g11
          refine wpOp_of_list rfl ?_
          simp only [lsAct, e11]
          go_wp2_with fail
          change (listed.setIfInBounds 12 true).size = 17 ∧ _
          refine ⟨by simp [hsz], upd f 12 (.tuple #[.int .i64 Rn, .bool Rb]), ?_, h.step HOE rfl h.be (fun n11 _ => grAt_other (h.gs n11) (by decide)) (fun n11 _ => grAt_other (h.gi n11) (by decide)) hsz (by omega)⟩
          simp only [lsAct, upd, hg3, hg4, hg5, e11]
          try rfl
        · have g12 : got listed 12 := haft ⟨12, .data⟩ (by simp) rfl
          have e12 : f 12 = (.tuple #[.int .i64 Rn, .bool Rb]) := h.cv 12 g12
          have HOE : ∀ j, (13, j) ∈ lsE → got listed j := by
            intro j hj
            simp [lsE] at hj
            subst hj; exact g12
          refine wpOp_of_list rfl ?_
          simp only [lsAct, e12]
          go_wp2_with fail
          change (listed.setIfInBounds 13 true).size = 17 ∧ _
          refine ⟨by simp [hsz], upd f 13 (.int .i64 Rn), ?_, h.step HOE rfl h.be (fun n11 _ => grAt_other (h.gs n11) (by decide)) (fun n11 _ => grAt_other (h.gi n11) (by decide)) hsz (by omega)⟩
          simp only [lsAct, upd, hg3, hg4, hg5, e12]
          try rfl
        · have g12 : got listed 12 := haft ⟨12, .data⟩ (by simp) rfl
          have e12 : f 12 = (.tuple #[.int .i64 Rn, .bool Rb]) := h.cv 12 g12
          have HOE : ∀ j, (14, j) ∈ lsE → got listed j := by
            intro j hj
            simp [lsE] at hj
            subst hj; exact g12
          refine wpOp_of_list rfl ?_
          simp only [lsAct, e12]
          go_wp2_with fail
          change (listed.setIfInBounds 14 true).size = 17 ∧ _
          refine ⟨by simp [hsz], upd f 14 (.bool Rb), ?_, h.step HOE rfl h.be (fun n11 _ => grAt_other (h.gs n11) (by decide)) (fun n11 _ => grAt_other (h.gi n11) (by decide)) hsz (by omega)⟩
          simp only [lsAct, upd, hg3, hg4, hg5, e12]
          try rfl
        · have g13 : got listed 13 := haft ⟨13, .data⟩ (by simp) rfl
          have e13 : f 13 = .int .i64 Rn := h.cv 13 g13
          have HOE : ∀ j, (15, j) ∈ lsE → got listed j := by
            intro j hj
            simp [lsE] at hj
            subst hj; exact g13
          refine wpOp_of_list rfl ?_
          simp only [lsAct, e13]
          go_wp2_with fail
          change (listed.setIfInBounds 15 true).size = 17 ∧ _
          refine ⟨by simp [hsz], upd f 15 (.int .i64 Rn), ?_, h.step HOE rfl h.be (fun n11 _ => grAt_other (h.gs n11) (by decide)) (fun n11 _ => grAt_other (h.gi n11) (by decide)) hsz (by omega)⟩
          simp only [lsAct, upd, hg3, hg4, hg5, e13]
          try rfl
        · have g14 : got listed 14 := haft ⟨14, .data⟩ (by simp) rfl
          have e14 : f 14 = .bool Rb := h.cv 14 g14
          have HOE : ∀ j, (16, j) ∈ lsE → got listed j := by
            intro j hj
            simp [lsE] at hj
            subst hj; exact g14
          refine wpOp_of_list rfl ?_
          simp only [lsAct, e14]
          go_wp2_with fail
          change (listed.setIfInBounds 16 true).size = 17 ∧ _
          refine ⟨by simp [hsz], upd f 16 (.bool Rb), ?_, h.step HOE rfl h.be (fun n11 _ => grAt_other (h.gs n11) (by decide)) (fun n11 _ => grAt_other (h.gi n11) (by decide)) hsz (by omega)⟩
          simp only [lsAct, upd, hg3, hg4, hg5, e14]
          try rfl
      case hd =>
        rintro listed a W ⟨hsz, f, rfl, h⟩ hr
        have g0 : got listed 0 := by
          rcases Bool.eq_false_or_eq_true (listed.getD 0 true) with e | e
          · unfold got; rw [Array.getD_eq_getD_getElem?] at e ⊢; rw [Array.getElem?_eq_getElem (by omega)] at e ⊢; exact e
          · have : 0 ∈ ([] : List Nat) := by
              rw [← hr]
              refine mem_ready.2 ⟨e, _, rfl, ?_⟩
              intro ed hed hbn
              simp at hed
            cases this
        have g1 : got listed 1 := by
          rcases Bool.eq_false_or_eq_true (listed.getD 1 true) with e | e
          · unfold got; rw [Array.getD_eq_getD_getElem?] at e ⊢; rw [Array.getElem?_eq_getElem (by omega)] at e ⊢; exact e
          · have : 1 ∈ ([] : List Nat) := by
              rw [← hr]
              refine mem_ready.2 ⟨e, _, rfl, ?_⟩
              intro ed hed hbn
              simp at hed
            cases this
        have g2 : got listed 2 := by
          rcases Bool.eq_false_or_eq_true (listed.getD 2 true) with e | e
          · unfold got; rw [Array.getD_eq_getD_getElem?] at e ⊢; rw [Array.getElem?_eq_getElem (by omega)] at e ⊢; exact e
          · have : 2 ∈ ([] : List Nat) := by
              rw [← hr]
              refine mem_ready.2 ⟨e, _, rfl, ?_⟩
              intro ed hed hbn
              simp at hed
            cases this
        have g3 : got listed 3 := by
          rcases Bool.eq_false_or_eq_true (listed.getD 3 true) with e | e
          · unfold got; rw [Array.getD_eq_getD_getElem?] at e ⊢; rw [Array.getElem?_eq_getElem (by omega)] at e ⊢; exact e
          · have : 3 ∈ ([] : List Nat) := by
              rw [← hr]
              refine mem_ready.2 ⟨e, _, rfl, ?_⟩
              intro ed hed hbn
              simp at hed
              rcases hed with rfl | rfl
              all_goals first | exact g0 | exact g1 | exact g2 | exact absurd hbn (by decide)
            cases this
        have g4 : got listed 4 := by
          rcases Bool.eq_false_or_eq_true (listed.getD 4 true) with e | e
          · unfold got; rw [Array.getD_eq_getD_getElem?] at e ⊢; rw [Array.getElem?_eq_getElem (by omega)] at e ⊢; exact e
          · have : 4 ∈ ([] : List Nat) := by
              rw [← hr]
              refine mem_ready.2 ⟨e, _, rfl, ?_⟩
              intro ed hed hbn
              simp at hed
            cases this
        have g5 : got listed 5 := by
          rcases Bool.eq_false_or_eq_true (listed.getD 5 true) with e | e
          · unfold got; rw [Array.getD_eq_getD_getElem?] at e ⊢; rw [Array.getElem?_eq_getElem (by omega)] at e ⊢; exact e
          · have : 5 ∈ ([] : List Nat) := by
              rw [← hr]
              refine mem_ready.2 ⟨e, _, rfl, ?_⟩
              intro ed hed hbn
              simp at hed
              rcases hed with rfl | rfl | rfl
              all_goals first | exact g0 | exact g1 | exact g2 | exact g3 | exact g4 | exact absurd hbn (by decide)
            cases this
        have g6 : got listed 6 := by
          rcases Bool.eq_false_or_eq_true (listed.getD 6 true) with e | e
          · unfold got; rw [Array.getD_eq_getD_getElem?] at e ⊢; rw [Array.getElem?_eq_getElem (by omega)] at e ⊢; exact e
          · have : 6 ∈ ([] : List Nat) := by
              rw [← hr]
              refine mem_ready.2 ⟨e, _, rfl, ?_⟩
              intro ed hed hbn
              simp at hed
            cases this
        have g7 : got listed 7 := by
          rcases Bool.eq_false_or_eq_true (listed.getD 7 true) with e | e
          · unfold got; rw [Array.getD_eq_getD_getElem?] at e ⊢; rw [Array.getElem?_eq_getElem (by omega)] at e ⊢; exact e
          · have : 7 ∈ ([] : List Nat) := by
              rw [← hr]
              refine mem_ready.2 ⟨e, _, rfl, ?_⟩
              intro ed hed hbn
              simp at hed
            cases this
        have g8 : got listed 8 := by
          rcases Bool.eq_false_or_eq_true (listed.getD 8 true) with e | e
          · unfold got; rw [Array.getD_eq_getD_getElem?] at e ⊢; rw [Array.getElem?_eq_getElem (by omega)] at e ⊢; exact e
          · have : 8 ∈ ([] : List Nat) := by
              rw [← hr]
              refine mem_ready.2 ⟨e, _, rfl, ?_⟩
              intro ed hed hbn
              simp at hed
              rcases hed with rfl | rfl | rfl
              all_goals first | exact g0 | exact g1 | exact g2 | exact g3 | exact g4 | exact g5 | exact g6 | exact g7 | exact absurd hbn (by decide)
            cases this
        have g9 : got listed 9 := by
          rcases Bool.eq_false_or_eq_true (listed.getD 9 true) with e | e
          · unfold got; rw [Array.getD_eq_getD_getElem?] at e ⊢; rw [Array.getElem?_eq_getElem (by omega)] at e ⊢; exact e
          · have : 9 ∈ ([] : List Nat) := by
              rw [← hr]
              refine mem_ready.2 ⟨e, _, rfl, ?_⟩
              intro ed hed hbn
              simp at hed
            cases this
        have g10 : got listed 10 := by
          rcases Bool.eq_false_or_eq_true (listed.getD 10 true) with e | e
          · unfold got; rw [Array.getD_eq_getD_getElem?] at e ⊢; rw [Array.getElem?_eq_getElem (by omega)] at e ⊢; exact e
          · have : 10 ∈ ([] : List Nat) := by
              rw [← hr]
              refine mem_ready.2 ⟨e, _, rfl, ?_⟩
              intro ed hed hbn
              simp at hed
              rcases hed with rfl | rfl | rfl
              all_goals first | exact g0 | exact g1 | exact g2 | exact g3 | exact g4 | exact g5 | exact g6 | exact g7 | exact g8 | exact g9 | exact absurd hbn (by decide)
            cases this
        have g11 : got listed 11 := by
          rcases Bool.eq_false_or_eq_true (listed.getD 11 true) with e | e
          · unfold got; rw [Array.getD_eq_getD_getElem?] at e ⊢; rw [Array.getElem?_eq_getElem (by omega)] at e ⊢; exact e
          · have : 11 ∈ ([] : List Nat) := by
              rw [← hr]
              refine mem_ready.2 ⟨e, _, rfl, ?_⟩
              intro ed hed hbn
              simp at hed
              rcases hed with rfl | rfl | rfl | rfl
              all_goals first | exact g0 | exact g1 | exact g2 | exact g3 | exact g4 | exact g5 | exact g6 | exact g7 | exact g8 | exact g9 | exact g10 | exact absurd hbn (by decide)
            cases this
        have g12 : got listed 12 := by
          rcases Bool.eq_false_or_eq_true (listed.getD 12 true) with e | e
          · unfold got; rw [Array.getD_eq_getD_getElem?] at e ⊢; rw [Array.getElem?_eq_getElem (by omega)] at e ⊢; exact e
          · have : 12 ∈ ([] : List Nat) := by
              rw [← hr]
              refine mem_ready.2 ⟨e, _, rfl, ?_⟩
              intro ed hed hbn
              simp at hed
              subst hed
              first | exact g0 | exact g1 | exact g2 | exact g3 | exact g4 | exact g5 | exact g6 | exact g7 | exact g8 | exact g9 | exact g10 | exact g11
            cases this
        have g13 : got listed 13 := by
          rcases Bool.eq_false_or_eq_true (listed.getD 13 true) with e | e
          · unfold got; rw [Array.getD_eq_getD_getElem?] at e ⊢; rw [Array.getElem?_eq_getElem (by omega)] at e ⊢; exact e
          · have : 13 ∈ ([] : List Nat) := by
              rw [← hr]
              refine mem_ready.2 ⟨e, _, rfl, ?_⟩
              intro ed hed hbn
              simp at hed
              subst hed
              first | exact g0 | exact g1 | exact g2 | exact g3 | exact g4 | exact g5 | exact g6 | exact g7 | exact g8 | exact g9 | exact g10 | exact g11 | exact g12
            cases this
        have g14 : got listed 14 := by
          rcases Bool.eq_false_or_eq_true (listed.getD 14 true) with e | e
          · unfold got; rw [Array.getD_eq_getD_getElem?] at e ⊢; rw [Array.getElem?_eq_getElem (by omega)] at e ⊢; exact e
          · have : 14 ∈ ([] : List Nat) := by
              rw [← hr]
              refine mem_ready.2 ⟨e, _, rfl, ?_⟩
              intro ed hed hbn
              simp at hed
              rcases hed with rfl | rfl
              all_goals first | exact g0 | exact g1 | exact g2 | exact g3 | exact g4 | exact g5 | exact g6 | exact g7 | exact g8 | exact g9 | exact g10 | exact g11 | exact g12 | exact g13 | exact absurd hbn (by decide)
            cases this
        have g15 : got listed 15 := by
          rcases Bool.eq_false_or_eq_true (listed.getD 15 true) with e | e
          · unfold got; rw [Array.getD_eq_getD_getElem?] at e ⊢; rw [Array.getElem?_eq_getElem (by omega)] at e ⊢; exact e
          · have : 15 ∈ ([] : List Nat) := by
              rw [← hr]
              refine mem_ready.2 ⟨e, _, rfl, ?_⟩
              intro ed hed hbn
              simp at hed
              rcases hed with rfl | rfl | rfl | rfl | rfl | rfl | rfl | rfl | rfl | rfl | rfl | rfl | rfl | rfl | rfl | rfl | rfl
              all_goals first | exact g0 | exact g1 | exact g2 | exact g3 | exact g4 | exact g5 | exact g6 | exact g7 | exact g8 | exact g9 | exact g10 | exact g11 | exact g12 | exact g13 | exact g14 | exact absurd hbn (by decide)
            cases this
        have g16 : got listed 16 := by
          rcases Bool.eq_false_or_eq_true (listed.getD 16 true) with e | e
          · unfold got; rw [Array.getD_eq_getD_getElem?] at e ⊢; rw [Array.getElem?_eq_getElem (by omega)] at e ⊢; exact e
          · have : 16 ∈ ([] : List Nat) := by
              rw [← hr]
              refine mem_ready.2 ⟨e, _, rfl, ?_⟩
              intro ed hed hbn
              simp at hed
              rcases hed with rfl | rfl | rfl | rfl | rfl | rfl | rfl | rfl | rfl | rfl | rfl | rfl | rfl | rfl | rfl | rfl | rfl | rfl
              all_goals first | exact g0 | exact g1 | exact g2 | exact g3 | exact g4 | exact g5 | exact g6 | exact g7 | exact g8 | exact g9 | exact g10 | exact g11 | exact g12 | exact g13 | exact g14 | exact g15 | exact absurd hbn (by decide)
            cases this
        have e15 : f 15 = .int .i64 Rn := h.cv 15 g15
        have e16 : f 16 = .bool Rb := h.cv 16 g16
        have HBE := Lib.hid h.be
        clear hr h hg3 hg4 hg5
        subst hg
        simp only [lsAct, e15, e16]
        go_wp2_with fail
        go_meet
        exact ⟨rfl, rfl, HBE.out⟩
    case rest =>
      obtain ⟨h10, h11, hbc⟩ := hcut
      subst h10 h11
      have S9 := Lib.hid (S4.out.next hbc)
      have HB9 : Hid (Below w.heap.size w wc) := HB4.out.trans (hbc.mono HB4.out.size)
      clear hbc S4 HB4 hg hg3 hg4 hg5
      go_upto_region 9 with (fail)
      obtain ⟨Q, hQ⟩ : ∃ Q, ofE (lstL ([⟨#[120]⟩, ⟨#[121]⟩, ⟨#[122]⟩] ++ ns)) ([1, 2, 3] ++ xs) t = Q := ⟨_, rfl⟩
      obtain ⟨Qn, hQn⟩ : ∃ Qn, Q.getD 0 = Qn := ⟨_, rfl⟩
      obtain ⟨Qb, hQb⟩ : ∃ Qb, Q.isSome = Qb := ⟨_, rfl⟩
      have HQ := Lib.hid hQ
      have HQn := Lib.hid hQn
      have HQb := Lib.hid hQb
      clear hQ hQn hQb
      go_cut [12, 13] from 79 to 89 (fun s12 s13 wd => s12 = .int .i64 Qn ∧ s13 = .bool Qb ∧ Below wc.heap.size wc wd)
      case first =>
        refine region_arr ?_
        intro arr harr
        obtain ⟨g, hg⟩ : ∃ g : Nat → Value, g = fun j => arr.getD j undef := ⟨_, rfl⟩
        have hg3 : g 3 = .pointer (some ⟨w1.heap.size, 0, none⟩) := by rw [hg, harr]; rfl
        have hg4 : g 4 = (.slice (some ⟨gn, 0, none⟩) nn nn) := by rw [hg, harr]; rfl
        have hg5 : g 5 = (.slice (some ⟨gt, 0, none⟩) nn nn) := by rw [hg, harr]; rfl
        refine wp_region_inv rfl (fun listed a W => q9K g wc 3 (.agg #[.int .i64 k, .int .i64 m, .string s, .slice A l cc]) (.slice (some ⟨gn, 0, none⟩) nn nn) (.slice (some ⟨gt, 0, none⟩) nn nn) (.tuple #[.int .i64 Qn, .bool Qb]) (q9k (.tuple #[.int .i64 Qn, .bool Qb]) (.int .i64 Qn) (.bool Qb)) (strB [⟨#[120]⟩, ⟨#[121]⟩, ⟨#[122]⟩]) (strB ns) (ints [1, 2, 3]) (ints xs) listed a W) ?h0 ?hs ?hd
        case h0 =>
          have hf : ∀ j, (Array.replicate 13 false).getD j false = false := fun j => by
            rw [Array.getD_eq_getD_getElem?, Array.getElem?_replicate]; split <;> rfl
          have hng : ∀ j, ¬ got (Array.replicate 13 false) j := fun j e => absurd ((hf j).symm.trans e) (by decide)
          refine ⟨by simp, fun j => g (q9S j), by rw [hg, harr]; rfl, (Below.refl _ _).drew, fun _ => ?_, fun j e => absurd e (hng j), fun p _ e => absurd e (hng _)⟩
          show GqAt _ _ _ _ _ _ _ _ _ _ _ _ _ (Array.replicate 13 false) _ _
          unfold GqAt; rw [hf, hf, hf, hf]
          exact ⟨(fun x => by cases x), (fun x => by cases x), (fun x => by cases x), (fun x => by cases x), (fun x => by cases x)⟩
        case hs =>
          clear hg harr
          rintro listed a W i ⟨hsz, f, rfl, h⟩ hi
          obtain ⟨hn, o, ho, haft⟩ := mem_ready.1 hi
          have hi17 : i < 13 := by have := (Array.getElem?_eq_some_iff.1 ho).1; simpa using this
          have hcs : i = 0 ∨ i = 1 ∨ i = 2 ∨ i = 3 ∨ i = 4 ∨ i = 5 ∨ i = 6 ∨ i = 7 ∨ i = 8 ∨ i = 9 ∨ i = 10 ∨ i = 11 ∨ i = 12 := by omega
          clear hi hi17
          have hng := ngot hn
          rcases hcs with rfl | rfl | rfl | rfl | rfl | rfl | rfl | rfl | rfl | rfl | rfl | rfl | rfl
          all_goals (simp at ho; subst ho)
          · have hBx := S9.out.ba.below h.be S9.out.ba.lt
            obtain ⟨z0, z1, z2, z3⟩ := blkE_cells hBx
            have HOE : ∀ j, (0, j) ∈ q9E → got listed j := by
              intro j hj
              simp [q9E] at hj
            refine wpOp_of_list rfl ?_
            simp only [q9Act]
            go_wp2_with fail
            change (listed.setIfInBounds 0 true).size = 13 ∧ _
            refine ⟨by simp [hsz], upd f 0 (.agg #[.int .i64 k, .int .i64 m, .string s, .slice A l cc]), ?_, h.step HOE rfl h.be (fun n7 _ => gqAt_other (h.gq n7) (by decide)) (by omega)⟩
            simp only [q9Act, upd, hg3, hg4, hg5]
            try rfl
          · have na : ¬ got listed 3 := fun g => hng (h.od (3, 1) (by decide) g)
            have hbs := h.be.size
            have HOE : ∀ j, (1, j) ∈ q9E → got listed j := by
              intro j hj
              simp [q9E] at hj
            refine wpOp_of_list rfl ?_
            simp only [q9Act]
            go_wp2_with fail
            change (listed.setIfInBounds 1 true).size = 13 ∧ _
            refine ⟨by simp [hsz], upd f 1 (.slice (some ⟨W.heap.size, 0, none⟩) 3 3), ?_, h.step HOE trivial (h.be.alloc hbs _) (fun n7 _ => gqAt_b (h.gq n7) (by omega) (by decide) hng na (fun g => h.od (6, 4) (by decide) g) hbs rfl (by unfold maxLen; omega)) (by omega)⟩
            simp only [q9Act, upd, hg3, hg4, hg5]
            try rfl
          · have HOE : ∀ j, (2, j) ∈ q9E → got listed j := by
              intro j hj
              simp [q9E] at hj
            refine wpOp_of_list rfl ?_
            simp only [q9Act]
            go_wp2_with fail
            change (listed.setIfInBounds 2 true).size = 13 ∧ _
            refine ⟨by simp [hsz], upd f 2 (.slice (some ⟨gn, 0, none⟩) nn nn), ?_, h.step HOE rfl h.be (fun n7 _ => gqAt_other (h.gq n7) (by decide)) (by omega)⟩
            simp only [q9Act, upd, hg3, hg4, hg5]
            try rfl
          · have g1 : got listed 1 := haft ⟨1, .data⟩ (by simp) rfl
            have g2 : got listed 2 := haft ⟨2, .data⟩ (by simp) rfl
            have n7 : ¬ got listed 7 := fun g => hng (h.od (7, 3) (by decide) g)
            have hown := Gq.o1 (h.gq n7) g1 (ngot_false hng)
            have e2 : f 2 = (.slice (some ⟨gn, 0, none⟩) nn nn) := h.cv 2 g2
            have hrow := S9.out.rn.below h.be
            have hbs := h.be.size
            have HOE : ∀ j, (3, j) ∈ q9E → got listed j := by
              intro j hj
              simp [q9E] at hj
              subst hj; exact g1
            refine wpOp_of_list rfl ?_
            simp only [q9Act, e2]
            refine wpList_append_own_at _ rfl (.tmp 81) (.tmp 82) 26 rfl wc.heap.size 9 is0 (.string ByteArray.empty) 1 16 Tryd.underlying26 his hs0 hs1 hs2 rfl (by decide) (f 1) 3 (strB [⟨#[120]⟩, ⟨#[121]⟩, ⟨#[122]⟩]) rfl hown ⟨gn, 0, none⟩ nn nn (strB ns) rfl ?c0 (row_add3 hrow) strB_one ?c3 ?c4 ?c5 ?_
            case c0 => rw [hlS]; omega
            case c3 => unfold maxLen; omega
            case c4 => omega
            case c5 => exact hbs
            intro v' W' hown' hgrow _ hat
            go_wp2_with fail
            change (listed.setIfInBounds 3 true).size = 13 ∧ _
            refine ⟨by simp [hsz], upd f 3 v', ?_, h.step HOE trivial (h.be.grown hgrow hbs (fun q hq => (hown.lt q hq).1)) (fun n7 _ => gqAt_a (h.gq n7) (by omega) (by decide) g1 hng (fun g => h.od (6, 4) (by decide) g) (by rw [hlS]; exact hown') hgrow hat) (by omega)⟩
            simp only [q9Act, upd, hg3, hg4, hg5, e2]
            try rfl
          · have na : ¬ got listed 6 := fun g => hng (h.od (6, 4) (by decide) g)
            have hbs := h.be.size
            have HOE : ∀ j, (4, j) ∈ q9E → got listed j := by
              intro j hj
              simp [q9E] at hj
            refine wpOp_of_list rfl ?_
            simp only [q9Act]
            go_wp2_with fail
            change (listed.setIfInBounds 4 true).size = 13 ∧ _
            refine ⟨by simp [hsz], upd f 4 (.slice (some ⟨W.heap.size, 0, none⟩) 3 3), ?_, h.step HOE trivial (h.be.alloc hbs _) (fun n7 _ => (gqAt_b (h.gq n7).swap (by omega) (by decide) hng na (fun g => h.od (3, 1) (by decide) g) hbs rfl (by unfold maxLen; omega)).swap) (by omega)⟩
            simp only [q9Act, upd, hg3, hg4, hg5]
            try rfl
          · have HOE : ∀ j, (5, j) ∈ q9E → got listed j := by
              intro j hj
              simp [q9E] at hj
            refine wpOp_of_list rfl ?_
            simp only [q9Act]
            go_wp2_with fail
            change (listed.setIfInBounds 5 true).size = 13 ∧ _
            refine ⟨by simp [hsz], upd f 5 (.slice (some ⟨gt, 0, none⟩) nn nn), ?_, h.step HOE rfl h.be (fun n7 _ => gqAt_other (h.gq n7) (by decide)) (by omega)⟩
            simp only [q9Act, upd, hg3, hg4, hg5]
            try rfl
          · have g4 : got listed 4 := haft ⟨4, .data⟩ (by simp) rfl
            have g5 : got listed 5 := haft ⟨5, .data⟩ (by simp) rfl
            have g3 : got listed 3 := haft ⟨3, .chain⟩ (by simp) rfl
            have n7 : ¬ got listed 7 := fun g => hng (h.od (7, 6) (by decide) g)
            have hown := Gq.o2 (h.gq n7) g4 (ngot_false hng)
            have e5 : f 5 = (.slice (some ⟨gt, 0, none⟩) nn nn) := h.cv 5 g5
            have hrow := S9.out.rt.below h.be
            have hbs := h.be.size
            have HOE : ∀ j, (6, j) ∈ q9E → got listed j := by
              intro j hj
              simp [q9E] at hj
              rcases hj with rfl | rfl
              · exact g4
              · exact g3
            refine wpOp_of_list rfl ?_
            simp only [q9Act, e5]
            refine wpList_append_own_at _ rfl (.tmp 84) (.tmp 85) 27 rfl wc.heap.size 3 ii0 (.int .i64 0) 1 8 Tryd.underlying27 hii hi0 hi1 hi2 rfl (by decide) (f 4) 3 (ints [1, 2, 3]) rfl hown ⟨gt, 0, none⟩ nn nn (ints xs) rfl ?c0 (row_add3 hrow) intB_one ?c3 ?c4 ?c5 ?_
            case c0 => rw [hlI]; omega
            case c3 => unfold maxLen; omega
            case c4 => omega
            case c5 => exact hbs
            intro v' W' hown' hgrow _ hat
            go_wp2_with fail
            change (listed.setIfInBounds 6 true).size = 13 ∧ _
            refine ⟨by simp [hsz], upd f 6 v', ?_, h.step HOE trivial (h.be.grown hgrow hbs (fun q hq => (hown.lt q hq).1)) (fun n7 _ => (gqAt_a (h.gq n7).swap (by omega) (by decide) g4 hng (fun g => h.od (3, 1) (by decide) g) (by rw [hlI]; exact hown') hgrow hat).swap) (by omega)⟩
            simp only [q9Act, upd, hg3, hg4, hg5, e5]
            try rfl
          · have g0 : got listed 0 := haft ⟨0, .data⟩ (by simp) rfl
            have g3 : got listed 3 := haft ⟨3, .data⟩ (by simp) rfl
            have g6 : got listed 6 := haft ⟨6, .data⟩ (by simp) rfl
            have own3 := Gq.p1 (h.gq hng) g3
            have own6 := Gq.p2 (h.gq hng) g6
            rw [hlS] at own3
            rw [hlI] at own6
            obtain ⟨A5, c5, e3, _, r5⟩ := own_row own3
            obtain ⟨A10, c10, e6, _, r10⟩ := own_row own6
            have e0 : f 0 = (.agg #[.int .i64 k, .int .i64 m, .string s, .slice A l cc]) := h.cv 0 g0
            have r5' : Row W W.heap.size A5 (strB ([⟨#[120]⟩, ⟨#[121]⟩, ⟨#[122]⟩] ++ ns)) := by simpa [strB] using r5
            have r10' : Row W W.heap.size A10 (ints ([1, 2, 3] ++ xs)) := by simpa [ints] using r10
            have HOE : ∀ j, (7, j) ∈ q9E → got listed j := by
              intro j hj
              simp [q9E] at hj
              rcases hj with rfl | rfl | rfl
              · exact g3
              · exact g6
              · exact g0
            refine wpOp_of_list rfl ?_
            simp only [q9Act, e0, e3, e6]
            go_wp2_with fail
            refine (implExprOf k m s A l cc t A5 (3 + nn) c5 ([⟨#[120]⟩, ⟨#[121]⟩, ⟨#[122]⟩] ++ ns) A10 (3 + nn) c10 ([1, 2, 3] ++ xs) W (S9.out.ka.below h.be) HW.out r5' r10' (by unfold Hid; rw [List.length_append, LN.out]; rfl) (by unfold Hid; rw [List.length_append, LT.out]; rfl) (by omega) (by omega) (HT.out.keep (HB9.out.trans (h.be.mono HB9.out.size)))).mono ?_
            rintro e W' ⟨he, hb⟩
            rw [HQ.out, HQn.out, HQb.out] at he
            subst he
            go_wp2_with fail
            change (listed.setIfInBounds 7 true).size = 13 ∧ _
            refine ⟨by simp [hsz], upd f 7 (.tuple #[.int .i64 Qn, .bool Qb]), ?_, h.step HOE rfl (h.be.trans (hb.mono h.be.size)) (fun _ e => absurd rfl e) (by omega)⟩
            simp only [q9Act, upd, hg3, hg4, hg5, e0, e3, e6]
            try rfl
          · have g7 : got listed 7 := haft ⟨7, .data⟩ (by simp) rfl
            have e7 : f 7 = (.tuple #[.int .i64 Qn, .bool Qb]) := h.cv 7 g7
            have HOE : ∀ j, (8, j) ∈ q9E → got listed j := by
              intro j hj
              simp [q9E] at hj
              subst hj; exact g7
            refine wpOp_of_list rfl ?_
            simp only [q9Act, e7]
            go_wp2_with fail
            change (listed.setIfInBounds 8 true).size = 13 ∧ _
            refine ⟨by simp [hsz], upd f 8 (.tuple #[.int .i64 Qn, .bool Qb]), ?_, h.step HOE rfl h.be (fun n7 _ => gqAt_other (h.gq n7) (by decide)) (by omega)⟩
            simp only [q9Act, upd, hg3, hg4, hg5, e7]
            try rfl
          · have g8 : got listed 8 := haft ⟨8, .data⟩ (by simp) rfl
            have e8 : f 8 = (.tuple #[.int .i64 Qn, .bool Qb]) := h.cv 8 g8
            have HOE : ∀ j, (9, j) ∈ q9E → got listed j := by
              intro j hj
              simp [q9E] at hj
              subst hj; exact g8
            refine wpOp_of_list rfl ?_
            simp only [q9Act, e8]
            go_wp2_with fail
            change (listed.setIfInBounds 9 true).size = 13 ∧ _
            refine ⟨by simp [hsz], upd f 9 (.int .i64 Qn), ?_, h.step HOE rfl h.be (fun n7 _ => gqAt_other (h.gq n7) (by decide)) (by omega)⟩
            simp only [q9Act, upd, hg3, hg4, hg5, e8]
            try rfl
          · have g8 : got listed 8 := haft ⟨8, .data⟩ (by simp) rfl
            have e8 : f 8 = (.tuple #[.int .i64 Qn, .bool Qb]) := h.cv 8 g8
            have HOE : ∀ j, (10, j) ∈ q9E → got listed j := by
              intro j hj
              simp [q9E] at hj
              subst hj; exact g8
            refine wpOp_of_list rfl ?_
            simp only [q9Act, e8]
            go_wp2_with fail
            change (listed.setIfInBounds 10 true).size = 13 ∧ _
            refine ⟨by simp [hsz], upd f 10 (.bool Qb), ?_, h.step HOE rfl h.be (fun n7 _ => gqAt_other (h.gq n7) (by decide)) (by omega)⟩
            simp only [q9Act, upd, hg3, hg4, hg5, e8]
            try rfl
          · have g9 : got listed 9 := haft ⟨9, .data⟩ (by simp) rfl
            have e9 : f 9 = .int .i64 Qn := h.cv 9 g9
            have HOE : ∀ j, (11, j) ∈ q9E → got listed j := by
              intro j hj
              simp [q9E] at hj
              subst hj; exact g9
            refine wpOp_of_list rfl ?_
            simp only [q9Act, e9]
            go_wp2_with fail
            change (listed.setIfInBounds 11 true).size = 13 ∧ _
            refine ⟨by simp [hsz], upd f 11 (.int .i64 Qn), ?_, h.step HOE rfl h.be (fun n7 _ => gqAt_other (h.gq n7) (by decide)) (by omega)⟩
            simp only [q9Act, upd, hg3, hg4, hg5, e9]
            try rfl
          · have g10 : got listed 10 := haft ⟨10, .data⟩ (by simp) rfl
            have e10 : f 10 = .bool Qb := h.cv 10 g10
            have HOE : ∀ j, (12, j) ∈ q9E → got listed j := by
              intro j hj
              simp [q9E] at hj
              subst hj; exact g10
            refine wpOp_of_list rfl ?_
            simp only [q9Act, e10]
            go_wp2_with fail
            change (listed.setIfInBounds 12 true).size = 13 ∧ _
            refine ⟨by simp [hsz], upd f 12 (.bool Qb), ?_, h.step HOE rfl h.be (fun n7 _ => gqAt_other (h.gq n7) (by decide)) (by omega)⟩
            simp only [q9Act, upd, hg3, hg4, hg5, e10]
            try rfl
        case hd =>
          rintro listed a W ⟨hsz, f, rfl, h⟩ hr
          have g0 : got listed 0 := by
            rcases Bool.eq_false_or_eq_true (listed.getD 0 true) with e | e
            · unfold got; rw [Array.getD_eq_getD_getElem?] at e ⊢; rw [Array.getElem?_eq_getElem (by omega)] at e ⊢; exact e
            · have : 0 ∈ ([] : List Nat) := by
                rw [← hr]
                refine mem_ready.2 ⟨e, _, rfl, ?_⟩
                intro ed hed hbn
                simp at hed
              cases this
          have g1 : got listed 1 := by
            rcases Bool.eq_false_or_eq_true (listed.getD 1 true) with e | e
            · unfold got; rw [Array.getD_eq_getD_getElem?] at e ⊢; rw [Array.getElem?_eq_getElem (by omega)] at e ⊢; exact e
            · have : 1 ∈ ([] : List Nat) := by
                rw [← hr]
                refine mem_ready.2 ⟨e, _, rfl, ?_⟩
                intro ed hed hbn
                simp at hed
              cases this
          have g2 : got listed 2 := by
            rcases Bool.eq_false_or_eq_true (listed.getD 2 true) with e | e
            · unfold got; rw [Array.getD_eq_getD_getElem?] at e ⊢; rw [Array.getElem?_eq_getElem (by omega)] at e ⊢; exact e
            · have : 2 ∈ ([] : List Nat) := by
                rw [← hr]
                refine mem_ready.2 ⟨e, _, rfl, ?_⟩
                intro ed hed hbn
                simp at hed
              cases this
          have g3 : got listed 3 := by
            rcases Bool.eq_false_or_eq_true (listed.getD 3 true) with e | e
            · unfold got; rw [Array.getD_eq_getD_getElem?] at e ⊢; rw [Array.getElem?_eq_getElem (by omega)] at e ⊢; exact e
            · have : 3 ∈ ([] : List Nat) := by
                rw [← hr]
                refine mem_ready.2 ⟨e, _, rfl, ?_⟩
                intro ed hed hbn
                simp at hed
                rcases hed with rfl | rfl
                all_goals first | exact g0 | exact g1 | exact g2 | exact absurd hbn (by decide)
              cases this
          have g4 : got listed 4 := by
            rcases Bool.eq_false_or_eq_true (listed.getD 4 true) with e | e
            · unfold got; rw [Array.getD_eq_getD_getElem?] at e ⊢; rw [Array.getElem?_eq_getElem (by omega)] at e ⊢; exact e
            · have : 4 ∈ ([] : List Nat) := by
                rw [← hr]
                refine mem_ready.2 ⟨e, _, rfl, ?_⟩
                intro ed hed hbn
                simp at hed
              cases this
          have g5 : got listed 5 := by
            rcases Bool.eq_false_or_eq_true (listed.getD 5 true) with e | e
            · unfold got; rw [Array.getD_eq_getD_getElem?] at e ⊢; rw [Array.getElem?_eq_getElem (by omega)] at e ⊢; exact e
            · have : 5 ∈ ([] : List Nat) := by
                rw [← hr]
                refine mem_ready.2 ⟨e, _, rfl, ?_⟩
                intro ed hed hbn
                simp at hed
              cases this
          have g6 : got listed 6 := by
            rcases Bool.eq_false_or_eq_true (listed.getD 6 true) with e | e
            · unfold got; rw [Array.getD_eq_getD_getElem?] at e ⊢; rw [Array.getElem?_eq_getElem (by omega)] at e ⊢; exact e
            · have : 6 ∈ ([] : List Nat) := by
                rw [← hr]
                refine mem_ready.2 ⟨e, _, rfl, ?_⟩
                intro ed hed hbn
                simp at hed
                rcases hed with rfl | rfl | rfl
                all_goals first | exact g0 | exact g1 | exact g2 | exact g3 | exact g4 | exact g5 | exact absurd hbn (by decide)
              cases this
          have g7 : got listed 7 := by
            rcases Bool.eq_false_or_eq_true (listed.getD 7 true) with e | e
            · unfold got; rw [Array.getD_eq_getD_getElem?] at e ⊢; rw [Array.getElem?_eq_getElem (by omega)] at e ⊢; exact e
            · have : 7 ∈ ([] : List Nat) := by
                rw [← hr]
                refine mem_ready.2 ⟨e, _, rfl, ?_⟩
                intro ed hed hbn
                simp at hed
                rcases hed with rfl | rfl | rfl | rfl
                all_goals first | exact g0 | exact g1 | exact g2 | exact g3 | exact g4 | exact g5 | exact g6 | exact absurd hbn (by decide)
              cases this
          have g8 : got listed 8 := by
            rcases Bool.eq_false_or_eq_true (listed.getD 8 true) with e | e
            · unfold got; rw [Array.getD_eq_getD_getElem?] at e ⊢; rw [Array.getElem?_eq_getElem (by omega)] at e ⊢; exact e
            · have : 8 ∈ ([] : List Nat) := by
                rw [← hr]
                refine mem_ready.2 ⟨e, _, rfl, ?_⟩
                intro ed hed hbn
                simp at hed
                subst hed
                first | exact g0 | exact g1 | exact g2 | exact g3 | exact g4 | exact g5 | exact g6 | exact g7 | exact absurd hbn (by decide)
              cases this
          have g9 : got listed 9 := by
            rcases Bool.eq_false_or_eq_true (listed.getD 9 true) with e | e
            · unfold got; rw [Array.getD_eq_getD_getElem?] at e ⊢; rw [Array.getElem?_eq_getElem (by omega)] at e ⊢; exact e
            · have : 9 ∈ ([] : List Nat) := by
                rw [← hr]
                refine mem_ready.2 ⟨e, _, rfl, ?_⟩
                intro ed hed hbn
                simp at hed
                subst hed
                first | exact g0 | exact g1 | exact g2 | exact g3 | exact g4 | exact g5 | exact g6 | exact g7 | exact g8 | exact absurd hbn (by decide)
              cases this
          have g10 : got listed 10 := by
            rcases Bool.eq_false_or_eq_true (listed.getD 10 true) with e | e
            · unfold got; rw [Array.getD_eq_getD_getElem?] at e ⊢; rw [Array.getElem?_eq_getElem (by omega)] at e ⊢; exact e
            · have : 10 ∈ ([] : List Nat) := by
                rw [← hr]
                refine mem_ready.2 ⟨e, _, rfl, ?_⟩
                intro ed hed hbn
                simp at hed
                rcases hed with rfl | rfl
                all_goals first | exact g0 | exact g1 | exact g2 | exact g3 | exact g4 | exact g5 | exact g6 | exact g7 | exact g8 | exact g9 | exact absurd hbn (by decide)
              cases this
          have g11 : got listed 11 := by
            rcases Bool.eq_false_or_eq_true (listed.getD 11 true) with e | e
            · unfold got; rw [Array.getD_eq_getD_getElem?] at e ⊢; rw [Array.getElem?_eq_getElem (by omega)] at e ⊢; exact e
            · have : 11 ∈ ([] : List Nat) := by
                rw [← hr]
                refine mem_ready.2 ⟨e, _, rfl, ?_⟩
                intro ed hed hbn
                simp at hed
                rcases hed with rfl | rfl | rfl | rfl | rfl | rfl | rfl | rfl | rfl | rfl | rfl | rfl | rfl
                all_goals first | exact g0 | exact g1 | exact g2 | exact g3 | exact g4 | exact g5 | exact g6 | exact g7 | exact g8 | exact g9 | exact g10 | exact absurd hbn (by decide)
              cases this
          have g12 : got listed 12 := by
            rcases Bool.eq_false_or_eq_true (listed.getD 12 true) with e | e
            · unfold got; rw [Array.getD_eq_getD_getElem?] at e ⊢; rw [Array.getElem?_eq_getElem (by omega)] at e ⊢; exact e
            · have : 12 ∈ ([] : List Nat) := by
                rw [← hr]
                refine mem_ready.2 ⟨e, _, rfl, ?_⟩
                intro ed hed hbn
                simp at hed
                rcases hed with rfl | rfl | rfl | rfl | rfl | rfl | rfl | rfl | rfl | rfl | rfl | rfl | rfl | rfl
                all_goals first | exact g0 | exact g1 | exact g2 | exact g3 | exact g4 | exact g5 | exact g6 | exact g7 | exact g8 | exact g9 | exact g10 | exact g11 | exact absurd hbn (by decide)
              cases this
          have e11 : f 11 = .int .i64 Qn := h.cv 11 g11
          have e12 : f 12 = .bool Qb := h.cv 12 g12
          have HBE := Lib.hid h.be
          clear hr h hg3 hg4 hg5
          subst hg harr
          simp only [q9Act, e11, e12]
          go_wp2_with fail
          go_meet
          exact ⟨rfl, rfl, HBE.out⟩
      case rest =>
        obtain ⟨h12, h13, hbd⟩ := hcut
        subst h12 h13
        have Sd := Lib.hid (S9.out.next hbd)
        have HBd : Hid (Below w.heap.size w wc) := HB9.out.trans (hbd.mono HB9.out.size)
        have hmk := makeStrs nn hnn2 wc
        clear hbd S9 HB9
        go_wp2_with fail
        clear hmk
        go_loopw [15] (fun v wr => ∃ i : Nat, v = .int .i64 (i : Int) ∧ i ≤ nn ∧ Blk wr wc.heap.size 9 (strB (tysI nn i)) ∧ Below wc.heap.size wc wr) (fun v _ => nn - (intOf v).toNat)
        case atStart =>
          refine ⟨0, rfl, Nat.zero_le _, ?_, (Below.refl _ _).alloc (Nat.le_refl _) _⟩
          rw [tysI_zero]; exact Blk.alloc_ _ _ _
        case round =>
          obtain ⟨i, rfl, hi, hB, hbw⟩ := hrel
          by_cases hlt : i < nn
          · have hc2 : wr.cell? ⟨wc.heap.size, i, none⟩ = some ((strB (tysI nn i))[i]'(by rw [strB_length, tysI_len hi]; exact hlt)) := by
              rw [hB.cell]; exact List.getElem?_eq_getElem _
            have hf := hB.frozen i
            have BN := Lib.hid ((tysI_set hlt) ▸ hB.put i (.string ⟨#[105, 110, 116]⟩))
            have HBN := Lib.hid (hbw.setCell (p := ⟨wc.heap.size, i, none⟩) (Nat.le_refl _) (.string ⟨#[105, 110, 116]⟩))
            have h0 : (0 : Int) ≤ (i : Int) := by omega
            have h1 : (i : Int) < (nn : Int) := by omega
            clear hB hbw
            go_wp2_with fail
            go_roundw
            case rel => exact ⟨i + 1, by go_num, by omega, BN.out, HBN.out⟩
            case measure => simp [intOf]; omega
          · obtain rfl : i = nn := by omega
            have Sr := Lib.hid (Sd.out.next hbw)
            have HBr : Hid (Below w.heap.size w wr) := HBd.out.trans (hbw.mono HBd.out.size)
            have BT := Lib.hid hB
            clear hB hbw Sd HBd
            generalize wc.heap.size = x14 at *
            obtain ⟨a0, a1, a2, a3⟩ := blkE_cells Sr.out.ba
            obtain ⟨TR, hTR⟩ : ∃ TR, mkB (tyE (lstL ns) (lstL (tysI i i)) t) = TR := ⟨_, rfl⟩
            have HTR := Lib.hid hTR
            clear hTR
            go_wp2_with fail
            refine (implExprType k m s A l cc t _ i i ns _ i i (tysI i i) wr Sr.out.ka HW.out Sr.out.rn BT.out.row LN (by unfold Hid; exact tysI_len (Nat.le_refl _)) hnn2 hnn2 (HT.out.keep HBr.out)).mono ?_
            rw [HTR.out]
            rintro e wq ⟨rfl, hbq⟩
            have Sq := Lib.hid (Sr.out.next hbq)
            have HBq : Hid (Below w.heap.size w wq) := HBr.out.trans (hbq.mono HBr.out.size)
            have BTY : Hid (Blk wq x14 9 (strB (tysI i i))) := BT.out.below hbq BT.out.lt
            obtain ⟨RU, hRU⟩ : ∃ RU, mkB (tyE (lstL ([⟨#[120]⟩, ⟨#[121]⟩, ⟨#[122]⟩] ++ ns)) (lstL ([⟨#[105, 110, 116]⟩, ⟨#[105, 110, 116]⟩, ⟨#[105, 110, 116]⟩] ++ tysI i i)) t) = RU := ⟨_, rfl⟩
            have HRU := Lib.hid hRU
            have hlT : (strB (tysI i i)).length = i := by rw [strB_length]; exact tysI_len (Nat.le_refl _)
            clear hbq a0 a1 a2 a3 hRU BT Sr HBr
            go_upto_region 16 with (fail)
            go_cut [17] from 106 to 113 (fun s17 we => s17 = .string RU ∧ Below wq.heap.size wq we)
            case first =>
              refine region_arr ?_
              intro arr harr
              obtain ⟨g, hg⟩ : ∃ g : Nat → Value, g = fun j => arr.getD j undef := ⟨_, rfl⟩
              have hg3 : g 3 = .pointer (some ⟨w1.heap.size, 0, none⟩) := by rw [hg, harr]; rfl
              have hg4 : g 4 = (.slice (some ⟨gn, 0, none⟩) i i) := by rw [hg, harr]; rfl
              have hg5 : g 14 = (.slice (some ⟨x14, 0, none⟩) i i) := by rw [hg, harr]; rfl
              refine wp_region_inv rfl (fun listed a W => q16K g wq 9 (.agg #[.int .i64 k, .int .i64 m, .string s, .slice A l cc]) (.slice (some ⟨gn, 0, none⟩) i i) (.slice (some ⟨x14, 0, none⟩) i i) (.string RU) (q16k (.string RU)) (strB [⟨#[120]⟩, ⟨#[121]⟩, ⟨#[122]⟩]) (strB ns) (strB [⟨#[105, 110, 116]⟩, ⟨#[105, 110, 116]⟩, ⟨#[105, 110, 116]⟩]) (strB (tysI i i)) listed a W) ?h0 ?hs ?hd
              case h0 =>
                have hf : ∀ j, (Array.replicate 9 false).getD j false = false := fun j => by
                  rw [Array.getD_eq_getD_getElem?, Array.getElem?_replicate]; split <;> rfl
                have hng : ∀ j, ¬ got (Array.replicate 9 false) j := fun j e => absurd ((hf j).symm.trans e) (by decide)
                refine ⟨by simp, fun j => g (q16S j), by rw [hg, harr]; rfl, (Below.refl _ _).drew, fun _ => ?_, fun j e => absurd e (hng j), fun p _ e => absurd e (hng _)⟩
                show GqAt _ _ _ _ _ _ _ _ _ _ _ _ _ (Array.replicate 9 false) _ _
                unfold GqAt; rw [hf, hf, hf, hf]
                exact ⟨(fun x => by cases x), (fun x => by cases x), (fun x => by cases x), (fun x => by cases x), (fun x => by cases x)⟩
              case hs =>
                clear hg harr
                rintro listed a W i ⟨hsz, f, rfl, h⟩ hi
                obtain ⟨hn, o, ho, haft⟩ := mem_ready.1 hi
                have hi17 : i < 9 := by have := (Array.getElem?_eq_some_iff.1 ho).1; simpa using this
                have hcs : i = 0 ∨ i = 1 ∨ i = 2 ∨ i = 3 ∨ i = 4 ∨ i = 5 ∨ i = 6 ∨ i = 7 ∨ i = 8 := by omega
                clear hi hi17
                have hng := ngot hn
                rcases hcs with rfl | rfl | rfl | rfl | rfl | rfl | rfl | rfl | rfl
                all_goals (simp at ho; subst ho)
                · have hBx := Sq.out.ba.below h.be Sq.out.ba.lt
                  obtain ⟨z0, z1, z2, z3⟩ := blkE_cells hBx
                  have HOE : ∀ j, (0, j) ∈ q16E → got listed j := by
                    intro j hj
                    simp [q16E] at hj
                  refine wpOp_of_list rfl ?_
                  simp only [q16Act]
                  go_wp2_with fail
                  change (listed.setIfInBounds 0 true).size = 9 ∧ _
                  refine ⟨by simp [hsz], upd f 0 (.agg #[.int .i64 k, .int .i64 m, .string s, .slice A l cc]), ?_, h.step HOE rfl h.be (fun n7 _ => gqAt_other (h.gq n7) (by decide)) (by omega)⟩
                  simp only [q16Act, upd, hg3, hg4, hg5]
                  try rfl
                · have na : ¬ got listed 3 := fun g => hng (h.od (3, 1) (by decide) g)
                  have hbs := h.be.size
                  have HOE : ∀ j, (1, j) ∈ q16E → got listed j := by
                    intro j hj
                    simp [q16E] at hj
                  refine wpOp_of_list rfl ?_
                  simp only [q16Act]
                  go_wp2_with fail
                  change (listed.setIfInBounds 1 true).size = 9 ∧ _
                  refine ⟨by simp [hsz], upd f 1 (.slice (some ⟨W.heap.size, 0, none⟩) 3 3), ?_, h.step HOE trivial (h.be.alloc hbs _) (fun n7 _ => gqAt_b (h.gq n7) (by omega) (by decide) hng na (fun g => h.od (6, 4) (by decide) g) hbs rfl (by unfold maxLen; omega)) (by omega)⟩
                  simp only [q16Act, upd, hg3, hg4, hg5]
                  try rfl
                · have HOE : ∀ j, (2, j) ∈ q16E → got listed j := by
                    intro j hj
                    simp [q16E] at hj
                  refine wpOp_of_list rfl ?_
                  simp only [q16Act]
                  go_wp2_with fail
                  change (listed.setIfInBounds 2 true).size = 9 ∧ _
                  refine ⟨by simp [hsz], upd f 2 (.slice (some ⟨gn, 0, none⟩) i i), ?_, h.step HOE rfl h.be (fun n7 _ => gqAt_other (h.gq n7) (by decide)) (by omega)⟩
                  simp only [q16Act, upd, hg3, hg4, hg5]
                  try rfl
                · have g1 : got listed 1 := haft ⟨1, .data⟩ (by simp) rfl
                  have g2 : got listed 2 := haft ⟨2, .data⟩ (by simp) rfl
                  have n7 : ¬ got listed 7 := fun g => hng (h.od (7, 3) (by decide) g)
                  have hown := Gq.o1 (h.gq n7) g1 (ngot_false hng)
                  have e2 : f 2 = (.slice (some ⟨gn, 0, none⟩) i i) := h.cv 2 g2
                  have hrow := Sq.out.rn.below h.be
                  have hbs := h.be.size
                  have HOE : ∀ j, (3, j) ∈ q16E → got listed j := by
                    intro j hj
                    simp [q16E] at hj
                    subst hj; exact g1
                  refine wpOp_of_list rfl ?_
                  simp only [q16Act, e2]
                  refine wpList_append_own_at _ rfl (.tmp 107) (.tmp 108) 26 rfl wq.heap.size 9 is0 (.string ByteArray.empty) 1 16 Tryd.underlying26 his hs0 hs1 hs2 rfl (by decide) (f 1) 3 (strB [⟨#[120]⟩, ⟨#[121]⟩, ⟨#[122]⟩]) rfl hown ⟨gn, 0, none⟩ i i (strB ns) rfl ?c0 (row_add3 hrow) strB_one ?c3 ?c4 ?c5 ?_
                  case c0 => rw [hlS]; omega
                  case c3 => unfold maxLen; omega
                  case c4 => omega
                  case c5 => exact hbs
                  intro v' W' hown' hgrow _ hat
                  go_wp2_with fail
                  change (listed.setIfInBounds 3 true).size = 9 ∧ _
                  refine ⟨by simp [hsz], upd f 3 v', ?_, h.step HOE trivial (h.be.grown hgrow hbs (fun q hq => (hown.lt q hq).1)) (fun n7 _ => gqAt_a (h.gq n7) (by omega) (by decide) g1 hng (fun g => h.od (6, 4) (by decide) g) (by rw [hlS]; exact hown') hgrow hat) (by omega)⟩
                  simp only [q16Act, upd, hg3, hg4, hg5, e2]
                  try rfl
                · have na : ¬ got listed 6 := fun g => hng (h.od (6, 4) (by decide) g)
                  have hbs := h.be.size
                  have HOE : ∀ j, (4, j) ∈ q16E → got listed j := by
                    intro j hj
                    simp [q16E] at hj
                  refine wpOp_of_list rfl ?_
                  simp only [q16Act]
                  go_wp2_with fail
                  change (listed.setIfInBounds 4 true).size = 9 ∧ _
                  refine ⟨by simp [hsz], upd f 4 (.slice (some ⟨W.heap.size, 0, none⟩) 3 3), ?_, h.step HOE trivial (h.be.alloc hbs _) (fun n7 _ => (gqAt_b (h.gq n7).swap (by omega) (by decide) hng na (fun g => h.od (3, 1) (by decide) g) hbs rfl (by unfold maxLen; omega)).swap) (by omega)⟩
                  simp only [q16Act, upd, hg3, hg4, hg5]
                  try rfl
                · have HOE : ∀ j, (5, j) ∈ q16E → got listed j := by
                    intro j hj
                    simp [q16E] at hj
                  refine wpOp_of_list rfl ?_
                  simp only [q16Act]
                  go_wp2_with fail
                  change (listed.setIfInBounds 5 true).size = 9 ∧ _
                  refine ⟨by simp [hsz], upd f 5 (.slice (some ⟨x14, 0, none⟩) i i), ?_, h.step HOE rfl h.be (fun n7 _ => gqAt_other (h.gq n7) (by decide)) (by omega)⟩
                  simp only [q16Act, upd, hg3, hg4, hg5]
                  try rfl
                · have g4 : got listed 4 := haft ⟨4, .data⟩ (by simp) rfl
                  have g5 : got listed 5 := haft ⟨5, .data⟩ (by simp) rfl
                  have g3 : got listed 3 := haft ⟨3, .chain⟩ (by simp) rfl
                  have n7 : ¬ got listed 7 := fun g => hng (h.od (7, 6) (by decide) g)
                  have hown := Gq.o2 (h.gq n7) g4 (ngot_false hng)
                  have e5 : f 5 = (.slice (some ⟨x14, 0, none⟩) i i) := h.cv 5 g5
                  have hrow := BTY.out.row.below h.be
                  have hbs := h.be.size
                  have HOE : ∀ j, (6, j) ∈ q16E → got listed j := by
                    intro j hj
                    simp [q16E] at hj
                    rcases hj with rfl | rfl
                    · exact g4
                    · exact g3
                  refine wpOp_of_list rfl ?_
                  simp only [q16Act, e5]
                  refine wpList_append_own_at _ rfl (.tmp 110) (.tmp 111) 26 rfl wq.heap.size 9 is0 (.string ByteArray.empty) 1 16 Tryd.underlying26 his hs0 hs1 hs2 rfl (by decide) (f 4) 3 (strB [⟨#[105, 110, 116]⟩, ⟨#[105, 110, 116]⟩, ⟨#[105, 110, 116]⟩]) rfl hown ⟨x14, 0, none⟩ i i (strB (tysI i i)) rfl ?c0 (row_add3 hrow) strB_one ?c3 ?c4 ?c5 ?_
                  case c0 => rw [hlT]; omega
                  case c3 => unfold maxLen; omega
                  case c4 => omega
                  case c5 => exact hbs
                  intro v' W' hown' hgrow _ hat
                  go_wp2_with fail
                  change (listed.setIfInBounds 6 true).size = 9 ∧ _
                  refine ⟨by simp [hsz], upd f 6 v', ?_, h.step HOE trivial (h.be.grown hgrow hbs (fun q hq => (hown.lt q hq).1)) (fun n7 _ => (gqAt_a (h.gq n7).swap (by omega) (by decide) g4 hng (fun g => h.od (3, 1) (by decide) g) (by rw [hlT]; exact hown') hgrow hat).swap) (by omega)⟩
                  simp only [q16Act, upd, hg3, hg4, hg5, e5]
                  try rfl
                · have g0 : got listed 0 := haft ⟨0, .data⟩ (by simp) rfl
                  have g3 : got listed 3 := haft ⟨3, .data⟩ (by simp) rfl
                  have g6 : got listed 6 := haft ⟨6, .data⟩ (by simp) rfl
                  have own3 := Gq.p1 (h.gq hng) g3
                  have own6 := Gq.p2 (h.gq hng) g6
                  rw [hlS] at own3
                  rw [hlT] at own6
                  obtain ⟨A5, c5, e3, _, r5⟩ := own_row own3
                  obtain ⟨A10, c10, e6, _, r10⟩ := own_row own6
                  have e0 : f 0 = (.agg #[.int .i64 k, .int .i64 m, .string s, .slice A l cc]) := h.cv 0 g0
                  have r5' : Row W W.heap.size A5 (strB ([⟨#[120]⟩, ⟨#[121]⟩, ⟨#[122]⟩] ++ ns)) := by simpa [strB] using r5
                  have r10' : Row W W.heap.size A10 (strB ([⟨#[105, 110, 116]⟩, ⟨#[105, 110, 116]⟩, ⟨#[105, 110, 116]⟩] ++ tysI i i)) := by simpa [strB] using r10
                  have HOE : ∀ j, (7, j) ∈ q16E → got listed j := by
                    intro j hj
                    simp [q16E] at hj
                    rcases hj with rfl | rfl | rfl
                    · exact g3
                    · exact g6
                    · exact g0
                  refine wpOp_of_list rfl ?_
                  simp only [q16Act, e0, e3, e6]
                  go_wp2_with fail
                  refine (implExprType k m s A l cc t A5 (3 + i) c5 ([⟨#[120]⟩, ⟨#[121]⟩, ⟨#[122]⟩] ++ ns) A10 (3 + i) c10 ([⟨#[105, 110, 116]⟩, ⟨#[105, 110, 116]⟩, ⟨#[105, 110, 116]⟩] ++ tysI i i) W (Sq.out.ka.below h.be) HW.out r5' r10' (by unfold Hid; rw [List.length_append, LN.out]; rfl) (by unfold Hid; rw [List.length_append, tysI_len (Nat.le_refl _)]; rfl) (by omega) (by omega) (HT.out.keep (HBq.out.trans (h.be.mono HBq.out.size)))).mono ?_
                  rintro e W' ⟨he, hb⟩
                  rw [HRU.out] at he
                  subst he
                  go_wp2_with fail
                  change (listed.setIfInBounds 7 true).size = 9 ∧ _
                  refine ⟨by simp [hsz], upd f 7 (.string RU), ?_, h.step HOE rfl (h.be.trans (hb.mono h.be.size)) (fun _ e => absurd rfl e) (by omega)⟩
                  simp only [q16Act, upd, hg3, hg4, hg5, e0, e3, e6]
                  try rfl
                · have g7 : got listed 7 := haft ⟨7, .data⟩ (by simp) rfl
                  have e7 : f 7 = (.string RU) := h.cv 7 g7
                  have HOE : ∀ j, (8, j) ∈ q16E → got listed j := by
                    intro j hj
                    simp [q16E] at hj
                    subst hj; exact g7
                  refine wpOp_of_list rfl ?_
                  simp only [q16Act, e7]
                  go_wp2_with fail
                  change (listed.setIfInBounds 8 true).size = 9 ∧ _
                  refine ⟨by simp [hsz], upd f 8 (.string RU), ?_, h.step HOE rfl h.be (fun n7 _ => gqAt_other (h.gq n7) (by decide)) (by omega)⟩
                  simp only [q16Act, upd, hg3, hg4, hg5, e7]
                  try rfl
              case hd =>
                rintro listed a W ⟨hsz, f, rfl, h⟩ hr
                have g0 : got listed 0 := by
                  rcases Bool.eq_false_or_eq_true (listed.getD 0 true) with e | e
                  · unfold got; rw [Array.getD_eq_getD_getElem?] at e ⊢; rw [Array.getElem?_eq_getElem (by omega)] at e ⊢; exact e
                  · have : 0 ∈ ([] : List Nat) := by
                      rw [← hr]
                      refine mem_ready.2 ⟨e, _, rfl, ?_⟩
                      intro ed hed hbn
                      simp at hed
                    cases this
                have g1 : got listed 1 := by
                  rcases Bool.eq_false_or_eq_true (listed.getD 1 true) with e | e
                  · unfold got; rw [Array.getD_eq_getD_getElem?] at e ⊢; rw [Array.getElem?_eq_getElem (by omega)] at e ⊢; exact e
                  · have : 1 ∈ ([] : List Nat) := by
                      rw [← hr]
                      refine mem_ready.2 ⟨e, _, rfl, ?_⟩
                      intro ed hed hbn
                      simp at hed
                    cases this
                have g2 : got listed 2 := by
                  rcases Bool.eq_false_or_eq_true (listed.getD 2 true) with e | e
                  · unfold got; rw [Array.getD_eq_getD_getElem?] at e ⊢; rw [Array.getElem?_eq_getElem (by omega)] at e ⊢; exact e
                  · have : 2 ∈ ([] : List Nat) := by
                      rw [← hr]
                      refine mem_ready.2 ⟨e, _, rfl, ?_⟩
                      intro ed hed hbn
                      simp at hed
                    cases this
                have g3 : got listed 3 := by
                  rcases Bool.eq_false_or_eq_true (listed.getD 3 true) with e | e
                  · unfold got; rw [Array.getD_eq_getD_getElem?] at e ⊢; rw [Array.getElem?_eq_getElem (by omega)] at e ⊢; exact e
                  · have : 3 ∈ ([] : List Nat) := by
                      rw [← hr]
                      refine mem_ready.2 ⟨e, _, rfl, ?_⟩
                      intro ed hed hbn
                      simp at hed
                      rcases hed with rfl | rfl
                      all_goals first | exact g0 | exact g1 | exact g2 | exact absurd hbn (by decide)
                    cases this
                have g4 : got listed 4 := by
                  rcases Bool.eq_false_or_eq_true (listed.getD 4 true) with e | e
                  · unfold got; rw [Array.getD_eq_getD_getElem?] at e ⊢; rw [Array.getElem?_eq_getElem (by omega)] at e ⊢; exact e
                  · have : 4 ∈ ([] : List Nat) := by
                      rw [← hr]
                      refine mem_ready.2 ⟨e, _, rfl, ?_⟩
                      intro ed hed hbn
                      simp at hed
                    cases this
                have g5 : got listed 5 := by
                  rcases Bool.eq_false_or_eq_true (listed.getD 5 true) with e | e
                  · unfold got; rw [Array.getD_eq_getD_getElem?] at e ⊢; rw [Array.getElem?_eq_getElem (by omega)] at e ⊢; exact e
                  · have : 5 ∈ ([] : List Nat) := by
                      rw [← hr]
                      refine mem_ready.2 ⟨e, _, rfl, ?_⟩
                      intro ed hed hbn
                      simp at hed
                    cases this
                have g6 : got listed 6 := by
                  rcases Bool.eq_false_or_eq_true (listed.getD 6 true) with e | e
                  · unfold got; rw [Array.getD_eq_getD_getElem?] at e ⊢; rw [Array.getElem?_eq_getElem (by omega)] at e ⊢; exact e
                  · have : 6 ∈ ([] : List Nat) := by
                      rw [← hr]
                      refine mem_ready.2 ⟨e, _, rfl, ?_⟩
                      intro ed hed hbn
                      simp at hed
                      rcases hed with rfl | rfl | rfl
                      all_goals first | exact g0 | exact g1 | exact g2 | exact g3 | exact g4 | exact g5 | exact absurd hbn (by decide)
                    cases this
                have g7 : got listed 7 := by
                  rcases Bool.eq_false_or_eq_true (listed.getD 7 true) with e | e
                  · unfold got; rw [Array.getD_eq_getD_getElem?] at e ⊢; rw [Array.getElem?_eq_getElem (by omega)] at e ⊢; exact e
                  · have : 7 ∈ ([] : List Nat) := by
                      rw [← hr]
                      refine mem_ready.2 ⟨e, _, rfl, ?_⟩
                      intro ed hed hbn
                      simp at hed
                      rcases hed with rfl | rfl | rfl | rfl
                      all_goals first | exact g0 | exact g1 | exact g2 | exact g3 | exact g4 | exact g5 | exact g6 | exact absurd hbn (by decide)
                    cases this
                have g8 : got listed 8 := by
                  rcases Bool.eq_false_or_eq_true (listed.getD 8 true) with e | e
                  · unfold got; rw [Array.getD_eq_getD_getElem?] at e ⊢; rw [Array.getElem?_eq_getElem (by omega)] at e ⊢; exact e
                  · have : 8 ∈ ([] : List Nat) := by
                      rw [← hr]
                      refine mem_ready.2 ⟨e, _, rfl, ?_⟩
                      intro ed hed hbn
                      simp at hed
                      rcases hed with rfl | rfl | rfl | rfl | rfl | rfl | rfl | rfl | rfl | rfl
                      all_goals first | exact g0 | exact g1 | exact g2 | exact g3 | exact g4 | exact g5 | exact g6 | exact g7 | exact absurd hbn (by decide)
                    cases this
                have e8 : f 8 = .string RU := h.cv 8 g8
                have HBE := Lib.hid h.be
                clear hr h hg3 hg4 hg5
                subst hg harr
                simp only [q16Act, e8]
                go_wp2_with fail
                go_meet
                exact ⟨rfl, HBE.out⟩
            case rest =>
              obtain ⟨h17, hbe⟩ := hcut
              subst h17
              have HBe : Hid (Below w.heap.size w wc) := HBq.out.trans (hbe.mono HBq.out.size)
              have hqr : Rb = true → Qb = true ∧ Qn = Rn := by
                intro hb
                have h1 := HRb.out
                rw [hb] at h1
                obtain ⟨v, hv⟩ := Option.isSome_iff_exists.1 h1
                have h2 := ofE_pre (ps := [⟨#[120]⟩, ⟨#[121]⟩, ⟨#[122]⟩]) (ys := [1, 2, 3]) (v := v) rfl (HR.out.trans hv)
                have h3 : Q = some v := HQ.out.symm.trans h2
                have h4 := HRn.out
                rw [hv] at h4
                exact ⟨by rw [← HQb.out, h3]; first | done | rfl, by rw [← HQn.out, h3, ← h4]; first | done | rfl⟩
              have htr : (TR.toList == []) = true ∨ ((TR.toList == []) = false ∧ RU = TR) := by
                by_cases h0 : tyE (lstL ns) (lstL (tysI i i)) t = []
                · left; rw [← HTR.out, mkB_is, h0]; simp
                · right
                  refine ⟨by rw [← HTR.out, mkB_is]; simp [h0], ?_⟩
                  rw [← HRU.out, ← HTR.out, tyE_pre (ps := [⟨#[120]⟩, ⟨#[121]⟩, ⟨#[122]⟩]) (qs := [⟨#[105, 110, 116]⟩, ⟨#[105, 110, 116]⟩, ⟨#[105, 110, 116]⟩]) rfl (by decide) h0]
              clear hbe Sq HBq BTY
              cases Rb with
              | false =>
                rcases htr with ht | ⟨ht, rfl⟩
                · clear hqr
                  go_wp2_with fail
                  go_ret
                  exact ⟨by simp, HBe.out⟩
                · clear hqr
                  go_wp2_with fail
                  go_ret
                  exact ⟨by simp, HBe.out⟩
              | true =>
                obtain ⟨rfl, rfl⟩ := hqr rfl
                rcases htr with ht | ⟨ht, rfl⟩
                · go_wp2_with fail
                  go_ret
                  exact ⟨by simp, HBe.out⟩
                · go_wp2_with fail
                  go_ret
                  exact ⟨by simp, HBe.out⟩
  · have hnm2 : ((nn : Int) != (mt : Int)) = true := by rw [bne_iff_ne]; omega
    have hn3 : (Rn == Rn) = true := by simp
    have hn4 : (Rb == Rb) = true := by simp
    clear hnm
    go_wp2_with fail
    go_ret
    exact ⟨rfl, HB4.out⟩
end Go.Proofs.YtfjmjlpobbjjdaaDoor
