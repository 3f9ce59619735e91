/- Walks: drawn places. -/
import Derived.Test.YtdimljolinmofaaDoorDraw2
import Derived.Test.YtdimljolinmofaaDoorOwn
import Derived.Test.YtdimljolinmofaaDoorStr
import Derived.Deep.RegionHeld3
import Derived.Handy
namespace Go.Proofs.YtdimljolinmofaaDoor
open Go.RowKit
set_option linter.unusedVariables false

theorem blk_posed2 {w : World} {g : Nat} {T : TypeId} {L C : Nat} {u v : Value} (h : Blk w g T [u, v]) : Blk ((w.setCell ⟨g, 0, none⟩ (.int .i64 (L : Int))).setCell ⟨g, 1, none⟩ (.int .i64 (C : Int))) g T [.int .i64 (L : Int), .int .i64 (C : Int)] := by
  have := (h.put 0 (.int .i64 (L : Int))).put 1 (.int .i64 (C : Int))
  simpa using this

def TwoPos (w : World) (e : Ending) (w' : World) : Prop := ∃ a b c d : Nat, e = .returned (.tuple #[.agg #[.int .i64 (a : Int), .int .i64 (b : Int)], .agg #[.int .i64 (c : Int), .int .i64 (d : Int)]]) ∧ a < 3 ∧ b < 4 ∧ c < 3 ∧ d < 4 ∧ Below w.heap.size w w'

set_option maxHeartbeats 4000000 in
theorem drawPosLess (A : Option Addr) (n c : Nat) (z : List Int) (w : World) (hz : IsRow .u8 w A n c z) :
    Calls Tryd.prog 11 #[.slice A n c] w (TwoPos w) := by
  have hBW : Below w.heap.size w ((w.alloc (.cells #[.int .i64 0, .int .i64 0] 24)).alloc (.cells #[.int .i64 0, .int .i64 0] 24)) := by go_grown
  have hZ : IsRow .u8 ((w.alloc (.cells #[.int .i64 0, .int .i64 0] 24)).alloc (.cells #[.int .i64 0, .int .i64 0] 24)) A n c z := isRow_below hz hBW
  have hk0 : Blk ((w.alloc (.cells #[.int .i64 0, .int .i64 0] 24)).alloc (.cells #[.int .i64 0, .int .i64 0] 24)) w.heap.size 24 [.int .i64 0, .int .i64 0] := (Blk.alloc_ w _ [.int .i64 0, .int .i64 0]).alloc _
  have hk1 : Blk ((w.alloc (.cells #[.int .i64 0, .int .i64 0] 24)).alloc (.cells #[.int .i64 0, .int .i64 0] 24)) (w.heap.size + 1) 24 [.int .i64 0, .int .i64 0] := by
    have := Blk.alloc_ (w.alloc (.cells #[.int .i64 0, .int .i64 0] 24)) 24 [.int .i64 0, .int .i64 0]; simpa using this
  go_enter Tryd.func11, Tryd.ntmps11
  have HZ := Lib.hid hZ
  have HK0 := Lib.hid hk0
  have HK1 := Lib.hid hk1
  have HBW := Lib.hid hBW
  clear hZ hk0 hk1 hBW hz
  go_wp2_with fail
  refine (openIt A n c z _ HZ.out).mono ?_
  rintro e w1 ⟨rfl, h1, hb1⟩
  have hsz : ((w.alloc (.cells #[.int .i64 0, .int .i64 0] 24)).alloc (.cells #[.int .i64 0, .int .i64 0] 24)).heap.size = w.heap.size + 2 := by simp
  rw [hsz] at h1
  have HR1 := Lib.hid h1
  have hk0 := HK0.out.below hb1 HK0.out.lt
  have hk1 := HK1.out.below hb1 HK1.out.lt
  have HK0 := Lib.hid hk0
  have HK1 := Lib.hid hk1
  have HBW : Hid (Below w.heap.size w w1) := HBW.out.trans (hb1.mono (by omega))
  clear h1 hb1 hsz hk0 hk1
  go_wp2_with fail
  refine (pick (w.heap.size + 2) 0 3 w1 HR1.out (by omega) (by omega) (by omega)).mono ?_
  rintro e w2 ⟨a, rfl, ha0, ha1, hR, hK, hs⟩
  have ha := ha1 (by omega)
  have HR2 := Lib.hid hR
  have HKE2 := Lib.hid hK
  have HK0 := Lib.hid (hK.blk HK0.out (by omega))
  have HK1 := Lib.hid (hK.blk HK1.out (by omega))
  have HBW := Lib.hid (HBW.out.trans (hK.below (by omega) HBW.out.size))
  clear ha0 ha1 hR hK hs
  go_wp2_with fail
  refine (pick (w.heap.size + 2) 1 4 w2 HR2.out (by omega) (by omega) (by omega)).mono ?_
  rintro e w3 ⟨b, rfl, hb0, hb1, hR, hK, hs⟩
  have hb := hb1 (by omega)
  have HK0 := Lib.hid (hK.blk HK0.out (by omega))
  have HK1 := Lib.hid (hK.blk HK1.out (by omega))
  have HBW := Lib.hid (HBW.out.trans (hK.below (by omega) HBW.out.size))
  have hlt := hR.lt
  have HRA : Hid (Rd (w3.alloc (.cells #[.int .i64 (a : Int), .int .i64 (b : Int)] 24)) (w.heap.size + 2) 2) := rd_alloc hR _
  clear hb0 hb1 hR hK hs
  go_wp2_with fail
  have HA0 := Lib.hid (HK0.out.alloc (.cells #[.int .i64 (a : Int), .int .i64 (b : Int)] 24))
  have HA1 := Lib.hid (HK1.out.alloc (.cells #[.int .i64 (a : Int), .int .i64 (b : Int)] 24))
  go_region_held3 (fun w' => w'.cell? ⟨w3.heap.size, 0, none⟩ = some (.int .i64 (a : Int)) ∧ w'.cell? ⟨w3.heap.size, 1, none⟩ = some (.int .i64 (b : Int)))
    (first | go_keep | (((try dsimp only); (repeat' apply And.intro)) <;> (first | go_keep | (rw [World.cell?_setCell_far _ _ _ _ (by simp; omega), World.cell?_setCell_far _ _ _ _ (by simp; omega)]; simp [*]))) | (go_split_ands; refine ⟨?_, ?_⟩ <;> (rw [hKA.cell (by simp) (by simp; omega)]; assumption)) | (go_split_ands; refine ⟨?_, ?_⟩ <;> (rw [hKB.cell (by have := hKA.size; simp at this ⊢; omega) (by simp; omega)]; assumption)))
    (first
      | (go_at_call 35; ((with_reducible refine (pick (w.heap.size + 1 + 1) 2 3 _ ?_ ?_ ?_ ?_).mono ?_); (exact HRA.out); omega; omega; omega; rintro e w4 ⟨c', rfl, hc0, hc1, hRA, hKA, hsA⟩))
      | (go_at_call 35; ((with_reducible refine (pick (w.heap.size + 1 + 1) 3 4 _ ?_ ?_ ?_ ?_).mono ?_); (exact hRA); omega; omega; omega; rintro e w5 ⟨d', rfl, hd0, hd1, hRB, hKB, hsB⟩; (have b0 := hKB.blk (hKA.blk HA0.out (by omega)) (by omega)); (have b1 := hKB.blk (hKA.blk HA1.out (by omega)) (by omega)); (have q0 : w5.cell? ⟨w.heap.size, 0, none⟩ = some (.int .i64 0) := b0.cell 0); (have q1 : w5.cell? ⟨w.heap.size, 1, none⟩ = some (.int .i64 0) := b0.cell 1); (have q2 : w5.cell? ⟨w.heap.size + 1, 0, none⟩ = some (.int .i64 0) := b1.cell 0); (have q3 : w5.cell? ⟨w.heap.size + 1, 1, none⟩ = some (.int .i64 0) := b1.cell 1); (have f0 := b0.frozen 0); (have f1 := b0.frozen 1); (have f2 := b1.frozen 0); (have f3 := b1.frozen 1); (have B0 := Lib.hid b0); (have B1 := Lib.hid b1); clear b0 b1)))
  have hA := blk_posed2 (L := a) (C := b) B0.out
  have hA2 := (hA.far (p := ⟨w.heap.size + 1, 0, none⟩) (by simp) (.int .i64 (c' : Int))).far (p := ⟨w.heap.size + 1, 1, none⟩) (by simp) (.int .i64 (d' : Int))
  have hB2 := blk_posed2 (L := c') (C := d') ((B1.out.far (p := ⟨w.heap.size, 0, none⟩) (by simp) (.int .i64 (a : Int))).far (p := ⟨w.heap.size, 1, none⟩) (by simp) (.int .i64 (b : Int)))
  have hbw : Below w.heap.size w ((((w5.setCell ⟨w.heap.size, 0, none⟩ (.int .i64 (a : Int))).setCell ⟨w.heap.size, 1, none⟩ (.int .i64 (b : Int))).setCell ⟨w.heap.size + 1, 0, none⟩ (.int .i64 (c' : Int))).setCell ⟨w.heap.size + 1, 1, none⟩ (.int .i64 (d' : Int))) := by
    have h1 : Below w.heap.size w (w3.alloc (.cells #[.int .i64 (a : Int), .int .i64 (b : Int)] 24)) := HBW.out.alloc HBW.out.size _
    have h2 : Below w.heap.size w w4 := (drewN_below h1 1).trans (hKA.below (by omega) h1.size)
    have h3 : Below w.heap.size w w5 := h2.trans (hKB.below (by omega) h2.size)
    exact (((h3.setCell (by simp) _).setCell (by simp) _).setCell (by simp) _).setCell (by simp) _
  have hc := hc1 (by omega)
  have hd := hd1 (by omega)
  rename_i hHeld
  clear hHeld q0 q1 q2 q3 f0 f1 f2 f3 hc0 hc1 hd0 hd1 hKA hKB hRA hRB hA B0 B1 HA0 HA1 hsA hsB
  generalize (((w5.setCell ⟨w.heap.size, 0, none⟩ (.int .i64 (a : Int))).setCell ⟨w.heap.size, 1, none⟩ (.int .i64 (b : Int))).setCell ⟨w.heap.size + 1, 0, none⟩ (.int .i64 (c' : Int))).setCell ⟨w.heap.size + 1, 1, none⟩ (.int .i64 (d' : Int)) = w6 at *
  have s0 : w6.cell? ⟨w.heap.size, 0, none⟩ = some (.int .i64 (a : Int)) := hA2.cell 0
  have s1 : w6.cell? ⟨w.heap.size, 1, none⟩ = some (.int .i64 (b : Int)) := hA2.cell 1
  have s2 : w6.cell? ⟨w.heap.size + 1, 0, none⟩ = some (.int .i64 (c' : Int)) := hB2.cell 0
  have s3 : w6.cell? ⟨w.heap.size + 1, 1, none⟩ = some (.int .i64 (d' : Int)) := hB2.cell 1
  have R : TwoPos w (.returned (.tuple #[.agg #[.int .i64 (a : Int), .int .i64 (b : Int)], .agg #[.int .i64 (c' : Int), .int .i64 (d' : Int)]])) w6 := ⟨a, b, c', d', rfl, by omega, by omega, by omega, by omega, hbw⟩
  have HR := Lib.hid R
  clear R hA2 hB2 hbw
  go_wp2_with fail
  refine bodyPost_ret (v := .tuple #[.agg #[.int .i64 (a : Int), .int .i64 (b : Int)], .agg #[.int .i64 (c' : Int), .int .i64 (d' : Int)]]) (by simp [results, Tryd.results11, go_sem, s0, s1, s2, s3]) rfl ?_
  exact HR.out
end Go.Proofs.YtdimljolinmofaaDoor
