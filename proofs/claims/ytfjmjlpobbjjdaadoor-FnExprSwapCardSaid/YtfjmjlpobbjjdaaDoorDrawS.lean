/- Walk: one of a list of texts. -/
import Derived.Test.YtfjmjlpobbjjdaaDoorDraw2
namespace Go.Proofs.YtfjmjlpobbjjdaaDoor
open Go.RowKit
set_option linter.unusedVariables false

def strV (ss : List (List UInt8)) : List Value := ss.map fun l => .string ⟨l.toArray⟩
theorem strV_get {ss : List (List UInt8)} {i : Nat} (h : i < ss.length) : (strV ss)[i]? = some (.string ⟨ss[i].toArray⟩) := by simp [strV, h]

set_option maxHeartbeats 1000000 in
theorem strOf (g p g' n c : Nat) (ss : List (List UInt8)) (w : World) (h : Rd w g p) (hp : (p : Int) ≤ 1000000000) (hb : Blk w g' 9 (strV ss)) (hg : Hid (g' ≠ g)) (hl : Hid (ss.length = n)) (h0 : 0 < n) (hn : (n : Int) ≤ 1000000) :
    Calls Tryd.prog 69 #[.pointer (some ⟨g, 0, none⟩), .slice (some ⟨g', 0, none⟩) n c] w (Drawn g p 1 (fun v => ∃ l ∈ ss, v = .string ⟨l.toArray⟩) w) := by
  go_enter Tryd.func69, Tryd.ntmps69
  go_wp2_with fail
  refine (pick g p n w h hp (by omega) (by omega)).mono ?_
  rintro e w' ⟨r, rfl, hr0, hr1, hR, hK, hs⟩
  have hr2 := hr1 (by omega)
  have hx : r < ss.length := by rw [hl.out]; omega
  have hc : w'.cell? ⟨g', r, none⟩ = some (.string ⟨ss[r].toArray⟩) := by rw [(hK.blk hb hg.out).cell, strV_get hx]
  have R : Drawn g p 1 (fun v => ∃ l ∈ ss, v = .string ⟨l.toArray⟩) w (.returned (.string ⟨ss[r].toArray⟩)) w' :=
    ⟨_, p + 1, rfl, ⟨ss[r], List.getElem_mem hx, rfl⟩, by omega, by omega, hR, hK⟩
  have HR := Lib.hid R; clear R hr0 hr1 hs
  have HX := Lib.hid hx
  go_wp2_with fail
  go_ret
  exact HR.out
end Go.Proofs.YtfjmjlpobbjjdaaDoor
