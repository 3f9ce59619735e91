/- Walks: the reader opened; one of a list of numbers, of texts. -/
import Derived.Test.YtfjmjlpobbjjdaaDoorDraw
import Derived.Laws.MakeOwn
namespace Go.Proofs.YtfjmjlpobbjjdaaDoor
open Go.RowKit
set_option linter.unusedVariables false

/-- A draw: the reader in block g has gone on by at most k bytes; nothing else that was there has turned. -/
def Drawn (g p k : Nat) (P : Value → Prop) (w : World) (e : Ending) (w' : World) : Prop :=
  ∃ v p', e = .returned v ∧ P v ∧ p ≤ p' ∧ p' ≤ p + k ∧ Rd w' g p' ∧ Keep g w w'

theorem Row.bytes_of {w : World} {B : Nat} {A : Option Addr} {zs : List Int} (h : Row w B A (zs.map (.int .u8))) (k : Nat) : Row w B A ((zs.take k).map (.int .u8)) := by
  have := h.take k; rw [← List.map_take] at this; exact this

set_option maxHeartbeats 1000000 in
theorem openIt (A : Option Addr) (n c : Nat) (z : List Int) (w : World) (hz : IsRow .u8 w A n c z) :
    Calls Tryd.prog 44 #[.slice A n c] w fun e w' => e = .returned (.pointer (some ⟨w.heap.size, 0, none⟩)) ∧ Rd w' w.heap.size 0 ∧ Below w.heap.size w w' := by
  obtain ⟨hr, hl, hnc, hn, hc, hw⟩ := hz.row
  generalize z.take n = zs at hr hl hw
  have hw' : ∀ x ∈ zs, 0 ≤ x ∧ x ≤ 255 := fun x hx => wf_u8 (hw x hx)
  clear hz hw
  by_cases hbig : (2000 : Int) < (n : Int)
  · have R : Rd (w.alloc (.cells #[.slice A 2000 c, .int .i64 0] 90)) w.heap.size 0 :=
      ⟨A, 2000, c, zs.take 2000, by simp; omega, by omega, Blk.alloc_ w _ [.slice A 2000 c, .int .i64 0], (hr.bytes_of 2000).below ((Below.refl _ _).alloc (Nat.le_refl _) _), fun x hx => hw' x (List.mem_of_mem_take hx)⟩
    have HR := Lib.hid R; clear R
    have h1 : 2000 ≤ c := by omega
    clear hl
    go_enter Tryd.func44, Tryd.ntmps44
    go_wp2
    go_ret
    exact ⟨rfl, HR.out, (Below.refl _ _).alloc (Nat.le_refl _) _⟩
  · have R : Rd (w.alloc (.cells #[.slice A n c, .int .i64 0] 90)) w.heap.size 0 :=
      ⟨A, n, c, zs, hl, by omega, Blk.alloc_ w _ [.slice A n c, .int .i64 0], hr.below ((Below.refl _ _).alloc (Nat.le_refl _) _), hw'⟩
    have HR := Lib.hid R; clear R
    clear hl
    go_enter Tryd.func44, Tryd.ntmps44
    go_wp2
    go_ret
    exact ⟨rfl, HR.out, (Below.refl _ _).alloc (Nat.le_refl _) _⟩

set_option maxHeartbeats 1000000 in
theorem numOf (g p g' n c : Nat) (xs : List Int) (w : World) (h : Rd w g p) (hp : (p : Int) ≤ 1000000000) (hb : Blk w g' 3 (ints xs)) (hg : Hid (g' ≠ g)) (hl : Hid (xs.length = n)) (h0 : 0 < n) (hn : (n : Int) ≤ 1000000) :
    Calls Tryd.prog 47 #[.pointer (some ⟨g, 0, none⟩), .slice (some ⟨g', 0, none⟩) n c] w (Drawn g p 1 (fun v => ∃ x ∈ xs, v = .int .i64 x) w) := by
  go_enter Tryd.func47, Tryd.ntmps47
  go_wp2_with fail
  refine (pick g p n w h hp (by omega) (by omega)).mono ?_
  rintro e w' ⟨r, rfl, hr0, hr1, hR, hK, hs⟩
  have hr2 := hr1 (by omega)
  have hx : r < xs.length := by rw [hl.out]; omega
  have hc : w'.cell? ⟨g', r, none⟩ = some (.int .i64 xs[r]) := by rw [(hK.blk hb hg.out).cell, ints_get hx]
  have R : Drawn g p 1 (fun v => ∃ x ∈ xs, v = .int .i64 x) w (.returned (.int .i64 xs[r])) w' :=
    ⟨_, p + 1, rfl, ⟨xs[r], List.getElem_mem hx, rfl⟩, by omega, by omega, hR, hK⟩
  have HR := Lib.hid R; clear R hr0 hr1 hs
  have HX := Lib.hid hx
  go_wp2_with fail
  go_ret
  exact HR.out
end Go.Proofs.YtfjmjlpobbjjdaaDoor
