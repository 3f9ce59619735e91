/- Walks: the reader opened; one of a list of numbers, of texts. -/
import Derived.Test.YtlhmebdljamgkaaDoorDraw
import Derived.Laws.MakeOwn
namespace Go.Proofs.YtlhmebdljamgkaaDoor
open Go.RowKit
set_option linter.unusedVariables false

/-- A draw: the reader in block g has gone on by at most k bytes; nothing else that was there has turned. -/
def Drawn (g p k : Nat) (P : Value → Prop) (w : World) (e : Ending) (w' : World) : Prop :=
  ∃ v p', e = .returned v ∧ P v ∧ p ≤ p' ∧ p' ≤ p + k ∧ Rd w' g p' ∧ Keep g w w'

theorem Row.bytes_of {w : World} {B : Nat} {A : Option Addr} {zs : List Int} (h : Row w B A (zs.map (.int .u8))) (k : Nat) : Row w B A ((zs.take k).map (.int .u8)) := by
  have := h.take k; rw [← List.map_take] at this; exact this

set_option maxHeartbeats 1000000 in
theorem openIt (A : Option Addr) (n c : Nat) (z : List Int) (w : World) (hz : IsRow .u8 w A n c z) :
    Calls Tryd.prog 38 #[.slice A n c] w fun e w' => e = .returned (.pointer (some ⟨w.heap.size, 0, none⟩)) ∧ Rd w' w.heap.size 0 ∧ Below w.heap.size w w' := by
  obtain ⟨hr, hl, hnc, hn, hc, hw⟩ := hz.row
  generalize z.take n = zs at hr hl hw
  have hw' : ∀ x ∈ zs, 0 ≤ x ∧ x ≤ 255 := fun x hx => wf_u8 (hw x hx)
  clear hz hw
  by_cases hbig : (2000 : Int) < (n : Int)
  · have R : Rd (w.alloc (.cells #[.slice A 2000 c, .int .i64 0] 67)) w.heap.size 0 :=
      ⟨A, 2000, c, zs.take 2000, by simp; omega, by omega, Blk.alloc_ w _ [.slice A 2000 c, .int .i64 0], (hr.bytes_of 2000).below ((Below.refl _ _).alloc (Nat.le_refl _) _), fun x hx => hw' x (List.mem_of_mem_take hx)⟩
    have HR := Lib.hid R; clear R
    have h1 : 2000 ≤ c := by omega
    clear hl
    go_enter Tryd.func38, Tryd.ntmps38
    go_wp2
    go_ret
    exact ⟨rfl, HR.out, (Below.refl _ _).alloc (Nat.le_refl _) _⟩
  · have R : Rd (w.alloc (.cells #[.slice A n c, .int .i64 0] 67)) w.heap.size 0 :=
      ⟨A, n, c, zs, hl, by omega, Blk.alloc_ w _ [.slice A n c, .int .i64 0], hr.below ((Below.refl _ _).alloc (Nat.le_refl _) _), hw'⟩
    have HR := Lib.hid R; clear R
    clear hl
    go_enter Tryd.func38, Tryd.ntmps38
    go_wp2
    go_ret
    exact ⟨rfl, HR.out, (Below.refl _ _).alloc (Nat.le_refl _) _⟩

end Go.Proofs.YtlhmebdljamgkaaDoor
