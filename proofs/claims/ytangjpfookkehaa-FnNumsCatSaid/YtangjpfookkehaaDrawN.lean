/- Walks: drawn numbers. -/
import Derived.Test.YtangjpfookkehaaDraw2
import Derived.Laws.AppendOwn
namespace Go.Proofs.Ytangjpfookkehaa
open Go.RowKit
set_option linter.unusedVariables false

def someNums : List Int := [0, 1, -1, 7, 8, -8, 15, 16, 127, 128, -1000, 1000000, -1000000, 1000001, -1000001]
def IsSmall (v : Value) : Prop := ∃ x : Int, v = .int .i64 x ∧ -2000000 ≤ x ∧ x ≤ 2000000

theorem keep_alloc {g : Nat} {u w : World} (h : Keep g u w) (o : Obj) : Keep g u (w.alloc o) :=
  h.trans (Keep.of ((Below.refl _ _).alloc (Nat.le_refl _) _))

set_option maxHeartbeats 1000000 in
theorem l2Num (g p : Nat) (w : World) (h : Rd w g p) (hp : (p : Int) ≤ 1000000000) :
    Calls Try.prog 43 #[.pointer (some ⟨g, 0, none⟩)] w (Drawn g p 1 IsSmall w) := by
  have hlt := h.lt
  have hb : Blk (w.alloc (.cells (ints someNums).toArray 3)) w.heap.size 3 (ints someNums) := Blk.alloc_ _ _ _
  have hR := h.keep ((Below.refl _ _).alloc (Nat.le_refl _) (.cells (ints someNums).toArray 3))
  have HB := Lib.hid hb; clear hb
  have HR := Lib.hid hR; clear hR
  have HG : Hid (w.heap.size ≠ g) := fun e => by omega
  go_enter Try.func43, Try.ntmps43
  go_wp2_with fail
  refine (numOf g p w.heap.size 15 15 someNums _ HR.out hp HB.out HG rfl (by omega) (by omega)).mono ?_
  rintro e w' ⟨v, p', rfl, ⟨x, hx, rfl⟩, h1, h2, h3, h4⟩
  have hsm : -2000000 ≤ x ∧ x ≤ 2000000 := by
    simp only [someNums, List.mem_cons, List.not_mem_nil, or_false] at hx; omega
  have R : Drawn g p 1 IsSmall w (.returned (.int .i64 x)) w' := ⟨_, p', rfl, ⟨x, rfl, hsm⟩, h1, h2, h3, (keep_alloc (Keep.refl g w) _).trans h4⟩
  have HR2 := Lib.hid R; clear R hx
  go_wp2_with fail
  go_ret
  exact HR2.out

set_option maxHeartbeats 1000000 in
theorem drawNumLetter (A : Option Addr) (n c : Nat) (z : List Int) (w : World) (hz : IsRow .u8 w A n c z) :
    Calls Try.prog 19 #[.slice A n c] w fun e w' => (∃ v, e = .returned v ∧ IsSmall v) ∧ Below w.heap.size w w' := by
  go_enter Try.func19, Try.ntmps19
  go_wp2_with fail
  refine (openIt A n c z w hz).mono ?_
  rintro e w1 ⟨rfl, h1, hb1⟩
  have H1 := Lib.hid h1; clear h1
  go_wp2_with fail
  refine (pick w.heap.size 0 36 w1 H1.out (by omega) (by omega) (by omega)).mono ?_
  rintro e w2 ⟨r, rfl, hr0, hr1, hR, hK, hs⟩
  have hr2 := hr1 (by omega)
  have hB := hb1.trans (hK.below (Nat.le_refl _) hb1.size)
  have R : (∃ v, Ending.returned (.int .i64 ((r : Int) - 2)) = .returned v ∧ IsSmall v) ∧ Below w.heap.size w w2 := ⟨⟨_, rfl, _, rfl, by omega, by omega⟩, hB⟩
  have HR := Lib.hid R; clear R hr0 hr1 hs
  go_wp2_with fail
  go_ret
  exact HR.out

set_option maxHeartbeats 1000000 in
theorem drawNumText (A : Option Addr) (n c : Nat) (z : List Int) (w : World) (hz : IsRow .u8 w A n c z) :
    Calls Try.prog 20 #[.slice A n c] w fun e w' => (∃ v, e = .returned v ∧ IsSmall v) ∧ Below w.heap.size w w' := by
  go_enter Try.func20, Try.ntmps20
  go_wp2_with fail
  refine (openIt A n c z w hz).mono ?_
  rintro e w1 ⟨rfl, h1, hb1⟩
  have H1 := Lib.hid h1; clear h1
  go_wp2_with fail
  refine (l2Num w.heap.size 0 w1 H1.out (by omega)).mono ?_
  rintro e w2 ⟨v, p', rfl, ⟨x, rfl, h2, h3⟩, _, _, hR, hK⟩
  have hB := hb1.trans (hK.below (Nat.le_refl _) hb1.size)
  have R : (∃ v, Ending.returned (.int .i64 x) = .returned v ∧ IsSmall v) ∧ Below w.heap.size w w2 := ⟨⟨_, rfl, _, rfl, by omega, by omega⟩, hB⟩
  have HR := Lib.hid R; clear R
  go_wp2_with fail
  go_ret
  exact HR.out
end Go.Proofs.Ytangjpfookkehaa
