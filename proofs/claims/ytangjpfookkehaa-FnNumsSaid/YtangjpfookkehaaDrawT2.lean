/- Walks: DrawNumsRead, DrawNumRead. -/
import Derived.Test.YtangjpfookkehaaDrawT
namespace Go.Proofs.Ytangjpfookkehaa
open Go.RowKit Ilp
set_option linter.unusedVariables false

def SomeText (w : World) (e : Ending) (w' : World) : Prop := ∃ s : ByteArray, e = .returned (.string s) ∧ s.size ≤ 26 ∧ Below w.heap.size w w'
def SomePlace (w : World) (e : Ending) (w' : World) : Prop := ∃ (s : ByteArray) (a : Int), e = .returned (.tuple #[.string s, .int .i64 a]) ∧ s.size ≤ 26 ∧ -1 ≤ a ∧ a ≤ 30 ∧ Below w.heap.size w w'

set_option maxHeartbeats 1000000 in
theorem drawNumsRead (A : Option Addr) (n c : Nat) (z : List Int) (w : World) (hz : IsRow .u8 w A n c z) :
    Calls Try.prog 29 #[.slice A n c] w (SomeText w) := by
  go_enter Try.func29, Try.ntmps29
  go_wp2_with fail
  refine (openIt A n c z w hz).mono ?_
  rintro e w1 ⟨rfl, h1, hb1⟩
  have H1 := Lib.hid h1; clear h1
  go_wp2_with fail
  refine (l2Torn w.heap.size 0 w1 H1.out (by omega)).mono ?_
  rintro e w2 ⟨v, p', rfl, ⟨s, rfl, hs⟩, _, _, hR, hK⟩
  have R : SomeText w (.returned (.string s)) w2 := ⟨s, rfl, hs, hb1.trans (hK.below (Nat.le_refl _) hb1.size)⟩
  have HR := Lib.hid R; clear R hR hK
  go_wp2_with fail
  go_ret
  exact HR.out

set_option maxHeartbeats 1000000 in
theorem drawNumRead (A : Option Addr) (n c : Nat) (z : List Int) (w : World) (hz : IsRow .u8 w A n c z) :
    Calls Try.prog 30 #[.slice A n c] w (SomePlace w) := by
  go_enter Try.func30, Try.ntmps30
  go_wp2_with fail
  refine (openIt A n c z w hz).mono ?_
  rintro e w1 ⟨rfl, h1, hb1⟩
  have H1 := Lib.hid h1; clear h1
  go_wp2_with fail
  refine (l2Torn w.heap.size 0 w1 H1.out (by omega)).mono ?_
  rintro e w2 ⟨v, p', rfl, ⟨s, rfl, hs⟩, hp1, hp2, hR, hK⟩
  have hB2 := hb1.trans (hK.below (Nat.le_refl _) hb1.size)
  have H2 := Lib.hid hR; clear hR hK
  have hs2 := hB2.size
  go_wp2_with fail
  refine (pick w.heap.size p' ((s.size : Int) + 2) w2 H2.out (by omega) (by omega) (by omega)).mono ?_
  rintro e w3 ⟨r, rfl, hr0, hr1, hR, hK, hq⟩
  have hr2 := hr1 (by omega)
  have hB3 := hB2.trans (hK.below (Nat.le_refl _) hs2)
  have H3 := Lib.hid hR; clear hR hK hr0 hr1 hq
  have hs3 := hB3.size
  go_wp2_with fail
  refine (pick w.heap.size (p' + 1) 9 w3 H3.out (by omega) (by omega) (by omega)).mono ?_
  rintro e w4 ⟨r4, rfl, hr0, hr1, hR, hK, hq⟩
  have hr4 := hr1 (by omega)
  have hB4 := hB3.trans (hK.below (Nat.le_refl _) hs3)
  have R : SomePlace w (.returned (.tuple #[.string s, .int .i64 ((r : Int) - (r4 : Int) / 8)])) w4 := ⟨s, _, rfl, hs, by omega, by omega, hB4⟩
  have HR := Lib.hid R; clear R hR hK hr0 hr1 hq
  go_wp2_with fail
  go_ret2
  exact HR.out
end Go.Proofs.Ytangjpfookkehaa
