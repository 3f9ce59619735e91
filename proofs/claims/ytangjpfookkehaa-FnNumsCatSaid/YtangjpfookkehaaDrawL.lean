/- Walk: drawn lists of numbers. -/
import Derived.Test.YtangjpfookkehaaDrawN
import Derived.Test.YtangjpfookkehaaOwn
import Derived.Test.YtangjpfookkehaaInts
import Derived.Outline
namespace Go.Proofs.Ytangjpfookkehaa
open Go.RowKit
set_option linter.unusedVariables false

/-- A list of at most k small numbers, freshly made. -/
def SomeInts (k : Nat) (w : World) (e : Ending) (w' : World) : Prop :=
  ∃ (A : Option Addr) (n c : Nat) (xs : List Int), e = .returned (.slice A n c) ∧ n ≤ c ∧ xs.length = n ∧ n ≤ k ∧ (∀ x ∈ xs, -2000000 ≤ x ∧ x ≤ 2000000) ∧ Row w' w'.heap.size A (ints xs) ∧ Below w.heap.size w w'

set_option maxHeartbeats 2000000 in
theorem drawNumsText (A : Option Addr) (n c : Nat) (z : List Int) (w : World) (hz : IsRow .u8 w A n c z) :
    Calls Try.prog 27 #[.slice A n c] w (SomeInts 4 w) := by
  obtain ⟨i0, hi, hz0, hz1, hz2⟩ := info_parts intInfo
  go_enter Try.func27, Try.ntmps27
  go_wp2_with fail
  refine (openIt A n c z w hz).mono ?_
  rintro e w1 ⟨rfl, h1, hb1⟩
  have H1 := Lib.hid h1; clear h1
  have hlt := H1.out.lt
  have hs1 := hb1.size
  go_wp2_with fail
  refine (pick w.heap.size 0 5 _ (rd_alloc H1.out _) (by omega) (by omega) (by omega)).mono ?_
  rintro e w2 ⟨r, rfl, hr0, hr1, hR, hK, hs⟩
  have hr2 := hr1 (by omega)
  have hown : w2.ownsRow w1.heap.size 3 1 (.slice (some ⟨w1.heap.size, 0, none⟩) 0 0) 0 (ints []) :=
    own_keep (World.ownsRow_made w1 #[] 0 (Nat.le_refl _) (by unfold maxLen; omega) rfl) hK hlt
  have hB2 : Below w.heap.size w w2 := (hb1.alloc hs1 _).trans (hK.below (Nat.le_refl _) (by simp; omega))
  have HO := Lib.hid hown
  have HR := Lib.hid hR
  have hs2 : w1.heap.size < w2.heap.size := by rw [hs]; simp
  clear hr0 hr1 hs hown hR
  go_wp2_with fail
  go_loopw [4, 5] (fun v i wr => ∃ (xs : List Int) (k p : Nat), i = .int .i64 (k : Int) ∧ xs.length + k ≤ 4 ∧ p ≤ 1 + xs.length ∧ (∀ x ∈ xs, -2000000 ≤ x ∧ x ≤ 2000000) ∧ wr.ownsRow w1.heap.size 3 1 v xs.length (ints xs) ∧ Rd wr w.heap.size p ∧ Below w.heap.size w wr ∧ w1.heap.size < wr.heap.size) (fun _ i _ => (intOf i).toNat)
  case atStart => exact ⟨[], r, 1, rfl, by simp; omega, by omega, by simp, HO.out, HR.out, hB2, hs2⟩
  case round =>
    obtain ⟨xs, k, p, rfl, hk, hp, hsm, hown, hR, hbw, hsz⟩ := hrel
    have HO := Lib.hid hown; clear hown
    have HR := Lib.hid hR; clear hR
    have HS := Lib.hid hsm; clear hsm
    by_cases hk0 : k = 0
    · subst hk0
      obtain ⟨A', c', hv, hnc, hrow⟩ := own_row HO.out
      subst hv
      have R : SomeInts 4 w (.returned (.slice A' xs.length c')) wr := ⟨A', xs.length, c', xs, rfl, hnc, rfl, by omega, HS.out, hrow, hbw⟩
      have HRes := Lib.hid R
      clear R hrow
      go_wp2_with fail
      go_ret
      exact HRes.out
    · have hk1 : (0 : Int) < k := by omega
      go_wp2_with fail
      refine (l2Num w.heap.size p wr HR.out (by omega)).mono ?_
      rintro e w3 ⟨v3, p', rfl, ⟨x, rfl, hx0, hx1⟩, hp1, hp2, hR3, hK3⟩
      have hs3 := hK3.size
      have HR3 := Lib.hid hR3; clear hR3
      have hown3 := own_keep HO.out hK3 hlt
      have hB3 : Below w.heap.size w w3 := hbw.trans (hK3.below (Nat.le_refl _) (by omega))
      go_wp2_with (at_builtin; refine wpList_append_own _ rfl _ _ 28 rfl w1.heap.size 3 i0 (.int .i64 0) 1 8 Try.underlying28 hi hz0 hz1 hz2 rfl (by decide) _ _ _ rfl (hown3.alloc _) ⟨w3.heap.size, 0, none⟩ 1 1 [.int .i64 x] rfl rfl ?c1 ?c2 ?c3 ?c4 ?c5 ?_)
      case c1 =>
        intro j u hj
        match j, hj with
        | 0, hj => simp at hj; subst hj; simp [Addr.add]
      case c2 => intro u hu; simp at hu; subst hu; rfl
      case c3 => unfold maxLen; omega
      case c4 => omega
      case c5 => simp; omega
      intro v' w4 hown' hgrow _
      have hs4 := hgrow.size
      simp only [World.size_alloc] at hs4
      have hrow4 : ∀ k, Value.ownBlock v' = some k → w.heap.size < k := fun k hk => by have := (hown'.lt k hk).1; omega
      have hR4 : Rd w4 w.heap.size p' := rd_grown (rd_alloc HR3.out _) hgrow (fun k hk => by have := (HO.out.lt k (by first | exact hk | simpa using hk)).1; omega)
      have hB4 : Below w.heap.size w w4 := (hB3.alloc (by omega) _).grown hgrow (by simp; omega) (fun k hk => by have := (HO.out.lt k (by first | exact hk | simpa using hk)).1; omega)
      have hown4 : w4.ownsRow w1.heap.size 3 1 v' (xs ++ [x]).length (ints (xs ++ [x])) := by simpa [ints] using hown'
      have HO4 := Lib.hid hown4
      clear hown' hown4 hown3 hrow4
      go_wp2_with fail
      go_roundw
      case rel =>
        refine ⟨xs ++ [x], k - 1, p', ?_, by simp; omega, by simp; omega, fun y hy => ?_, HO4.out, hR4, hB4, by omega⟩
        · congr 1; omega
        · rcases List.mem_append.1 hy with hy | hy
          · exact HS.out y hy
          · rw [List.mem_singleton] at hy; subst hy; exact ⟨hx0, hx1⟩
      case measure => simp [intOf]; omega
end Go.Proofs.Ytangjpfookkehaa
