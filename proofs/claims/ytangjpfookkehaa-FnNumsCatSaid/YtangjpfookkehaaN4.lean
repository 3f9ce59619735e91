/- Walks: what NumsText of the reference and of the program returns. -/
import Derived.Test.YtangjpfookkehaaN3
import Derived.Test.YtangjpfookkehaaInts
namespace Go.Proofs.Ytangjpfookkehaa
open Go.RowKit Ilp

/-- The letters of the first k numbers. -/
def catTo (xs : List Int) (k : Nat) : List UInt8 := (xs.take k).flatMap numText
theorem catTo_zero (xs : List Int) : catTo xs 0 = [] := by simp [catTo]
theorem catTo_succ (xs : List Int) (k : Nat) (h : k < xs.length) : catTo xs (k + 1) = catTo xs k ++ numText xs[k] := by
  unfold catTo; rw [List.take_succ_eq_append_getElem h, List.flatMap_append]; simp
theorem catTo_le (xs : List Int) (k : Nat) : (catTo xs k).length ≤ 6 * k := by
  have := flat_le (xs.take k); unfold catTo; have := List.length_take_le k xs; omega
/-- The first k numbers are within their bounds. -/
def okTo (xs : List Int) (k : Nat) : Prop := ∀ i (h : i < xs.length), i < k → numOk xs[i] = true
theorem okTo_zero (xs : List Int) : okTo xs 0 := fun i h h' => by omega
theorem okTo_succ {xs : List Int} {k : Nat} (h : okTo xs k) (hk : k < xs.length) (hn : numOk xs[k] = true) : okTo xs (k + 1) := fun i hi h' => by
  by_cases e : i = k
  · subst e; exact hn
  · exact h i hi (by omega)
theorem numsText_all {xs : List Int} (h : okTo xs xs.length) : numsText xs = catTo xs xs.length := by
  rw [numsText_of (fun n hn => by obtain ⟨i, hi, rfl⟩ := List.getElem_of_mem hn; exact h i hi hi)]
  simp [catTo]
theorem numsText_bad {xs : List Int} {k : Nat} (hk : k < xs.length) (hn : numOk xs[k] = false) : numsText xs = [] := by
  apply numsText_no
  rw [List.all_eq_false]
  exact ⟨xs[k], List.getElem_mem hk, by simp [hn]⟩

set_option maxHeartbeats 1000000 in
theorem specNumsText (A : Option Addr) (c n : Nat) (xs : List Int) (w : World) (hr : Row w w.heap.size A (ints xs)) (hl : Hid (xs.length = n)) (hn : (n : Int) ≤ 1048576) :
    Calls Try.prog 21 #[.slice A n c] w fun e w' => e = .returned (.string ⟨(numsText xs).toArray⟩) ∧ w = w' := by
  go_enter Try.func21, Try.ntmps21
  go_wp2_with fail
  go_loop [3, 4] (fun s v => ∃ k : Nat, v = .int .i64 (k : Int) ∧ k ≤ n ∧ s = .string ⟨(catTo xs k).toArray⟩ ∧ okTo xs k) (fun _ v => n - (intOf v).toNat)
  case atStart => exact ⟨0, rfl, Nat.zero_le _, by rw [catTo_zero], okTo_zero _⟩
  case round =>
    obtain ⟨k, rfl, hk, rfl, hok⟩ := hrel
    have HO := Lib.hid hok; clear hok
    have hle := catTo_le xs k
    by_cases hlt : k < n
    · have hx : k < xs.length := by rw [hl.out]; exact hlt
      obtain ⟨b, o, rfl, hbb, hc⟩ := hr.at_ (i := k) (by rw [ints_length]; exact hx)
      have hc1 : w.cell? ⟨b, o + k, none⟩ = some (.int .i64 xs[k]) := by rw [hc]; simp [ints]
      clear hc
      have HX := Lib.hid hx
      cases hnk : numOk xs[k] with
      | false =>
        have HBad := Lib.hid (numsText_bad hx hnk)
        have HB := Lib.hid hnk.symm; clear hnk
        go_wp2_with (go_at_call 36; refine (l2InIs false _ _ HB.out).mono ?_; rintro e w' ⟨rfl, rfl⟩)
        go_ret
        exact ⟨by rw [HBad.out]; rfl, rfl⟩
      | true =>
        have HB := Lib.hid hnk.symm; clear hnk
        have h6 := numText_len xs[k]
        go_wp2_with fail
        refine (l2InIs true _ _ HB.out).mono ?_; rintro e w' ⟨rfl, rfl⟩
        go_wp2_with fail
        refine (specNumText _ _).mono ?_; rintro e w' ⟨rfl, rfl⟩
        go_wp2_with fail
        go_round
        case rel =>
          refine ⟨k + 1, by go_num, by omega, ?_, okTo_succ HO.out hx HB.out.symm⟩
          rw [catTo_succ xs k hx, ← mk_app]
        case measure => simp [intOf]; omega
    · obtain rfl : k = n := by omega
      have hall : numsText xs = catTo xs k := by have h := HO.out; rw [← hl.out] at h ⊢; exact numsText_all h
      have HAll := Lib.hid hall; clear hall
      go_wp2_with fail
      go_ret
      exact ⟨by rw [HAll.out]; rfl, rfl⟩

set_option maxHeartbeats 1000000 in
theorem implNumsText (A : Option Addr) (c n : Nat) (xs : List Int) (w : World) (hr : Row w w.heap.size A (ints xs)) (hl : Hid (xs.length = n)) (hn : (n : Int) ≤ 1048576) :
    Calls Try.prog 23 #[.slice A n c] w fun e w' => e = .returned (.string ⟨(numsText xs).toArray⟩) ∧ Below w.heap.size w w' := by
  go_enter Try.func23, Try.ntmps23
  go_wp2_with fail
  go_loopw [8] (fun v wr => ∃ k : Nat, v = .int .i64 (k : Int) ∧ k ≤ n ∧ Lib.IsBuilder 49 5 w.heap.size w.heap.size (Lib.byteCells (catTo xs k)) wr ∧ okTo xs k ∧ Below w.heap.size w wr) (fun v _ => n - (intOf v).toNat)
  case atStart => exact ⟨0, rfl, Nat.zero_le _, by rw [catTo_zero]; exact Lib.fresh_isBuilder _ _ _, okTo_zero _, (Below.refl _ _).alloc (Nat.le_refl _) _⟩
  case round =>
    obtain ⟨k, rfl, hk, hI, hok, hbw⟩ := hrel
    have HO := Lib.hid hok; clear hok
    have HI := Lib.hid hI; clear hI
    have hle := catTo_le xs k
    have hsz := hbw.size
    by_cases hlt : k < n
    · have hx : k < xs.length := by rw [hl.out]; exact hlt
      obtain ⟨b, o, rfl, hbb, hc⟩ := hr.at_ (i := k) (by rw [ints_length]; exact hx)
      have hc1 : wr.cell? ⟨b, o + k, none⟩ = some (.int .i64 xs[k]) := by rw [hbw.cell hbb, hc]; simp [ints]
      clear hc
      have HX := Lib.hid hx
      cases hnk : numOk xs[k] with
      | false =>
        have HBad := Lib.hid (numsText_bad hx hnk)
        have HB := Lib.hid hnk.symm; clear hnk
        go_wp2_with (go_at_call 38; refine (isNumIs false _ _ HB.out).mono ?_; rintro e w' ⟨rfl, rfl⟩)
        go_ret
        exact ⟨by rw [HBad.out]; rfl, hbw⟩
      | true =>
        have HB := Lib.hid hnk.symm; clear hnk
        have h6 := numText_len xs[k]
        go_wp2_with fail
        refine (isNumIs true _ _ HB.out).mono ?_; rintro e w' ⟨rfl, rfl⟩
        go_wp2_with fail
        refine (implNumText _ _).mono ?_; rintro e w1 ⟨rfl, hb1⟩
        have hs1 := hb1.size
        have hI1 : Lib.IsBuilder 49 5 w.heap.size w.heap.size (Lib.byteCells (catTo xs k)) w1 := bld_below HI.out hb1
        have HI1 := Lib.hid hI1; clear hI1
        go_wp2_with fail
        refine (writeString _ _ _ _ _ HI1.out ?_ ?_).mono ?_
        · rw [Lib.byteCells_length]; simp [ByteArray.size]; omega
        · omega
        rintro e w2 ⟨rfl, hI2, hb2⟩
        rw [Lib.strCells_eq, ← Lib.byteCells_append] at hI2
        have HI2 := Lib.hid hI2; clear hI2
        go_wp2_with fail
        go_roundw
        case rel =>
          refine ⟨k + 1, by go_num, by omega, ?_, okTo_succ HO.out hx HB.out.symm, (hbw.trans (hb1.mono hsz)).trans hb2⟩
          rw [catTo_succ xs k hx]; exact HI2.out
        case measure => simp [intOf]; omega
    · obtain rfl : k = n := by omega
      have hall : numsText xs = catTo xs k := by have h := HO.out; rw [← hl.out] at h ⊢; exact numsText_all h
      have HAll := Lib.hid hall; clear hall
      go_wp2_with fail
      refine (Try.Builder_String_any _ _ _ _ HI.out (by omega)).mono ?_
      rintro e w2 ⟨rfl, hb2⟩
      go_wp2_with fail
      go_ret
      exact ⟨by rw [HAll.out]; rfl, hbw.trans hb2⟩
end Go.Proofs.Ytangjpfookkehaa
