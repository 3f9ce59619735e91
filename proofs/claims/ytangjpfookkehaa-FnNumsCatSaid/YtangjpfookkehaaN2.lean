/- Walks: what l2Digits and NumText of the reference and of the program return. -/
import Derived.Test.YtangjpfookkehaaBld
import Derived.Test.YtangjpfookkehaaShelf
import Derived.Test.YtangjpfookkehaaN1
import Derived.Outline
namespace Go.Proofs.Ytangjpfookkehaa
open Go.RowKit Ilp

theorem mk_app (a b : List UInt8) : (ByteArray.mk a.toArray) ++ (ByteArray.mk b.toArray) = ⟨(a ++ b).toArray⟩ := by
  apply ByteArray.ext; simp

set_option maxHeartbeats 400000 in
theorem specDigits : ∀ (k n : Nat) (w : World), n ≤ k → (n : Int) ≤ 16777215 →
    Calls Try.prog 37 #[.int .i64 (n : Int)] w fun e w' => e = .returned (.string ⟨(digs n).toArray⟩) ∧ w = w' := by
  intro k
  induction k with
  | zero =>
    intro n w h1 h2
    obtain rfl : n = 0 := by omega
    rw [digs_small (by omega)]
    go_enter Try.func37, Try.ntmps37
    go_wp2_with (go_at_call 15; refine (specLetter _ _ (by omega) (by omega)).mono ?_; rintro e w' ⟨rfl, rfl⟩)
    go_ret
    exact ⟨by rw [show numLetter 0 = [letr 0] from numLetter_in (n := 0) (by omega)]; rfl, rfl⟩
  | succ k ih =>
    intro n w h1 h2
    have H1 := Lib.hid h1; clear h1
    have IH := Lib.hid ih; clear ih
    by_cases h : n < 16
    · rw [digs_small h]
      have h' : (n : Int) < 16 := by omega
      go_enter Try.func37, Try.ntmps37
      go_wp2_with (go_at_call 15; refine (specLetter _ _ (by omega) (by omega)).mono ?_; rintro e w' ⟨rfl, rfl⟩)
      go_ret
      exact ⟨by rw [numLetter_in (n := n) (by omega)]; rfl, rfl⟩
    · rw [digs_big h]
      have h' : (16 : Int) ≤ n := by omega
      go_enter Try.func37, Try.ntmps37
      go_wp2_with fail
      refine (specLetter _ _ (by omega) (by omega)).mono ?_; rintro e w' ⟨rfl, rfl⟩
      have hn : n / 16 ≤ k := by have := H1.out; omega
      have HN := Lib.hid hn; clear hn
      have hl := digs_le 5 (n / 16) (by omega)
      have e1 : numLetter (16 + (n : Int) % 16) = [letr (16 + n % 16)] := by
        rw [show (16 + (n : Int) % 16) = ((16 + n % 16 : Nat) : Int) by omega]; exact numLetter_in (by omega)
      rw [e1]; clear e1
      go_wp2_with fail
      rw [show ((n : Int) / 16) = ((n / 16 : Nat) : Int) from by omega]
      refine (IH.out (n / 16) _ HN.out (by omega)).mono ?_; rintro e w' ⟨rfl, rfl⟩
      go_wp2_with fail
      go_ret
      refine ⟨?_, rfl⟩
      show Ending.returned (.string (ByteArray.mk ([letr (16 + n % 16)]).toArray ++ ByteArray.mk (digs (n / 16)).toArray)) = _
      rw [mk_app]; rfl

set_option maxHeartbeats 400000 in
theorem l2InIs (b : Bool) (n : Int) (w : World) (hb : b = numOk n) :
    Calls Try.prog 36 #[.int .i64 n] w fun e w' => e = .returned (.bool b) ∧ w = w' := by
  unfold numOk at hb
  by_cases h : -1000000 ≤ n
  · by_cases h' : n ≤ 1000000
    · obtain rfl : b = true := by rw [hb, decide_eq_true h, decide_eq_true h']; rfl
      clear hb
      go_enter Try.func36, Try.ntmps36
      go_wp2
      go_ret
      exact ⟨rfl, rfl⟩
    · obtain rfl : b = false := by rw [hb, decide_eq_true h, decide_eq_false h']; rfl
      clear hb
      go_enter Try.func36, Try.ntmps36
      go_wp2
      go_ret
      exact ⟨rfl, rfl⟩
  · obtain rfl : b = false := by rw [hb, decide_eq_false h]; rfl
    clear hb
    go_enter Try.func36, Try.ntmps36
    go_wp2
    go_ret
    exact ⟨rfl, rfl⟩

theorem isNumIs (b : Bool) (n : Int) (w : World) (hb : b = numOk n) :
    Calls Try.prog 38 #[.int .i64 n] w fun e w' => e = .returned (.bool b) ∧ w = w' := by
  unfold numOk at hb
  have HB := Lib.hid hb; clear hb
  go_enter Try.func38, Try.ntmps38
  go_wp2_with (go_at_call 35; refine (inIs b _ _ _ _ HB.out).mono ?_; rintro e w' ⟨rfl, rfl⟩)
  go_ret
  exact ⟨rfl, rfl⟩

theorem numOk_of {n : Int} (h : numOk n = true) : -1000000 ≤ n ∧ n ≤ 1000000 := by simpa [numOk] using h

set_option maxHeartbeats 400000 in
theorem specNumText (n : Int) (w : World) : Calls Try.prog 17 #[.int .i64 n] w fun e w' => e = .returned (.string ⟨(numText n).toArray⟩) ∧ w = w' := by
  cases h : numOk n with
  | false =>
    rw [numText_no h]
    have HB := Lib.hid h.symm; clear h
    go_enter Try.func17, Try.ntmps17
    go_wp2_with (go_at_call 36; refine (l2InIs false _ _ HB.out).mono ?_; rintro e w' ⟨rfl, rfl⟩)
    go_ret
    exact ⟨rfl, rfl⟩
  | true =>
    rw [numText_ok h]
    have hb := numOk_of h
    have hz := zig_le h
    have HB := Lib.hid h.symm; clear h
    by_cases h0 : n < 0
    · have e1 : zig n = (-2 * n + 1).toNat := by unfold zig; rw [if_pos h0]
      have E1 := Lib.hid e1; clear e1
      have HZ := Lib.hid hz; clear hz
      go_enter Try.func17, Try.ntmps17
      go_wp2_with (go_at_call 36; refine (l2InIs true _ _ HB.out).mono ?_; rintro e w' ⟨rfl, rfl⟩)
      rw [show (-2 * n + 1 : Int) = ((zig n : Nat) : Int) by rw [E1.out]; omega]
      refine (specDigits _ (zig n) _ (Nat.le_refl _) (by have := HZ.out; omega)).mono ?_; rintro e w' ⟨rfl, rfl⟩
      go_wp2_with fail
      go_ret
      exact ⟨rfl, rfl⟩
    · have e1 : zig n = (2 * n).toNat := by unfold zig; rw [if_neg h0]
      have E1 := Lib.hid e1; clear e1
      have HZ := Lib.hid hz; clear hz
      go_enter Try.func17, Try.ntmps17
      go_wp2_with (go_at_call 36; refine (l2InIs true _ _ HB.out).mono ?_; rintro e w' ⟨rfl, rfl⟩)
      rw [show (2 * n : Int) = ((zig n : Nat) : Int) by rw [E1.out]; omega]
      refine (specDigits _ (zig n) _ (Nat.le_refl _) (by have := HZ.out; omega)).mono ?_; rintro e w' ⟨rfl, rfl⟩
      go_wp2_with fail
      go_ret
      exact ⟨rfl, rfl⟩
end Go.Proofs.Ytangjpfookkehaa
