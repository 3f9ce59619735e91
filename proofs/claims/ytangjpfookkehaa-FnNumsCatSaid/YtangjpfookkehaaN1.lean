/- Walks: what NumLetter, l2Digits and NumText of the reference and of the program return. -/
import Derived.Test.YtangjpfookkehaaP2
import Derived.Test.YtangjpfookkehaaGround
import Derived.WalkKit
import Derived.ProofKit
import Derived.Lib.Hide
namespace Go.Proofs.Ytangjpfookkehaa
open Go.RowKit Ilp

def numLetter (d : Int) : List UInt8 := if 0 ≤ d ∧ d ≤ 31 then [letr d.toNat] else []

theorem extract_letter : ∀ d, d < 32 → (ByteArray.mk #[97, 98, 99, 100, 101, 102, 103, 104, 105, 106, 107, 108, 109, 110, 111, 112, 65, 66, 67, 68, 69, 70, 71, 72, 73, 74, 75, 76, 77, 78, 79, 80]).extract d (d + 1) = ⟨#[letr d]⟩ := by decide

theorem cutLetter (n : Nat) (hn : n ≤ 31) (w : World) : (Instr.slice 9 (.string ⟨#[97, 98, 99, 100, 101, 102, 103, 104, 105, 106, 107, 108, 109, 110, 111, 112, 65, 66, 67, 68, 69, 70, 71, 72, 73, 74, 75, 76, 77, 78, 79, 80]⟩) (some (.int .i64 (n : Int))) (some (.int .i64 ((n : Int) + 1))) none).run Try.prog w = .ok (.string ⟨#[letr n]⟩) w := by
  have h := run_slice_string (P := Try.prog) w 9 (ByteArray.mk #[97, 98, 99, 100, 101, 102, 103, 104, 105, 106, 107, 108, 109, 110, 111, 112, 65, 66, 67, 68, 69, 70, 71, 72, 73, 74, 75, 76, 77, 78, 79, 80]) .i64 .i64 (n : Int) ((n : Int) + 1) Try.underlying9 (by omega) (by omega) (by show _ ≤ ((32 : Nat) : Int); omega)
  rw [show (n : Int).toNat = n from rfl, show ((n : Int) + 1).toNat = n + 1 by omega, extract_letter n (by omega)] at h
  exact h

theorem numLetter_in {n : Nat} (h : n ≤ 31) : numLetter n = [letr n] := by unfold numLetter; rw [if_pos (by omega)]; rfl
theorem numLetter_out {d : Int} (h : d < 0 ∨ 31 < d) : numLetter d = [] := by unfold numLetter; rw [if_neg (by omega)]

set_option maxHeartbeats 400000 in
theorem specLetter (d : Int) (w : World) (h0 : -9223372036854775808 ≤ d) (h1 : d ≤ 9223372036854775807) :
    Calls Try.prog 15 #[.int .i64 d] w fun e w' => e = .returned (.string ⟨(numLetter d).toArray⟩) ∧ w = w' := by
  by_cases h : d < 0
  · rw [numLetter_out (.inl h)]
    go_enter Try.func15, Try.ntmps15
    go_wp2
    go_ret
    exact ⟨rfl, rfl⟩
  · by_cases h' : 31 < d
    · rw [numLetter_out (.inr h')]
      go_enter Try.func15, Try.ntmps15
      go_wp2
      go_ret
      exact ⟨rfl, rfl⟩
    · obtain ⟨n, rfl⟩ := Int.eq_ofNat_of_zero_le (by omega : 0 ≤ d)
      have hn : n ≤ 31 := by omega
      rw [numLetter_in hn]
      have hc := cutLetter n hn
      go_enter Try.func15, Try.ntmps15
      go_wp2
      go_ret
      exact ⟨rfl, rfl⟩

set_option maxHeartbeats 400000 in
theorem inIs (b : Bool) (n lo hi : Int) (w : World) (hb : b = (decide (lo ≤ n) && decide (n ≤ hi))) :
    Calls Try.prog 35 #[.int .i64 n, .int .i64 lo, .int .i64 hi] w fun e w' => e = .returned (.bool b) ∧ w = w' := by
  by_cases h : lo ≤ n
  · by_cases h' : n ≤ hi
    · obtain rfl : b = true := by rw [hb, decide_eq_true h, decide_eq_true h']; rfl
      clear hb
      go_enter Try.func35, Try.ntmps35
      go_wp2
      go_ret
      exact ⟨rfl, rfl⟩
    · obtain rfl : b = false := by rw [hb, decide_eq_true h, decide_eq_false h']; rfl
      clear hb
      go_enter Try.func35, Try.ntmps35
      go_wp2
      go_ret
      exact ⟨rfl, rfl⟩
  · obtain rfl : b = false := by rw [hb, decide_eq_false h]; rfl
    clear hb
    go_enter Try.func35, Try.ntmps35
    go_wp2
    go_ret
    exact ⟨rfl, rfl⟩

set_option maxHeartbeats 400000 in
theorem implLetter (d : Int) (w : World) (h0 : -9223372036854775808 ≤ d) (h1 : d ≤ 9223372036854775807) :
    Calls Try.prog 16 #[.int .i64 d] w fun e w' => e = .returned (.string ⟨(numLetter d).toArray⟩) ∧ w = w' := by
  by_cases h : d < 0 ∨ 31 < d
  · rw [numLetter_out h]
    have hb : false = (decide (0 ≤ d) && decide (d ≤ 31)) := by simp; omega
    have HB := Lib.hid hb; clear hb
    go_enter Try.func16, Try.ntmps16
    go_wp2_with (go_at_call 35; refine (inIs false _ _ _ _ HB.out).mono ?_; rintro e w' ⟨rfl, rfl⟩)
    go_ret
    exact ⟨rfl, rfl⟩
  · obtain ⟨n, rfl⟩ := Int.eq_ofNat_of_zero_le (by omega : 0 ≤ d)
    have hn : n ≤ 31 := by omega
    rw [numLetter_in hn]
    have hb : true = (decide (0 ≤ (n : Int)) && decide ((n : Int) ≤ 31)) := by simp; omega
    have HB := Lib.hid hb; clear hb
    have hc := cutLetter n hn
    go_enter Try.func16, Try.ntmps16
    go_wp2_with (go_at_call 35; refine (inIs true _ _ _ _ HB.out).mono ?_; rintro e w' ⟨rfl, rfl⟩)
    go_ret
    exact ⟨rfl, rfl⟩
end Go.Proofs.Ytangjpfookkehaa
