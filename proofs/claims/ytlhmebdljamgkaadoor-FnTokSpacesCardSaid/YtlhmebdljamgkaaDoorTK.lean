/- Walks: what TokText of the reference and of the program returns. -/
import Derived.Test.YtlhmebdljamgkaaDoorJB
namespace Go.Proofs.YtlhmebdljamgkaaDoor
open Go.RowKit Ilp
set_option linter.unusedVariables false

set_option maxHeartbeats 2000000 in
theorem specTokText (A : Option Addr) (c n : Nat) (xs : List ByteArray) (w : World) (hr : Row w w.heap.size A (strB xs)) (hl : Hid (xs.length = n)) (hs : ((sizes xs + xs.length : Nat) : Int) ≤ 1048576) :
    Calls Tryd.prog 20 #[.slice A n c] w fun e w' => e = .returned (.string (joinB 32 xs)) ∧ w = w' := by
  have hn : (n : Int) ≤ 1048576 := by have := hl.out; omega
  have HLE := Lib.hid (joinB_le 32 xs)
  have HS := Lib.hid hs; clear hs
  go_enter Tryd.func20, Tryd.ntmps20
  go_wp2_with fail
  go_loop [3, 4] (fun v u => ∃ (k : Nat) (s : ByteArray), u = .int .i64 (k : Int) ∧ v = .string s ∧ k ≤ n ∧ Hid (s = joinB 32 (xs.take k))) (fun _ u => n - (intOf u).toNat)
  case atStart => exact ⟨0, _, rfl, rfl, Nat.zero_le _, rfl⟩
  case round =>
    obtain ⟨k, s, rfl, rfl, hk, hs⟩ := hrel
    have hle : (s.size : Int) ≤ 1048576 := by rw [hs.out]; have := HLE.out k; have := HS.out; omega
    by_cases hlt : k < n
    · have hx : k < xs.length := by rw [hl.out]; exact hlt
      obtain ⟨b, o, rfl, hbb, hc⟩ := hr.at_ (i := k) (by rw [strB_length]; exact hx)
      obtain ⟨x, ex⟩ : ∃ x, x = xs[k] := ⟨_, rfl⟩
      have hc1 : w.cell? ⟨b, o + k, none⟩ = some (.string x) := by rw [hc, ex]; simp [strB]
      clear hc
      by_cases h0 : k = 0
      · subst h0
        have hs' : s = ByteArray.empty := hs.out
        have H : Hid (x = joinB 32 (xs.take 1)) := by unfold Hid; rw [joinB_one 32 hx, ex]
        have hle2 : (x.size : Int) ≤ 1048576 := by rw [H.out]; have := HLE.out 1; have := HS.out; omega
        subst hs'
        clear ex
        simp only [Nat.add_zero] at hc1
        go_wp2_with fail
        go_round
        case rel => exact ⟨1, x, rfl, by simp, by omega, H⟩
        case measure => simp [intOf]; omega
      · obtain ⟨j, rfl⟩ : ∃ j, k = j + 1 := ⟨k - 1, by omega⟩
        have hsu := joinB_succ 32 hx
        rw [← hs.out, ← ex] at hsu
        have hle2 := HLE.out (j + 2)
        rw [hsu] at hle2
        have hle3 : ((s ++ ⟨#[32]⟩ ++ x).size : Int) ≤ 1048576 := by have := HS.out; omega
        rw [ByteArray.size_append, ByteArray.size_append] at hle3
        have hle4 : (s.size : Int) + 1 + (x.size : Int) ≤ 1048576 := by
          have : (ByteArray.mk #[32]).size = 1 := rfl
          omega
        have H := Lib.hid hsu
        have hk0 : (0 : Int) < ((j + 1 : Nat) : Int) := by omega
        clear hle3 hsu ex
        go_wp2_with fail
        go_round
        case rel => exact ⟨j + 2, _, by go_num, rfl, by omega, H.out.symm⟩
        case measure => simp [intOf]; omega
    · obtain rfl : k = n := by omega
      have H : Hid (s = joinB 32 xs) := by unfold Hid; rw [hs.out, ← hl.out, joinB_all]
      go_wp2_with fail
      go_ret
      exact ⟨by rw [H.out]; rfl, rfl⟩

set_option maxHeartbeats 1000000 in
theorem implTokText (A : Option Addr) (c n : Nat) (xs : List ByteArray) (w : World) (hr : Row w w.heap.size A (strB xs)) (hl : Hid (xs.length = n)) (hc : n ≤ c) (hs : Hid (sizes xs + xs.length ≤ 1048576)) :
    Calls Tryd.prog 18 #[.slice A n c] w fun e w' => e = .returned (.string (joinB 32 xs)) ∧ Below w.heap.size w w' := by
  go_enter Tryd.func18, Tryd.ntmps18
  go_wp2_with fail
  refine (stringsJoin A c n 32 xs w hr hl hc hs.out).mono ?_
  rintro e w1 ⟨rfl, hb⟩
  go_wp2_with fail
  go_ret
  exact ⟨rfl, hb⟩

end Go.Proofs.YtlhmebdljamgkaaDoor
