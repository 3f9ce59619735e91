/- Walks: what TokText of the reference and of the program returns. -/
import Derived.Test.YtlhmebdljamgkaaJB
namespace Go.Proofs.Ytlhmebdljamgkaa
open Go.RowKit Ilp
set_option linter.unusedVariables false

set_option maxHeartbeats 2000000 in
theorem specTokText (A : Option Addr) (c n : Nat) (xs : List ByteArray) (w : World) (hr : Row w w.heap.size A (strB xs)) (hl : Hid (xs.length = n)) (hs : ((sizes xs + xs.length : Nat) : Int) ≤ 1048576) :
    Calls Try.prog 16 #[.slice A n c] w fun e w' => e = .returned (.string (joinB 32 xs)) ∧ w = w' := by
  have hn : (n : Int) ≤ 1048576 := by have := hl.out; omega
  have HLE := Lib.hid (joinB_le 32 xs)
  have HS := Lib.hid hs; clear hs
  go_enter Try.func16, Try.ntmps16
  go_wp2_with fail
  go_loop [3, 4] (fun v u => ∃ (k : Nat) (s : ByteArray), u = .int .i64 (k : Int) ∧ v = .string s ∧ k ≤ n ∧ Hid (s = joinB 32 (xs.take k))) (fun _ u => n - (intOf u).toNat)
  case atStart => exact ⟨0, _, rfl, rfl, Nat.zero_le _, rfl⟩
  case round =>
    obtain ⟨k, s, rfl, rfl, hk, hs⟩ := hrel
    have hle : (s.size : Int) ≤ 1048576 := by rw [hs.out]; have := HLE.out k; have := HS.out; omega
    by_cases hlt : k < n
    · have hx : k < xs.length := by rw [hl.out]; exact hlt
      obtain ⟨b, o, rfl, hbb, hc⟩ := hr.at_ (i := k) (by rw [strB_length]; exact hx)
      obtain ⟨x, ex⟩ : ∃ x, x = xs[k] := ⟨_, rfl⟩
      have hc1 : w.cell? ⟨b, o + k, none⟩ = some (.string x) := by rw [hc, ex]; simp [strB]
      clear hc
      by_cases h0 : k = 0
      · subst h0
        have hs' : s = ByteArray.empty := hs.out
        have H : Hid (x = joinB 32 (xs.take 1)) := by unfold Hid; rw [joinB_one 32 hx, ex]
        have hle2 : (x.size : Int) ≤ 1048576 := by rw [H.out]; have := HLE.out 1; have := HS.out; omega
        subst hs'
        clear ex
        simp only [Nat.add_zero] at hc1
        go_wp2_with fail
        go_round
        case rel => exact ⟨1, x, rfl, by simp, by omega, H⟩
        case measure => simp [intOf]; omega
      · obtain ⟨j, rfl⟩ : ∃ j, k = j + 1 := ⟨k - 1, by omega⟩
        have hsu := joinB_succ 32 hx
        rw [← hs.out, ← ex] at hsu
        have hle2 := HLE.out (j + 2)
        rw [hsu] at hle2
        have hle3 : ((s ++ ⟨#[32]⟩ ++ x).size : Int) ≤ 1048576 := by have := HS.out; omega
        rw [ByteArray.size_append, ByteArray.size_append] at hle3
        have hle4 : (s.size : Int) + 1 + (x.size : Int) ≤ 1048576 := by
          have : (ByteArray.mk #[32]).size = 1 := rfl
          omega
        have H := Lib.hid hsu
        have hk0 : (0 : Int) < ((j + 1 : Nat) : Int) := by omega
        clear hle3 hsu ex
        go_wp2_with fail
        go_round
        case rel => exact ⟨j + 2, _, by go_num, rfl, by omega, H.out.symm⟩
        case measure => simp [intOf]; omega
    · obtain rfl : k = n := by omega
      have H : Hid (s = joinB 32 xs) := by unfold Hid; rw [hs.out, ← hl.out, joinB_all]
      go_wp2_with fail
      go_ret
      exact ⟨by rw [H.out]; rfl, rfl⟩

set_option maxHeartbeats 1000000 in
theorem implTokText (A : Option Addr) (c n : Nat) (xs : List ByteArray) (w : World) (hr : Row w w.heap.size A (strB xs)) (hl : Hid (xs.length = n)) (hc : n ≤ c) (hs : Hid (sizes xs + xs.length ≤ 1048576)) :
    Calls Try.prog 18 #[.slice A n c] w fun e w' => e = .returned (.string (joinB 32 xs)) ∧ Below w.heap.size w w' := by
  go_enter Try.func18, Try.ntmps18
  go_wp2_with fail
  refine (stringsJoin A c n 32 xs w hr hl hc hs.out).mono ?_
  rintro e w1 ⟨rfl, hb⟩
  go_wp2_with fail
  go_ret
  exact ⟨rfl, hb⟩

set_option maxHeartbeats 2000000 in
theorem law_FnExactTokText (A : Option Addr) (n c : Nat) (z : List ByteArray) (w : World) (hz : IsStrs w A n c z) :
    Calls Try.prog 5 #[.slice A n c] w fun e w' => e = .returned (.bool true) ∧ Below w.heap.size w w' := by
  obtain ⟨hr, hl, hnc, hn, hc, hw⟩ := hz.row
  generalize z.take n = xs at hr hl hw
  clear hz
  have HW := Lib.hid hw
  have HL := Lib.hid hl
  clear hl hw
  go_enter Try.func5, Try.ntmps5
  go_wp2_with fail
  refine (szStringS A c n 1048576 xs w hr HL (by omega) HW.out (by omega) (by omega)).mono ?_
  rintro e w1 ⟨r, rfl, hr1, rfl⟩
  by_cases hneg : r < 0
  · clear hr1
    go_wp2_with fail
    go_ret
    exact ⟨rfl, Below.refl _ _⟩
  · have hb : ((xs.length + sizes xs : Nat) : Int) ≤ 1048576 := by omega
    have HB := Lib.hid hb
    have hn' : (n : Int) ≤ 1048576 := by have := HL.out; omega
    clear hr1 hb
    go_wp2_with fail
    refine (toStringS A c n xs w hr HL hn').mono ?_
    rintro e w1 ⟨rfl, hk1, hb1⟩
    have hs1 := hb1.size
    go_wp2_with fail
    refine (specTokText _ _ n xs w1 hk1.row HL (by have := HB.out; omega)).mono ?_
    rintro e w2 ⟨rfl, rfl⟩
    have hr1 := hr.below hb1
    have hr1' := hr1.more hs1
    go_wp2_with fail
    refine (toStringS A c n xs w1 hr1' HL hn').mono ?_
    rintro e w2 ⟨rfl, hk2, hb2⟩
    have hs2 := hb2.size
    go_wp2_with fail
    refine (implTokText _ _ n xs w2 hk2.row HL (Nat.le_refl _) (by have := HB.out; unfold Hid; omega)).mono ?_
    rintro e w3 ⟨rfl, hb3⟩
    have hs3 := hb3.size
    have hk3 := hk2.below hb3 hk2.lt
    have hr3' := ((hr1'.below hb2).more hs2).below hb3
    have hr3 := hr3'.more hs3
    go_wp2_with fail
    refine (toStringS A c n xs w3 hr3 HL hn').mono ?_
    rintro e w4 ⟨rfl, hk4, hb4⟩
    have hs4 := hb4.size
    have hk5 := hk3.below hb4 hk3.lt
    go_wp2_with fail
    refine (eqStringS_same _ _ _ _ n xs w4 hk5.row hk4.row HL (by omega)).mono ?_
    rintro e w5 ⟨rfl, hb5⟩
    go_wp2_with fail
    go_ret
    refine ⟨rfl, ?_⟩
    exact hb1.trans ((hb2.mono (by omega)).trans ((hb3.mono (by omega)).trans ((hb4.mono (by omega)).trans (hb5.mono (by omega)))))
end Go.Proofs.Ytlhmebdljamgkaa
