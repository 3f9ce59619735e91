/- Walks: drawn lines and texts. -/
import Derived.Test.YtlhmebdljamgkaaDoorDrawS
import Derived.Test.YtlhmebdljamgkaaDoorOwn
import Derived.Test.YtlhmebdljamgkaaDoorStr
namespace Go.Proofs.YtlhmebdljamgkaaDoor
open Go.RowKit
set_option linter.unusedVariables false

theorem many_le (s n M o : Nat) (h : o + s * n ≤ M) (hn : 1 ≤ n) : s ≤ M ∧ o + (s + s) * (n / 2) + s * (n % 2) ≤ M := by
  have h1 : s ≤ s * n := Nat.le_mul_of_pos_right s hn
  have h2 : s * n = (s + s) * (n / 2) + s * (n % 2) := by
    conv => lhs; rw [← Nat.div_add_mod n 2]
    rw [Nat.mul_add, ← Nat.mul_assoc]; congr 2; omega
  omega

set_option maxHeartbeats 1000000 in
theorem l12Many (s : ByteArray) (n M : Nat) (w : World) (h : s.size * n ≤ M) (hs : s.size ≤ 8000) (hM : M ≤ 8000) (hn : (n : Int) ≤ 100000) :
    Calls Tryd.prog 49 #[.string s, .int .i64 (n : Int)] w fun e w' => (∃ r : ByteArray, e = .returned (.string r) ∧ r.size ≤ M) ∧ w = w' := by
  go_enter Tryd.func49, Tryd.ntmps49
  go_wp2_with fail
  go_loop [0, 1, 5] (fun a b o => ∃ (t r : ByteArray) (k : Nat), a = .string t ∧ b = .int .i64 (k : Int) ∧ o = .string r ∧ Hid (r.size + t.size * k ≤ M) ∧ t.size ≤ 16000 ∧ r.size ≤ M ∧ (k : Int) ≤ 100000) (fun _ b _ => (intOf b).toNat)
  case atStart => exact ⟨s, ⟨#[]⟩, n, rfl, rfl, rfl, by (show 0 + s.size * n ≤ M); omega, by omega, Nat.zero_le _, hn⟩
  case round =>
    obtain ⟨t, r, k, rfl, rfl, rfl, hp, ht, hr, hkb⟩ := hrel
    by_cases hk : k = 0
    · subst hk
      have R : ∃ r' : ByteArray, Ending.returned (.string r) = .returned (.string r') ∧ r'.size ≤ M := ⟨r, rfl, hr⟩
      have HR := Lib.hid R
      clear R
      go_wp2_with fail
      go_ret
      exact ⟨HR.out, rfl⟩
    · have hk1 : (0 : Int) < k := by omega
      have hm := many_le _ _ _ _ hp.out (by omega)
      have hm1 := hm.1
      have HM := Lib.hid hm.2
      clear hm
      by_cases ho : k % 2 = 1
      · have ho' : ((k : Int) % 2 == 1) = true := by rw [beq_iff_eq]; omega
        have HO := Lib.hid ho
        clear ho
        go_wp2_with fail
        go_round
        case rel =>
          refine ⟨t ++ t, r ++ t, k / 2, rfl, by go_num, rfl, ?_, by rw [ByteArray.size_append]; omega, ?_, by omega⟩
          · have := HM.out; rw [HO.out] at this
            show (r ++ t).size + (t ++ t).size * (k / 2) ≤ M
            rw [ByteArray.size_append, ByteArray.size_append]; omega
          · have := HM.out; rw [HO.out] at this
            rw [ByteArray.size_append]; omega
        case measure => simp [intOf]; omega
      · have ho' : ((k : Int) % 2 == 1) = false := by rw [beq_eq_false_iff_ne]; omega
        have HO : Hid (k % 2 = 0) := by unfold Hid; omega
        clear ho
        go_wp2_with fail
        go_round
        case rel =>
          refine ⟨t ++ t, r, k / 2, rfl, by go_num, rfl, ?_, by rw [ByteArray.size_append]; omega, hr, by omega⟩
          have := HM.out; rw [HO.out] at this
          show r.size + (t ++ t).size * (k / 2) ≤ M
          rw [ByteArray.size_append]; omega
        case measure => simp [intOf]; omega

end Go.Proofs.YtlhmebdljamgkaaDoor
