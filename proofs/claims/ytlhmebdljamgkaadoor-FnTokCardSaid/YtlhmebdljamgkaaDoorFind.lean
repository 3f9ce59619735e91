/- Walk: l12Find, the place of a byte in a text. -/
import Derived.Test.YtlhmebdljamgkaaDoorGround
import Derived.Lib.Bytealg
import Derived.Lib.Strings
namespace Go.Proofs.YtlhmebdljamgkaaDoor
open Go.RowKit
set_option linter.unusedVariables false

theorem indexByte_at : ∀ (l : List UInt8) (c : UInt8) (k : Nat), (∀ i, i < k → l[i]? ≠ some c) → l[k]? = some c → Lib.indexByte l c = k := by
  intro l
  induction l with
  | nil => intro c k _ h; simp at h
  | cons b l ih =>
    intro c k h1 h2
    cases k with
    | zero => simp at h2; subst h2; simp [Lib.indexByte]
    | succ k =>
      have hb : (b == c) = false := by
        have := h1 0 (by omega); simp at this; simpa using this
      have := ih c k (fun i hi => by have := h1 (i + 1) (by omega); simpa using this) (by simpa using h2)
      simp only [Lib.indexByte, hb, this]
      rw [if_neg (by simp), if_neg (by simp)]; omega
theorem indexByte_no : ∀ (l : List UInt8) (c : UInt8), (∀ i : Nat, i < l.length → l[i]? ≠ some c) → Lib.indexByte l c = -1 := by
  intro l
  induction l with
  | nil => intro c _; rfl
  | cons b l ih =>
    intro c h1
    have hb : (b == c) = false := by
      have := h1 0 (by simp); simp at this; simpa using this
    have := ih c (fun i hi => by have := h1 (i + 1) (by simpa using hi); simpa using this)
    simp only [Lib.indexByte, hb, this]
    simp

theorem byte_get (s : ByteArray) (k : Nat) (h : k < s.size) : s.data.toList[k]? = some s[k] := by
  simp only [Array.getElem?_toList]; exact Array.getElem?_eq_getElem h
theorem byte_ne {a b : UInt8} (h : a ≠ b) : ((a.toNat : Int) == (b.toNat : Int)) = false := by
  rw [beq_eq_false_iff_ne]; intro e; exact h (UInt8.toNat_inj.1 (by omega))

set_option maxHeartbeats 1000000 in
theorem l12Find (s : ByteArray) (c : UInt8) (w : World) (hs : (s.size : Int) ≤ 4611686018427387904) :
    Calls Tryd.prog 31 #[.string s, .int .u8 (c.toNat : Int)] w fun e w' => e = .returned (.int .i64 (Lib.indexByte s.data.toList c)) ∧ w = w' := by
  go_enter Tryd.func31, Tryd.ntmps31
  go_wp2_with fail
  go_loop [5] (fun v => ∃ k : Nat, v = .int .i64 (k : Int) ∧ k ≤ s.size ∧ Hid (∀ i, i < k → s.data.toList[i]? ≠ some c)) (fun v => s.size - (intOf v).toNat)
  case atStart => exact ⟨0, rfl, Nat.zero_le _, fun i hi => by omega⟩
  case round =>
    obtain ⟨k, rfl, hk, hno⟩ := hrel
    by_cases hlt : k < s.size
    · have hg := byte_get s k hlt
      by_cases he : s[k] = c
      · have hi := indexByte_at s.data.toList c k hno.out (by rw [hg, he])
        have HI := Lib.hid hi
        have hbe : ((s[k].toNat : Int) == (c.toNat : Int)) = true := by rw [he]; simp
        clear hi hg he
        go_wp2_with fail
        go_ret
        exact ⟨by rw [HI.out]; rfl, rfl⟩
      · have hbe := byte_ne he
        have hno' : Hid (∀ i, i < k + 1 → s.data.toList[i]? ≠ some c) := fun i hi => by
          by_cases e : i = k
          · subst e; rw [hg]; simpa using he
          · exact hno.out i (by omega)
        clear hg he
        go_wp2_with fail
        go_round
        case rel => exact ⟨k + 1, by go_num, by omega, hno'⟩
        case measure => simp [intOf]; omega
    · obtain rfl : k = s.size := by omega
      have hi := indexByte_no s.data.toList c (fun i hi => hno.out i (by simpa using hi))
      have HI := Lib.hid hi
      clear hi
      go_wp2_with fail
      go_ret
      exact ⟨by rw [HI.out]; rfl, rfl⟩
end Go.Proofs.YtlhmebdljamgkaaDoor
