/- Walk: l12Find, the place of a byte in a text. -/
import Derived.Test.YtfjmjlpobbjjdaaDoorGround
import Derived.Lib.Bytealg
import Derived.Lib.Strings
namespace Go.Proofs.YtfjmjlpobbjjdaaDoor
open Go.RowKit
set_option linter.unusedVariables false

theorem indexByte_at : ∀ (l : List UInt8) (c : UInt8) (k : Nat), (∀ i, i < k → l[i]? ≠ some c) → l[k]? = some c → Lib.indexByte l c = k := by
  intro l
  induction l with
  | nil => intro c k _ h; simp at h
  | cons b l ih =>
    intro c k h1 h2
    cases k with
    | zero => simp at h2; subst h2; simp [Lib.indexByte]
    | succ k =>
      have hb : (b == c) = false := by
        have := h1 0 (by omega); simp at this; simpa using this
      have := ih c k (fun i hi => by have := h1 (i + 1) (by omega); simpa using this) (by simpa using h2)
      simp only [Lib.indexByte, hb, this]
      rw [if_neg (by simp), if_neg (by simp)]; omega
theorem indexByte_no : ∀ (l : List UInt8) (c : UInt8), (∀ i : Nat, i < l.length → l[i]? ≠ some c) → Lib.indexByte l c = -1 := by
  intro l
  induction l with
  | nil => intro c _; rfl
  | cons b l ih =>
    intro c h1
    have hb : (b == c) = false := by
      have := h1 0 (by simp); simp at this; simpa using this
    have := ih c (fun i hi => by have := h1 (i + 1) (by simpa using hi); simpa using this)
    simp only [Lib.indexByte, hb, this]
    simp

theorem byte_get (s : ByteArray) (k : Nat) (h : k < s.size) : s.data.toList[k]? = some s[k] := by
  simp only [Array.getElem?_toList]; exact Array.getElem?_eq_getElem h
theorem byte_ne {a b : UInt8} (h : a ≠ b) : ((a.toNat : Int) == (b.toNat : Int)) = false := by
  rw [beq_eq_false_iff_ne]; intro e; exact h (UInt8.toNat_inj.1 (by omega))

end Go.Proofs.YtfjmjlpobbjjdaaDoor
