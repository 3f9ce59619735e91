/- Walks of the reference: the words of a line. -/
import Derived.Test.YtfjmjlpobbjjdaaDoorTx
namespace Go.Proofs.YtfjmjlpobbjjdaaDoor
open Go.RowKit Ilp
set_option linter.unusedVariables false

theorem kind_is {s : List UInt8} {k : Nat} (h : ∀ j : Nat, 1 ≤ j → j < k → tokOk j s = false) (hk : k ≤ 3) (h1 : 1 ≤ k) (hb : tokOk k s = true) : tokKind s = k := by
  have := (tokOk_kind (k : Int) s).1 hb
  omega
theorem kind_none {s : List UInt8} (h : ∀ j : Nat, 1 ≤ j → j < 4 → tokOk j s = false) : tokKind s = 0 := by
  have h3 := tokKind_le s
  by_cases h0 : tokKind s = 0
  · exact h0
  · have := h (tokKind s) (by omega) (by omega)
    rw [(tokOk_kind (tokKind s : Int) s).2 ⟨rfl, h0⟩] at this
    cases this

theorem cls_let {c : UInt8} (h : isLet c = true) : cls c = 1 := by unfold cls; rw [if_pos h]
theorem cls_dig {c : UInt8} (h : isDig c = true) : cls c = 2 := by unfold cls; rw [if_neg (by rw [dig_not_let h]; simp), if_pos h]
theorem cls_rest {c : UInt8} (h : isLet c = false) (h2 : isDig c = false) : 3 ≤ cls c ∨ cls c = 0 := by
  unfold cls; rw [if_neg (by simp [h]), if_neg (by simp [h2])]
  split
  · exact .inl (by omega)
  · split
    · exact .inl (by omega)
    · exact .inr rfl

end Go.Proofs.YtfjmjlpobbjjdaaDoor
