/- Walks over slices of words: szTokS, toTokS, eqTokS, TokSame. -/
import Derived.Test.YtfjmjlpobbjjdaaDoorTkB
import Derived.Lib.QuietBelow
namespace Go.Proofs.YtfjmjlpobbjjdaaDoor
open Go.RowKit
set_option linter.unusedVariables false

open Classical in
noncomputable def tkSame (ts us : List Tk) : Bool := decide (ts = us)
theorem tkSame_true {ts us : List Tk} (h : ts = us) : tkSame ts us = true := by simp [tkSame, h]
theorem tkSame_false {ts us : List Tk} (h : ts ≠ us) : tkSame ts us = false := by simp [tkSame, h]
theorem tk_ne {x y : Tk} (h : x ≠ y) : x.kind ≠ y.kind ∨ x.kind = y.kind ∧ x.s ≠ y.s ∨ x.kind = y.kind ∧ x.s = y.s ∧ x.col ≠ y.col := by
  obtain ⟨a, b, c⟩ := x
  obtain ⟨d, e, f⟩ := y
  by_cases h1 : a = d
  · by_cases h2 : b = e
    · by_cases h3 : c = f
      · subst h1 h2 h3; exact absurd rfl h
      · exact .inr (.inr ⟨h1, h2, h3⟩)
    · exact .inr (.inl ⟨h1, h2⟩)
  · exact .inl h1
theorem str_ne {a b : ByteArray} (h : a ≠ b) : (a.toList == b.toList) = false := by
  rw [beq_eq_false_iff_ne]; intro e; apply h
  rw [ByteArray.toList_eq, ByteArray.toList_eq] at e
  apply ByteArray.ext; apply Array.ext'; exact e
theorem take_next {ts us : List Tk} {k : Nat} (h : ts.take k = us.take k) (h1 : k < ts.length) (h2 : k < us.length) (e : ts[k] = us[k]) : ts.take (k + 1) = us.take (k + 1) := by
  rw [List.take_succ_eq_append_getElem h1, List.take_succ_eq_append_getElem h2, h, e]







def tkSizes (ts : List Tk) : Nat := (ts.map (·.s.size)).sum
theorem tkSizes_take {xs : List Tk} {k : Nat} (h : k < xs.length) : tkSizes (xs.take (k + 1)) = tkSizes (xs.take k) + xs[k].s.size := by
  unfold tkSizes; rw [List.take_succ_eq_append_getElem h, List.map_append, List.sum_append]; simp only [List.map_cons, List.map_nil, List.sum_cons, List.sum_nil]; omega


end Go.Proofs.YtfjmjlpobbjjdaaDoor
