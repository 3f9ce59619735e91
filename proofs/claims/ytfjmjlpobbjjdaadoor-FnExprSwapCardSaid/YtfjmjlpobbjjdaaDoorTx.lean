/- Walks of the reference: kinds of words, the words of a line. -/
import Derived.Test.YtfjmjlpobbjjdaaDoorTw
import Derived.Test.YtfjmjlpobbjjdaaDoorTkS
import Derived.Test.YtfjmjlpobbjjdaaDoorMn
import Derived.Lib.QuietBelow
namespace Ilp
/-- The words so far, up to byte k. -/
def LineInv (L : List UInt8) (k : Nat) (ts : List T) : Prop := words L = (toks (L.length + 1 - k) k (L.drop k)).map (ts ++ ·)
theorem lineInv_start (L : List UInt8) : LineInv L 0 [] := by
  unfold LineInv words; simp
theorem lineInv_space {L : List UInt8} {k : Nat} {ts : List T} (h : LineInv L k ts) (hk : k < L.length) (hc : L[k] = 32) : LineInv L (k + 1) ts := by
  unfold LineInv at h ⊢
  rw [h, List.drop_eq_getElem_cons hk, hc, show L.length + 1 - k = (L.length + 1 - (k + 1)) + 1 by omega, toks_space]
theorem drop_ne {L : List UInt8} {k : Nat} (hk : k < L.length) : L.drop k ≠ [] := by
  intro e; have := List.drop_eq_nil_iff.1 e; omega
theorem head_drop {L : List UInt8} {k : Nat} (hk : k < L.length) (hc : L[k] ≠ 32) : (L.drop k).head? ≠ some 32 := by
  rw [List.drop_eq_getElem_cons hk, List.head?_cons]; intro e; injection e with e; exact hc e
theorem lineInv_bad {L : List UInt8} {k : Nat} {ts : List T} (h : LineInv L k ts) (hk : k < L.length) (hc : L[k] ≠ 32) (hw : tokKind ((L.drop k).take (wlen (L.drop k))) = 0) : words L = none := by
  unfold LineInv at h
  rw [h, show L.length + 1 - k = (L.length - k) + 1 by omega, toks_bad (drop_ne hk) (head_drop hk hc) hw]; rfl
theorem lineInv_word {L : List UInt8} {k : Nat} {ts : List T} (h : LineInv L k ts) (hk : k < L.length) (hc : L[k] ≠ 32) (hw : tokKind ((L.drop k).take (wlen (L.drop k))) ≠ 0) :
    LineInv L (k + wlen (L.drop k)) (ts ++ [⟨tokKind ((L.drop k).take (wlen (L.drop k))), (L.drop k).take (wlen (L.drop k)), k⟩]) := by
  have hp := wlen_pos (drop_ne hk)
  rw [List.length_drop] at hp
  unfold LineInv at h ⊢
  rw [h, show L.length + 1 - k = (L.length - k) + 1 by omega, toks_word (drop_ne hk) (head_drop hk hc) hw, List.drop_drop,
    toks_fuel (L.length - k) (L.length + 1 - (k + wlen (L.drop k))) _ _ (by rw [List.length_drop]; omega) (by rw [List.length_drop]; omega)]
  cases toks (L.length + 1 - (k + wlen (L.drop k))) (k + wlen (L.drop k)) (L.drop (k + wlen (L.drop k))) with
  | none => rfl
  | some r => simp
theorem lineInv_end {L : List UInt8} {k : Nat} {ts : List T} (h : LineInv L k ts) (hk : L.length ≤ k) (hk2 : k ≤ L.length) : words L = some ts := by
  unfold LineInv at h
  rw [h, List.drop_eq_nil_of_le hk, show L.length + 1 - k = 0 + 1 by omega, toks_nil]; simp
def cls (c : UInt8) : Nat := if isLet c = true then 1 else if isDig c = true then 2 else if isMark c = true then 3 else if c = 32 then 4 else 0
theorem runOf_at {p : UInt8 → Bool} {L : List UInt8} {k : Nat} (h : k < L.length) : runOf p (L.drop k) = if p L[k] = true then 1 + runOf p (L.drop (k + 1)) else 0 := by
  unfold runOf
  rw [List.drop_eq_getElem_cons h, List.takeWhile_cons]
  cases p L[k] <;> simp <;> omega
theorem wlen_at {L : List UInt8} {k : Nat} (h : k < L.length) : wlen (L.drop k) = if isLet L[k] = true then 1 + runOf isLet (L.drop (k + 1)) else if isDig L[k] = true then 1 + runOf isDig (L.drop (k + 1)) else 1 := by
  rw [List.drop_eq_getElem_cons h]; rfl
theorem runOf_nil (p : UInt8 → Bool) {L : List UInt8} {k : Nat} (h : L.length ≤ k) : runOf p (L.drop k) = 0 := by rw [List.drop_eq_nil_of_le h]; rfl
end Ilp
namespace Go.Proofs.YtfjmjlpobbjjdaaDoor
open Go.RowKit Ilp
set_option linter.unusedVariables false

theorem flip_same {P : Program} {f : FuncId} {args : Array Value} {w : World} {v : Value} (h : Calls P f args w fun e w' => e = .returned v ∧ w = w') : Calls P f args w fun e w' => e = .returned v ∧ w' = w := h.mono fun _ _ ⟨a, b⟩ => ⟨a, b.symm⟩
def marksB : ByteArray := ⟨#[43, 45, 42, 60, 40, 41, 58, 61]⟩
theorem index_mark : ∀ (l : List UInt8) (c : UInt8), (0 ≤ Lib.indexByte l c ↔ l.contains c = true) ∧ -1 ≤ Lib.indexByte l c
  | [], c => by simp [Lib.indexByte]
  | b :: l, c => by
    have ih := index_mark l c
    unfold Lib.indexByte
    by_cases h : b = c
    · subst h; simp
    · have hb : (b == c) = false := by simpa using h
      have hb' : (c == b) = false := by simpa using fun e => h e.symm
      simp only [hb, Bool.false_eq_true, if_false]
      rw [List.contains_cons, hb']
      by_cases h2 : Lib.indexByte l c = -1
      · rw [if_pos (by rw [h2]; rfl)]
        have : ¬ (l.contains c = true) := fun e => by have := ih.1.2 e; omega
        simp; simpa using this
      · rw [if_neg (by rw [beq_iff_eq]; exact h2)]
        have : 0 ≤ Lib.indexByte l c := by omega
        have h3 := ih.1.1 this
        simp only [Bool.false_or, h3, iff_true]; omega
theorem marks_index (c : UInt8) : isMark c = true ↔ 0 ≤ Lib.indexByte marksB.data.toList c := by
  rw [(index_mark _ c).1]; rfl


def Drew (w w' : World) : Prop := ∃ n, w' = w.drewN n
theorem Drew.below {w w' : World} (h : Drew w w') : Below w.heap.size w w' := by obtain ⟨n, rfl⟩ := h; exact drewN_below (Below.refl _ _) n

end Go.Proofs.YtfjmjlpobbjjdaaDoor
