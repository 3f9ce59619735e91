/- Memory that a call has made and hands back. -/
import Derived.Test.YtfjmjlpobbjjdaaDoorOwn
namespace Go.Proofs.YtfjmjlpobbjjdaaDoor
open Go.RowKit
set_option linter.unusedVariables false

/-- The cells vs, at the head of a row of a block from B on, which may be written. -/
def Mine (w : World) (B : Nat) (T : TypeId) (A : Option Addr) (vs : List Value) : Prop :=
  vs = [] ∨ ∃ g cur, A = some ⟨g, 0, none⟩ ∧ B ≤ g ∧ w.heap[g]? = some (.cells cur T (0, 0)) ∧ cur.toList.take vs.length = vs

section
variable {w w' : World} {B : Nat} {T : TypeId} {A : Option Addr} {vs : List Value}
theorem heap_lt {w : World} {g : Nat} {o : Obj} (h : w.heap[g]? = some o) : g < w.heap.size := (Array.getElem?_eq_some_iff.1 h).1
theorem Mine.row (h : Mine w B T A vs) : Row w w.heap.size A vs := by
  rcases h with rfl | ⟨g, cur, rfl, hB, hg, ht⟩
  · exact Row.nil _ _ _
  · intro i v hv
    refine ⟨g, 0, rfl, heap_lt hg, ?_⟩
    have : cur[i]? = some v := by
      rw [← ht, List.getElem?_take] at hv
      split at hv
      · simpa using hv
      · cases hv
    simp [World.cell?, hg, this]
theorem Mine.below (h : Mine w B T A vs) (hb : Below w.heap.size w w') : Mine w' B T A vs := by
  rcases h with rfl | ⟨g, cur, rfl, hB, hg, ht⟩
  · exact .inl rfl
  · exact .inr ⟨g, cur, rfl, hB, (hb.block g (heap_lt hg)).trans hg, ht⟩
theorem Mine.drewN (h : Mine w B T A vs) (k : Nat) : Mine (w.drewN k) B T A vs := h
theorem Mine.of_own {size n : Nat} {v : Value} {xs : List Value} (h : w.ownsRow B T size v n xs) : ∃ A c, v = .slice A n c ∧ n ≤ c ∧ Mine w B T A xs := by
  rcases h.2 with ⟨rfl, rfl⟩ | ⟨g, cap, cur, rfl, hb, hgg, h1, h2, h3, h4⟩
  · have hx : xs = [] := by have := h.1; simp at this; exact this
    exact ⟨none, 0, rfl, Nat.le_refl _, .inl hx⟩
  · exact ⟨_, cap, rfl, h1, .inr ⟨g, cur, rfl, hb, hgg, by rw [h.1]; exact h4⟩⟩
/-- A store at i: what is needed for it, and what it leaves. -/
theorem Mine.at_ (h : Mine w B T A vs) {i : Nat} (hi : i < vs.length) : ∃ g, A = some ⟨g, 0, none⟩ ∧ B ≤ g ∧ w.cell? ⟨g, i, none⟩ = some vs[i] ∧ w.frozen? ⟨g, i, none⟩ = false ∧
    ∀ u, Mine (w.setCell ⟨g, i, none⟩ u) B T (some ⟨g, 0, none⟩) (vs.set i u) := by
  rcases h with rfl | ⟨g, cur, rfl, hB, hg, ht⟩
  · simp at hi
  · have hc : cur[i]? = some vs[i] := by
      have hv := List.getElem?_eq_getElem hi
      have h2 : (cur.toList.take vs.length)[i]? = some vs[i] := by rw [ht]; exact hv
      rw [List.getElem?_take, if_pos hi] at h2
      simpa using h2
    refine ⟨g, rfl, hB, by simp [World.cell?, hg, hc], by simp [World.frozen?, hg], fun u => .inr ⟨g, cur.setIfInBounds i u, rfl, hB, by simp [World.setCell, Array.getElem?_modify, hg], ?_⟩⟩
    rw [List.length_set, Array.toList_setIfInBounds, List.take_set, ht]
end

/-- k, k+1, .. -/
def seqFrom (k : Int) : Nat → List Int
  | 0 => []
  | n + 1 => k :: seqFrom (k + 1) n
theorem seqFrom_length (k : Int) (n : Nat) : (seqFrom k n).length = n := by
  induction n generalizing k with
  | zero => rfl
  | succ n ih => simp [seqFrom, ih]
theorem seqFrom_get (k : Int) (n i : Nat) (h : i < n) : (seqFrom k n)[i]'(by rw [seqFrom_length]; exact h) = k + i := by
  induction n generalizing k i with
  | zero => omega
  | succ n ih =>
    cases i with
    | zero => simp [seqFrom]
    | succ i => simp only [seqFrom, List.getElem_cons_succ]; rw [ih (k + 1) i (by omega)]; omega

theorem seqFrom_snoc (k : Int) (n : Nat) : seqFrom k (n + 1) = seqFrom k n ++ [k + n] := by
  induction n generalizing k with
  | zero => simp [seqFrom]
  | succ n ih => rw [seqFrom, ih, seqFrom]; simp; omega
end Go.Proofs.YtfjmjlpobbjjdaaDoor
