/- A row that a call has made and appends to, beside a reader. -/
import Derived.Test.YtfjmjlpobbjjdaaDoorDraw2
import Derived.Laws.AppendOwn
import Derived.Laws.OwnMore
namespace Go.Proofs.YtfjmjlpobbjjdaaDoor
open Go.RowKit
set_option linter.unusedVariables false

/-- A reader and its code lie in the blocks up to g. -/
theorem rd_low {w w' : World} {g p : Nat} (h : Rd w g p) (hk : ∀ k, k ≤ g → w'.heap[k]? = w.heap[k]?) : Rd w' g p := by
  obtain ⟨A, n, c, zs, h1, h2, h3, h4, h5⟩ := h
  exact ⟨A, n, c, zs, h1, h2, (hk g (Nat.le_refl _)).trans h3, h4.keep fun q hq => World.cell?_of_block (hk _ (by omega)), h5⟩
theorem rd_alloc {w : World} {g p : Nat} (h : Rd w g p) (o : Obj) : Rd (w.alloc o) g p := h.keep ((Below.refl _ _).alloc (Nat.le_refl _) o)
theorem rd_grown {w w' : World} {g p : Nat} {row : Option Nat} (h : Rd w g p) (hg : w.grownBy w' row) (hr : ∀ k, row = some k → g < k) : Rd w' g p :=
  rd_low h fun k hk => hg.block k (by have := h.lt; omega) (fun e => by have := hr k e.symm; omega)
theorem own_keep {w w' : World} {g base size n : Nat} {e : TypeId} {v : Value} {xs : List Value} (h : w.ownsRow base e size v n xs) (hk : Keep g w w') (hb : g < base) : w'.ownsRow base e size v n xs := by
  refine ⟨h.1, ?_⟩
  rcases h.2 with hn | ⟨g', cap, cur, rfl, hb', hgg, rest⟩
  · exact .inl hn
  · exact .inr ⟨g', cap, cur, rfl, hb', (hk.block g' (Array.getElem?_eq_some_iff.1 hgg).1 (by omega)).trans hgg, rest⟩
theorem own_below {w w' : World} {base size n : Nat} {e : TypeId} {v : Value} {xs : List Value} (h : w.ownsRow base e size v n xs) (hk : Below w.heap.size w w') : w'.ownsRow base e size v n xs := by
  refine ⟨h.1, ?_⟩
  rcases h.2 with hn | ⟨g', cap, cur, rfl, hb', hgg, rest⟩
  · exact .inl hn
  · exact .inr ⟨g', cap, cur, rfl, hb', (hk.block g' (Array.getElem?_eq_some_iff.1 hgg).1).trans hgg, rest⟩
/-- What is owned can be read. -/
theorem own_row {w : World} {base size n : Nat} {e : TypeId} {v : Value} {xs : List Value} (h : w.ownsRow base e size v n xs) : ∃ A c, v = .slice A n c ∧ n ≤ c ∧ Row w w.heap.size A xs := by
  rcases h.2 with ⟨rfl, rfl⟩ | ⟨g, cap, cur, rfl, hb, hgg, h1, h2, h3, h4⟩
  · have hx : xs = [] := by have := h.1; simp at this; exact this
    subst hx
    exact ⟨none, 0, rfl, Nat.le_refl _, Row.nil _ _ _⟩
  · refine ⟨_, cap, rfl, h1, fun i v hv => ⟨g, 0, rfl, (Array.getElem?_eq_some_iff.1 hgg).1, ?_⟩⟩
    have : cur[i]? = some v := by
      rw [← h4, List.getElem?_take] at hv
      split at hv
      · simpa using hv
      · cases hv
    simp [World.cell?, hgg, this]
end Go.Proofs.YtfjmjlpobbjjdaaDoor
