/- Words in memory: a slice of Tok as a row of cells, three an element. -/
import Derived.Test.YtfjmjlpobbjjdaaDoorGround
import Derived.Deep.Slices
import Derived.Laws.MakeOwn
import Derived.Deep.QuietTactic
import Derived.BigQuiet
import Derived.Outline
import Derived.Handy
namespace Go.Proofs.YtfjmjlpobbjjdaaDoor
open Go.RowKit
set_option linter.unusedVariables false

structure Tk where
  kind : Int
  s : ByteArray
  col : Int
  deriving Inhabited
def tkV (t : Tk) : List Value := [.int .i64 t.kind, .string t.s, .int .i64 t.col]
def tksV (ts : List Tk) : List Value := ts.flatMap tkV
theorem tksV_cons (t : Tk) (ts : List Tk) : tksV (t :: ts) = tkV t ++ tksV ts := by simp [tksV]
theorem tksV_app (a b : List Tk) : tksV (a ++ b) = tksV a ++ tksV b := by simp [tksV]
theorem tksV_length : ∀ ts : List Tk, (tksV ts).length = ts.length * 3
  | [] => rfl
  | t :: ts => by rw [tksV_cons, List.length_append, tksV_length ts]; simp [tkV]; omega
theorem tksV_get : ∀ (ts : List Tk) (i j : Nat) (h : i < ts.length) (hj : j < 3), (tksV ts)[i * 3 + j]? = (tkV ts[i])[j]?
  | t :: ts, 0, j, _, hj => by
    rw [tksV_cons, List.getElem?_append_left (by simp [tkV]; omega)]; simp
  | t :: ts, i + 1, j, h, hj => by
    rw [tksV_cons, List.getElem?_append_right (by simp [tkV]; omega), show (i + 1) * 3 + j - (tkV t).length = i * 3 + j by simp [tkV]; omega, tksV_get ts i j (by simpa using h) hj]
    simp
/-- The three cells of a word of a row. -/
theorem Row.tk {w : World} {B : Nat} {A : Option Addr} {ts : List Tk} (h : Row w B A (tksV ts)) {i : Nat} (hi : i < ts.length) : ∃ b o, A = some ⟨b, o, none⟩ ∧ b < B ∧
    w.cell? ⟨b, o + i * 3, none⟩ = some (.int .i64 ts[i].kind) ∧ w.cell? ⟨b, o + i * 3 + 1, none⟩ = some (.string ts[i].s) ∧ w.cell? ⟨b, o + i * 3 + 2, none⟩ = some (.int .i64 ts[i].col) := by
  obtain ⟨b, o, rfl, hb, h0⟩ := h (i * 3 + 0) (.int .i64 ts[i].kind) (by rw [tksV_get ts i 0 hi (by omega)]; rfl)
  obtain ⟨b1, o1, e1, _, h1⟩ := h (i * 3 + 1) (.string ts[i].s) (by rw [tksV_get ts i 1 hi (by omega)]; rfl)
  obtain ⟨b2, o2, e2, _, h2⟩ := h (i * 3 + 2) (.int .i64 ts[i].col) (by rw [tksV_get ts i 2 hi (by omega)]; rfl)
  simp only [Option.some.injEq, Addr.mk.injEq] at e1 e2
  obtain ⟨rfl, rfl, _⟩ := e1
  obtain ⟨rfl, rfl, _⟩ := e2
  exact ⟨b, o, rfl, hb, by simpa using h0, by rw [Nat.add_assoc]; exact h1, by rw [Nat.add_assoc]; exact h2⟩

/-- A slice of words that came in. -/
def IsToks (w : World) (a : Option Addr) (len cap : Nat) (ts : List Tk) : Prop :=
  ts.length = len ∧ len ≤ cap ∧ cap ≤ maxLen ∧ Row w w.heap.size a (tksV ts) ∧ ∀ t ∈ ts, t.s.size ≤ maxLen ∧ (Lit.int .i64 t.kind).wf = true ∧ (Lit.int .i64 t.col).wf = true

theorem addr_add_add (a : Addr) (i j : Nat) : (a.add i).add j = a.add (i + j) := by
  unfold Addr.add
  by_cases hi : i = 0 <;> by_cases hj : j = 0 <;> simp [hi, hj, Nat.add_assoc]

end Go.Proofs.YtfjmjlpobbjjdaaDoor
