/- Words in memory: a slice of Tok as a row of cells, three an element. -/
import Derived.Test.YtlhmebdljamgkaaGround
import Derived.Deep.Slices
import Derived.Laws.MakeOwn
import Derived.Deep.QuietTactic
import Derived.BigQuiet
import Derived.Outline
import Derived.Handy
namespace Go.Proofs.Ytlhmebdljamgkaa
open Go.RowKit
set_option linter.unusedVariables false

structure Tk where
  kind : Int
  s : ByteArray
  col : Int
  deriving Inhabited
def tkV (t : Tk) : List Value := [.int .i64 t.kind, .string t.s, .int .i64 t.col]
def tksV (ts : List Tk) : List Value := ts.flatMap tkV
theorem tksV_cons (t : Tk) (ts : List Tk) : tksV (t :: ts) = tkV t ++ tksV ts := by simp [tksV]
theorem tksV_app (a b : List Tk) : tksV (a ++ b) = tksV a ++ tksV b := by simp [tksV]
theorem tksV_length : ∀ ts : List Tk, (tksV ts).length = ts.length * 3
  | [] => rfl
  | t :: ts => by rw [tksV_cons, List.length_append, tksV_length ts]; simp [tkV]; omega
theorem tksV_get : ∀ (ts : List Tk) (i j : Nat) (h : i < ts.length) (hj : j < 3), (tksV ts)[i * 3 + j]? = (tkV ts[i])[j]?
  | t :: ts, 0, j, _, hj => by
    rw [tksV_cons, List.getElem?_append_left (by simp [tkV]; omega)]; simp
  | t :: ts, i + 1, j, h, hj => by
    rw [tksV_cons, List.getElem?_append_right (by simp [tkV]; omega), show (i + 1) * 3 + j - (tkV t).length = i * 3 + j by simp [tkV]; omega, tksV_get ts i j (by simpa using h) hj]
    simp
/-- The three cells of a word of a row. -/
theorem Row.tk {w : World} {B : Nat} {A : Option Addr} {ts : List Tk} (h : Row w B A (tksV ts)) {i : Nat} (hi : i < ts.length) : ∃ b o, A = some ⟨b, o, none⟩ ∧ b < B ∧
    w.cell? ⟨b, o + i * 3, none⟩ = some (.int .i64 ts[i].kind) ∧ w.cell? ⟨b, o + i * 3 + 1, none⟩ = some (.string ts[i].s) ∧ w.cell? ⟨b, o + i * 3 + 2, none⟩ = some (.int .i64 ts[i].col) := by
  obtain ⟨b, o, rfl, hb, h0⟩ := h (i * 3 + 0) (.int .i64 ts[i].kind) (by rw [tksV_get ts i 0 hi (by omega)]; rfl)
  obtain ⟨b1, o1, e1, _, h1⟩ := h (i * 3 + 1) (.string ts[i].s) (by rw [tksV_get ts i 1 hi (by omega)]; rfl)
  obtain ⟨b2, o2, e2, _, h2⟩ := h (i * 3 + 2) (.int .i64 ts[i].col) (by rw [tksV_get ts i 2 hi (by omega)]; rfl)
  simp only [Option.some.injEq, Addr.mk.injEq] at e1 e2
  obtain ⟨rfl, rfl, _⟩ := e1
  obtain ⟨rfl, rfl, _⟩ := e2
  exact ⟨b, o, rfl, hb, by simpa using h0, by rw [Nat.add_assoc]; exact h1, by rw [Nat.add_assoc]; exact h2⟩

/-- A slice of words that came in. -/
def IsToks (w : World) (a : Option Addr) (len cap : Nat) (ts : List Tk) : Prop :=
  ts.length = len ∧ len ≤ cap ∧ cap ≤ maxLen ∧ Row w w.heap.size a (tksV ts) ∧ ∀ t ∈ ts, t.s.size ≤ maxLen ∧ (Lit.int .i64 t.kind).wf = true ∧ (Lit.int .i64 t.col).wf = true

theorem addr_add_add (a : Addr) (i j : Nat) : (a.add i).add j = a.add (i + j) := by
  unfold Addr.add
  by_cases hi : i = 0 <;> by_cases hj : j = 0 <;> simp [hi, hj, Nat.add_assoc]

open Go.ChangeShapes Go.WideShapes Go.Deep in
theorem toks_open {H : Type} {enc : TypeId × Value → H} {W : World} {a : Option Addr} {len cap : Nat} {d : DataW H} {p : List MemPlace} (h : DataW.Trod enc Try.prog W 0 (fun _ => true) true 28 (.slice a len cap) d p) : ∃ ts, IsToks W a len cap ts := by
  obtain ⟨fuel, hf⟩ := h
  have hC : Try.prog.cellsOf 47 = 3 := by kernel_rfl
  have c1 : Try.prog.cellsOf 3 = 1 := by kernel_rfl
  have c2 : Try.prog.cellsOf 9 = 1 := by kernel_rfl
  rcases open_slice Try.underlying28 hf with ⟨hcs, _⟩ | ⟨x, l, c, m, n, D, Pl, hcs, _, hl, hm, hmm, _, hi⟩
  · simp [Value.cells] at hcs
    obtain ⟨rfl, rfl, rfl⟩ := hcs
    exact ⟨[], rfl, Nat.le_refl _, Nat.zero_le _, Row.nil _ _ _, by simp⟩
  · simp [Value.cells] at hcs
    obtain ⟨rfl, rfl, rfl⟩ := hcs
    simp only [if_true] at hmm
    subst hmm
    rw [hC] at hi
    have key : ∀ i, i < len → ∃ t : Tk, W.cell? (x.add (i * 3)) = some (.int .i64 t.kind) ∧ W.cell? (x.add (i * 3 + 1)) = some (.string t.s) ∧ W.cell? (x.add (i * 3 + 2)) = some (.int .i64 t.col) ∧ t.s.size ≤ maxLen ∧ (Lit.int .i64 t.kind).wf = true ∧ (Lit.int .i64 t.col).wf = true := by
      intro i hil
      obtain ⟨cs', hc, ht'⟩ := hi i (by omega)
      obtain ⟨ys, n', _, hy, hlen, hyl, hg⟩ := DataW.trod_struct Try.underlying47 ht'
      obtain ⟨_, hcl, hat⟩ := World.cells?_some hc
      obtain ⟨v0, v1, v2, rfl⟩ : ∃ v0 v1 v2, cs' = [v0, v1, v2] := by
        match cs', hcl with
        | [v0, v1, v2], _ => exact ⟨v0, v1, v2, rfl⟩
      have g0 : DataW.trod enc Try.prog W 0 (fun _ => true) true n' 3 (([v0, v1, v2].drop 0).take (Try.prog.cellsOf 3)) = ys[0]? := hg 0 _ rfl
      have g1 : DataW.trod enc Try.prog W 0 (fun _ => true) true n' 9 (([v0, v1, v2].drop 1).take (Try.prog.cellsOf 9)) = ys[1]? := hg 1 _ rfl
      have g2 : DataW.trod enc Try.prog W 0 (fun _ => true) true n' 3 (([v0, v1, v2].drop 2).take (Try.prog.cellsOf 3)) = ys[2]? := hg 2 _ rfl
      rw [c1] at g0 g2
      rw [c2] at g1
      simp only [List.drop_zero, List.take_succ_cons, List.take_zero, List.drop_succ_cons] at g0 g1 g2
      have hz : ys.length = 3 := hyl
      rw [List.getElem?_eq_getElem (by omega)] at g0 g1 g2
      obtain ⟨k, e0, _, w0⟩ := DataW.trod_int Try.underlying3 g0
      obtain ⟨s, e1, _, w1⟩ := DataW.trod_string Try.underlying9 g1
      obtain ⟨q, e2, _, w2⟩ := DataW.trod_int Try.underlying3 g2
      simp only [List.cons.injEq, and_true] at e0 e1 e2
      subst e0 e1 e2
      refine ⟨⟨k, s, q⟩, ?_, ?_, ?_, w1, w0, w2⟩
      · have := hat 0 (by omega); rw [addr_add_add] at this; exact this
      · have := hat 1 (by omega); rw [addr_add_add] at this; exact this
      · have := hat 2 (by omega); rw [addr_add_add] at this; exact this
    let f : Nat → Tk := fun i => if h : i < len then Classical.choose (key i h) else default
    have hf2 : ∀ i (h : i < len), W.cell? (x.add (i * 3)) = some (.int .i64 (f i).kind) ∧ W.cell? (x.add (i * 3 + 1)) = some (.string (f i).s) ∧ W.cell? (x.add (i * 3 + 2)) = some (.int .i64 (f i).col) ∧ (f i).s.size ≤ maxLen ∧ (Lit.int .i64 (f i).kind).wf = true ∧ (Lit.int .i64 (f i).col).wf = true := by
      intro i h
      have : f i = Classical.choose (key i h) := dif_pos h
      rw [this]; exact Classical.choose_spec (key i h)
    refine ⟨(List.range len).map f, by simp, hl, hm, ?_, ?_⟩
    · intro q v hv
      have hq : q < len * 3 := by
        have := (List.getElem?_eq_some_iff.1 hv).1
        rw [tksV_length] at this; simpa using this
      obtain ⟨b, o, sp⟩ := x
      have hsp : sp = none := by
        have := World.cell?_spot (hf2 0 (by omega)).1
        simpa [Addr.add] using this
      subst hsp
      have hi3 : q / 3 < len := by omega
      have hg := tksV_get ((List.range len).map f) (q / 3) (q % 3) (by simpa using hi3) (by omega)
      rw [show q / 3 * 3 + q % 3 = q by omega, hv] at hg
      simp only [List.getElem_map, List.getElem_range] at hg
      have hh := hf2 (q / 3) hi3
      have ea : ∀ k, (Addr.mk b o none).add k = ⟨b, o + k, none⟩ := fun k => by unfold Addr.add; split <;> simp_all
      rw [ea, ea, ea] at hh
      have hlt : b < W.heap.size := cell_lt hh.1
      refine ⟨b, o, rfl, hlt, ?_⟩
      rcases (show q % 3 = 0 ∨ q % 3 = 1 ∨ q % 3 = 2 by omega) with h3 | h3 | h3
      · rw [h3] at hg
        have e : q = q / 3 * 3 := by omega
        conv => lhs; rw [e]
        rw [hh.1]; simpa [tkV] using hg.symm
      · rw [h3] at hg
        have e : q = q / 3 * 3 + 1 := by omega
        conv => lhs; rw [e]
        rw [hh.2.1]; simpa [tkV] using hg.symm
      · rw [h3] at hg
        have e : q = q / 3 * 3 + 2 := by omega
        conv => lhs; rw [e]
        rw [hh.2.2.1]; simpa [tkV] using hg.symm
    · intro t ht
      obtain ⟨i, hi', rfl⟩ := List.mem_map.1 ht
      exact (hf2 i (by simpa using hi')).2.2.2
end Go.Proofs.Ytlhmebdljamgkaa
