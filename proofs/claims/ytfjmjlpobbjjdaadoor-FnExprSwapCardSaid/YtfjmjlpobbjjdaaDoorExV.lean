/- The walk of FnExactExprSame. -/
import Derived.Test.YtfjmjlpobbjjdaaDoorExIm
namespace Go.Proofs.YtfjmjlpobbjjdaaDoor
open Go.RowKit Ilp
set_option linter.unusedVariables false

/-- These cells are this, in memory that stands. -/
def IsEV (W : World) (cs : List Value) (t : Ex) : Prop := ∃ d, ExAt W (Low W) d cs t
theorem IsEV.below {W W' : World} {cs : List Value} {t : Ex} (h : IsEV W cs t) (hb : Below W.heap.size W W') : IsEV W' cs t := by
  obtain ⟨d, h⟩ := h; exact ⟨d, h.below hb⟩
theorem IsEV.parts {W : World} {k n : Int} {g : ByteArray} {A : Option Addr} {l c : Nat} {t : Ex} (h : IsEV W [.int .i64 k, .int .i64 n, .string g, .slice A l c] t) :
    k = t.kind ∧ n = t.num ∧ g = mkB t.txt ∧ l = t.kids.length ∧ t.kids.length ≤ c ∧ c ≤ maxLen ∧ t.txt.length ≤ maxLen ∧ ∃ d, Kids W (Low W) d A t.kids := by
  obtain ⟨d, h⟩ := h
  cases d with
  | zero => exact h.elim
  | succ d =>
    obtain ⟨A', c', e, h1, h2, h3, hk⟩ := h
    simp only [exC, List.cons.injEq, Value.int.injEq, Value.string.injEq, Value.slice.injEq, true_and, and_true] at e
    obtain ⟨rfl, rfl, rfl, rfl, rfl, rfl⟩ := e
    exact ⟨rfl, rfl, rfl, rfl, h1, h2, h3, d, hk⟩
theorem IsEV.mk {W : World} {d : Nat} {A : Option Addr} {c : Nat} {t : Ex} (h1 : t.kids.length ≤ c) (h2 : c ≤ maxLen) (h3 : t.txt.length ≤ maxLen) (hk : Kids W (Low W) d A t.kids) :
    IsEV W [.int .i64 t.kind, .int .i64 t.num, .string (mkB t.txt), .slice A t.kids.length c] t := ⟨d + 1, A, c, rfl, h1, h2, h3, hk⟩
theorem isExpr_open {w : World} {x : Array Value} {t : ExprT} (h : IsExpr w x t) : ∃ (k n : Int) (g : ByteArray) (A : Option Addr) (l c : Nat), x = #[.int .i64 k, .int .i64 n, .string g, .slice A l c] ∧ IsEV w [.int .i64 k, .int .i64 n, .string g, .slice A l c] t := by
  obtain ⟨d, h⟩ := h
  cases d with
  | zero => exact h.elim
  | succ d =>
    obtain ⟨A', c', e, h1, h2, h3, hk⟩ := h
    refine ⟨t.kind, t.num, mkB t.txt, A', t.kids.length, c', ?_, IsEV.mk h1 h2 h3 hk⟩
    apply Array.ext'; rw [e]; rfl
abbrev wtExpr := wgt
noncomputable abbrev sameExpr := exEq

theorem szExprV (k n : Int) (g : ByteArray) (A : Option Addr) (l c : Nat) (t : ExprT) (left : Int) (W : World) (h : IsEV W [.int .i64 k, .int .i64 n, .string g, .slice A l c] t) (h0 : 0 ≤ left) (h1 : left ≤ 1048576) :
    Calls Tryd.prog 18 #[.agg #[.int .i64 k, .int .i64 n, .string g, .slice A l c], .int .i64 left] W (SzR (wtExpr t) left W) := by
  obtain ⟨rfl, rfl, rfl, rfl, h2, h3, h4, d, hk⟩ := h.parts
  exact (szExpr_all d).1 t A c left W hk (Nat.le_trans h2 h3) h4 h0 h1
theorem toExprV (k n : Int) (g : ByteArray) (A : Option Addr) (l c : Nat) (t : ExprT) (W : World) (h : IsEV W [.int .i64 k, .int .i64 n, .string g, .slice A l c] t) (hw : wtExpr t ≤ 1048576) :
    Calls Tryd.prog 20 #[.agg #[.int .i64 k, .int .i64 n, .string g, .slice A l c]] W fun e w' => ∃ (A' : Option Addr) (c' : Nat), e = .returned (.agg #[.int .i64 k, .int .i64 n, .string g, .slice A' l c']) ∧ IsEV w' [.int .i64 k, .int .i64 n, .string g, .slice A' l c'] t ∧ Below W.heap.size W w' := by
  obtain ⟨rfl, rfl, rfl, rfl, h2, h3, h4, d, hk⟩ := h.parts
  have e := wgt_eq t
  have h5 := wgts_len t.kids
  have h6 : wgt t ≤ 1048576 := hw
  refine ((toExpr_all d).1 t A c W hk h4 (by omega)).mono ?_
  rintro e w' ⟨A', rfl, hk', _, hb⟩
  exact ⟨A', t.kids.length, rfl, IsEV.mk (Nat.le_refl _) (by unfold maxLen; omega) h4 hk'.low, hb⟩
theorem sameV {F : FuncId} (hF : ∀ d, QSame F d) {k n k' n' : Int} {g g' : ByteArray} {A A' : Option Addr} {l c l' c' : Nat} {t u : ExprT} {W : World} (h : IsEV W [.int .i64 k, .int .i64 n, .string g, .slice A l c] t) (h' : IsEV W [.int .i64 k', .int .i64 n', .string g', .slice A' l' c'] u) :
    Calls Tryd.prog F #[.agg #[.int .i64 k, .int .i64 n, .string g, .slice A l c], .agg #[.int .i64 k', .int .i64 n', .string g', .slice A' l' c']] W fun e w' => e = .returned (.bool (sameExpr t u)) ∧ Below W.heap.size W w' := by
  obtain ⟨rfl, rfl, rfl, rfl, h2, h3, h4, d, hk⟩ := h.parts
  obtain ⟨rfl, rfl, rfl, rfl, h2', h3', h4', d', hk'⟩ := h'.parts
  exact hF (max d d') t u A A' c c' W (hk.deep (by omega)) (hk'.deep (by omega)) (Nat.le_trans h2 h3) (Nat.le_trans h2' h3')
theorem specExprV {k n k' n' : Int} {g g' : ByteArray} {A A' : Option Addr} {l c l' c' : Nat} {t u : ExprT} {W : World} (h : IsEV W [.int .i64 k, .int .i64 n, .string g, .slice A l c] t) (h' : IsEV W [.int .i64 k', .int .i64 n', .string g', .slice A' l' c'] u) :
    Calls Tryd.prog 40 #[.agg #[.int .i64 k, .int .i64 n, .string g, .slice A l c], .agg #[.int .i64 k', .int .i64 n', .string g', .slice A' l' c']] W fun e w' => e = .returned (.bool (sameExpr t u)) ∧ Below W.heap.size W w' := sameV specExprSame_all h h'
theorem implExprV {k n k' n' : Int} {g g' : ByteArray} {A A' : Option Addr} {l c l' c' : Nat} {t u : ExprT} {W : World} (h : IsEV W [.int .i64 k, .int .i64 n, .string g, .slice A l c] t) (h' : IsEV W [.int .i64 k', .int .i64 n', .string g', .slice A' l' c'] u) :
    Calls Tryd.prog 39 #[.agg #[.int .i64 k, .int .i64 n, .string g, .slice A l c], .agg #[.int .i64 k', .int .i64 n', .string g', .slice A' l' c']] W fun e w' => e = .returned (.bool (sameExpr t u)) ∧ Below W.heap.size W w' := sameV (fun d => (implExprSame_all d).1) h h'
theorem eqExprV {k n k' n' : Int} {g g' : ByteArray} {A A' : Option Addr} {l c l' c' : Nat} {t : ExprT} {W : World} (h : IsEV W [.int .i64 k, .int .i64 n, .string g, .slice A l c] t) (h' : IsEV W [.int .i64 k', .int .i64 n', .string g', .slice A' l' c'] t) :
    Calls Tryd.prog 23 #[.agg #[.int .i64 k, .int .i64 n, .string g, .slice A l c], .agg #[.int .i64 k', .int .i64 n', .string g', .slice A' l' c']] W fun e w' => e = .returned (.bool true) ∧ Below W.heap.size W w' := by
  obtain ⟨rfl, rfl, rfl, rfl, h2, h3, h4, d, hk⟩ := h.parts
  obtain ⟨rfl, rfl, rfl, rfl, h2', h3', h4', d', hk'⟩ := h'.parts
  exact (eqExpr_all (max d d')).1 t A A' c c' W (hk.deep (by omega)) (hk'.deep (by omega)) (Nat.le_trans h2 h3)

end Go.Proofs.YtfjmjlpobbjjdaaDoor
