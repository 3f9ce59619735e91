/- FnExprLast: the region that draws its order and appends to two rows: what holds all the way. -/
import Derived.Test.YtfjmjlpobbjjdaaDoorLsM
import Derived.Test.YtfjmjlpobbjjdaaDoorInv
import Derived.Test.YtfjmjlpobbjjdaaDoorBeM
namespace Go.Proofs.YtfjmjlpobbjjdaaDoor
open Go.RowKit Ilp
set_option linter.unusedVariables false
set_option linter.unusedSimpArgs false

/-- A row being made out of two lists: before the first append, behind it, behind the second; the second list in a block of its own. -/
structure Gr (bs : Nat) (T : TypeId) (us : List Value) (u : Value) (m a b l : Bool) (vm va vb vl : Value) (W : World) : Prop where
  own1 : m = true → a = false → W.ownsRow bs T 1 vm 0 []
  own2 : a = true → b = false → W.ownsRow bs T 1 va us.length us
  own3 : b = true → W.ownsRow bs T 1 vb (us.length + 1) (us ++ [u])
  lit : l = true → b = false → ∃ g, vl = .slice (some ⟨g, 0, none⟩) 1 1 ∧ Blk W g T [u] ∧ (m = true → a = false → vm.ownBlock ≠ some g) ∧ (a = true → va.ownBlock ≠ some g)
section
variable {bs : Nat} {T : TypeId} {us : List Value} {u : Value} {m a b l : Bool} {vm va vb vl : Value} {W W' : World}
/-- Another step that leaves its blocks alone. -/
theorem Gr.keep (h : Gr bs T us u m a b l vm va vb vl W) {r : Option Nat} (hg : W.grownBy W' r) (hr : ∀ k, r = some k → ∃ cs T', W.heap[k]? = some (.cells cs T' (0, 0)) ∧ T' ≠ T) : Gr bs T us u m a b l vm va vb vl W' := by
  have ho : ∀ {n : Nat} {v : Value} {xs : List Value}, W.ownsRow bs T 1 v n xs → W'.ownsRow bs T 1 v n xs := by
    intro n v xs h1
    refine own_apart h1 hg (fun k hk e => ?_)
    obtain ⟨cs, T', hc, hT⟩ := hr k e
    rcases h1.2 with ⟨rfl, _⟩ | ⟨g, cap, cur, rfl, _, hgg, _⟩
    · simp [Value.ownBlock] at hk
    · simp only [Value.ownBlock, Option.some.injEq] at hk
      subst hk
      rw [hgg] at hc
      simp only [Option.some.injEq, Obj.cells.injEq] at hc
      exact hT hc.2.1.symm
  refine ⟨fun x y => ho (h.own1 x y), fun x y => ho (h.own2 x y), fun x => ho (h.own3 x), fun x y => ?_⟩
  obtain ⟨g, e, hB, n1, n2⟩ := h.lit x y
  refine ⟨g, e, blk_apart hB hg (fun e2 => ?_), n1, n2⟩
  obtain ⟨cs, T', hc, hT⟩ := hr g e2
  unfold Blk at hB
  rw [hB] at hc
  simp only [Option.some.injEq, Obj.cells.injEq] at hc
  exact hT hc.2.1.symm
theorem Gr.alloc (h : Gr bs T us u m a b l vm va vb vl W) (o : Obj) : Gr bs T us u m a b l vm va vb vl (W.alloc o) := h.keep (World.grownBy_alloc W o none) (fun k e => by cases e)
/-- The row is begun. -/
theorem Gr.begin (h : Gr bs T us u false false false l vm va vb vl W) (hbs : bs ≤ W.heap.size) : Gr bs T us u true false false l (.slice (some ⟨W.heap.size, 0, none⟩) 0 0) va vb vl (W.alloc (.cells #[] T)) := by
  have h' := h.alloc (.cells #[] T)
  refine ⟨fun _ _ => World.ownsRow_made W #[] 0 hbs (by unfold maxLen; omega) rfl, (fun x => by cases x), (fun x => by cases x), fun x y => ?_⟩
  obtain ⟨g, e, hB, _, n2⟩ := h.lit x y
  refine ⟨g, e, hB.alloc _, fun _ _ e2 => ?_, n2⟩
  simp only [Value.ownBlock, Option.some.injEq] at e2
  have := hB.lt; omega
/-- The second list is laid. -/
theorem Gr.laid (h : Gr bs T us u m a false false vm va vb vl W) : Gr bs T us u m a false true vm va vb (.slice (some ⟨W.heap.size, 0, none⟩) 1 1) (W.alloc (.cells #[u] T)) := by
  have h' := h.alloc (.cells #[u] T)
  refine ⟨h'.own1, h'.own2, (fun x => by cases x), fun _ _ => ⟨W.heap.size, rfl, Blk.alloc_ W T [u], fun x y e => ?_, fun x e => ?_⟩⟩
  · have := ((h.own1 x y).lt _ e).2; omega
  · have := ((h.own2 x rfl).lt _ e).2; omega
/-- The first append. -/
theorem Gr.app1 (h : Gr bs T us u true false false l vm va vb vl W) {v' : Value} (hown : W'.ownsRow bs T 1 v' us.length us) (hg : W.grownBy W' vm.ownBlock) (hat : v'.ownBlock = vm.ownBlock ∨ v'.ownBlock = some W.heap.size) : Gr bs T us u true true false l vm v' vb vl W' := by
  refine ⟨(fun _ y => by cases y), fun _ _ => hown, (fun x => by cases x), fun x y => ?_⟩
  obtain ⟨g, e, hB, n1, _⟩ := h.lit x y
  refine ⟨g, e, blk_apart hB hg (fun e2 => n1 rfl rfl e2), (fun _ y => by cases y), fun _ e2 => ?_⟩
  rcases hat with e3 | e3
  · rw [e3] at e2; exact n1 rfl rfl e2
  · rw [e3] at e2; simp only [Option.some.injEq] at e2; have := hB.lt; omega
/-- The second append. -/
theorem Gr.app2 (h : Gr bs T us u true true false true vm va vb vl W) {v' : Value} (hown : W'.ownsRow bs T 1 v' (us.length + 1) (us ++ [u])) : Gr bs T us u true true true true vm va v' vl W' :=
  ⟨(fun _ y => by cases y), (fun _ y => by cases y), fun _ => hown, (fun _ y => by cases y)⟩
end
end Go.Proofs.YtfjmjlpobbjjdaaDoor
