/- One that is ok, bent: never ok. Its cells. -/
import Derived.Test.YtfjmjlpobbjjdaaDoorDB
import Derived.Test.YtfjmjlpobbjjdaaDoorWA
import Derived.Test.YtfjmjlpobbjjdaaDoorEA
import Derived.Laws.AppendOwnNone
namespace Ilp
theorem exprOk_parts {t : Ex} (h : exprOk t = true) : okK t.kind t.num t.txt = true ∧ t.kids.length = kidsN t.kind := by
  rw [exprOk_form, form_step] at h
  simp only [Bool.and_eq_true, beq_iff_eq] at h
  exact ⟨h.1.1.1, h.1.1.2⟩
theorem exprOk_bad {t : Ex} (h : (okK t.kind t.num t.txt && (t.kids.length == kidsN t.kind)) = false) : exprOk t = false := by
  rw [exprOk_form, form_step, h]; simp
theorem okK_five (n : Int) (s : List UInt8) : okK 5 n s = false := by unfold okK; simp
theorem okK_neg (k : Int) (s : List UInt8) : okK k (-1) s = false := by
  unfold okK
  split
  · simp
  · split
    · simp
    · split
      · simp
      · split <;> simp
theorem okK_let (k n : Int) : okK k n [108, 101, 116] = false := by
  have h1 : isName [108, 101, 116] = false := by decide
  have h2 : opOf [108, 101, 116] = none := by decide
  have h3 : isType [108, 101, 116] = false := by decide
  unfold okK
  split
  · simp
  · split
    · simp [h1]
    · split
      · simp [h2]
      · split <;> simp [h3]
theorem exprOk_more {t : Ex} (h : exprOk t = true) (x : Ex) : exprOk (.mk t.kind t.num t.txt (t.kids ++ [x])) = false := by
  apply exprOk_bad
  have := (exprOk_parts h).2
  obtain ⟨k, n, s, ks⟩ := t
  simp only [Ex.kind, Ex.num, Ex.txt, Ex.kids] at this ⊢
  have h2 : ((ks ++ [x]).length == kidsN k) = false := by rw [beq_eq_false_iff_ne, List.length_append, this]; simp
  rw [h2, Bool.and_false]
theorem exprOk_five (n : Int) (s : List UInt8) (ks : List Ex) : exprOk (.mk 5 n s ks) = false := by
  apply exprOk_bad; simp only [Ex.kind, Ex.num, Ex.txt, Ex.kids, okK_five, Bool.false_and]
theorem exprOk_neg (k : Int) (s : List UInt8) (ks : List Ex) : exprOk (.mk k (-1) s ks) = false := by
  apply exprOk_bad; simp only [Ex.kind, Ex.num, Ex.txt, Ex.kids, okK_neg, Bool.false_and]
theorem exprOk_let (k n : Int) (ks : List Ex) : exprOk (.mk k n [108, 101, 116] ks) = false := by
  apply exprOk_bad; simp only [Ex.kind, Ex.num, Ex.txt, Ex.kids, okK_let, Bool.false_and]
end Ilp
namespace Go.Proofs.YtfjmjlpobbjjdaaDoor
open Go.RowKit Ilp
set_option linter.unusedVariables false

theorem IsEV.bend {W : World} {k n : Int} {s : ByteArray} {A : Option Addr} {l c : Nat} {t : Ex} (h : IsEV W [.int .i64 k, .int .i64 n, .string s, .slice A l c] t) (k' n' : Int) (s' : ByteArray) (hs : s'.size ≤ maxLen) :
    IsEV W [.int .i64 k', .int .i64 n', .string s', .slice A l c] (.mk k' n' s'.data.toList t.kids) := by
  obtain ⟨d, h⟩ := h
  cases d with
  | zero => exact h.elim
  | succ d =>
    obtain ⟨A', c', e, h1, h2, h3, hk⟩ := h
    simp only [exC, List.cons.injEq, Value.int.injEq, Value.string.injEq, Value.slice.injEq, true_and, and_true] at e
    obtain ⟨_, _, _, rfl, rfl, rfl⟩ := e
    exact ⟨d + 1, A, c, exC_mk k' n' s' t.kids A _ c rfl, h1, h2, hs, hk⟩
/-- Lists of four cells each, and what each of them is. -/
def EVs (W : World) (dss : List (List Value)) (xs : List Ex) : Prop := dss.length = xs.length ∧ ∀ (i : Nat) ds x, dss[i]? = some ds → xs[i]? = some x → ds.length = 4 ∧ IsEV W ds x
theorem EVs.nil (W : World) : EVs W [] [] := ⟨rfl, fun i ds x h => by simp at h⟩
theorem EVs.cons {W : World} {ds : List Value} {x : Ex} {dss : List (List Value)} {xs : List Ex} (hl : ds.length = 4) (hx : IsEV W ds x) (h : EVs W dss xs) : EVs W (ds :: dss) (x :: xs) := by
  refine ⟨by simp [h.1], fun i d y hd hy => ?_⟩
  cases i with
  | zero => simp at hd hy; subst hd hy; exact ⟨hl, hx⟩
  | succ i => exact h.2 i d y (by simpa using hd) (by simpa using hy)
theorem EVs.depth {W : World} : ∀ (dss : List (List Value)) (xs : List Ex), EVs W dss xs → ∃ D, ∀ (i : Nat) ds x, dss[i]? = some ds → xs[i]? = some x → ExAt W (Low W) D ds x := by
  intro dss
  induction dss with
  | nil => intro xs h; exact ⟨0, fun i ds x h => by simp at h⟩
  | cons d dss ih =>
    intro xs h
    cases xs with
    | nil => have := h.1; simp at this
    | cons x xs =>
      obtain ⟨D, hD⟩ := ih xs ⟨by have := h.1; simpa using this, fun i ds y hd hy => h.2 (i + 1) ds y (by simpa using hd) (by simpa using hy)⟩
      obtain ⟨D', hD'⟩ := (h.2 0 d x (by simp) (by simp)).2
      refine ⟨max D D', fun i ds y hd hy => ?_⟩
      cases i with
      | zero => simp at hd hy; subst hd hy; exact hD'.deep (Nat.le_max_right _ _)
      | succ i => exact (hD i ds y (by simpa using hd) (by simpa using hy)).deep (Nat.le_max_left _ _)
theorem flat4 : ∀ (dss : List (List Value)) (i : Nat) (ds : List Value) (j : Nat) (v : Value), (∀ d ∈ dss, d.length = 4) → dss[i]? = some ds → ds[j]? = some v → dss.flatten[i * 4 + j]? = some v := by
  intro dss
  induction dss with
  | nil => intro i ds j v _ h; simp at h
  | cons d dss ih =>
    intro i ds j v hl hd hv
    have h4 : d.length = 4 := hl d (by simp)
    cases i with
    | zero =>
      simp at hd; subst hd
      have hj := (List.getElem?_eq_some_iff.1 hv).1
      rw [List.flatten_cons, List.getElem?_append_left (by omega)]
      rw [show 0 * 4 + j = j by omega]; exact hv
    | succ i =>
      rw [List.flatten_cons, List.getElem?_append_right (by omega), h4]
      rw [show (i + 1) * 4 + j - 4 = i * 4 + j by omega]
      exact ih i ds j v (fun d' hd' => hl d' (by simp [hd'])) (by simpa using hd) hv
theorem EVs.kids {W : World} {A : Option Addr} {dss : List (List Value)} {xs : List Ex} (h : EVs W dss xs) (hr : Row W W.heap.size A dss.flatten) : ∃ D, Kids W (Low W) D A xs := by
  obtain ⟨D, hD⟩ := EVs.depth dss xs h
  refine ⟨D, fun i x hx => ?_⟩
  have hi : i < dss.length := by have := (List.getElem?_eq_some_iff.1 hx).1; rw [h.1]; exact this
  have hd := List.getElem?_eq_getElem hi
  have h4 : ∀ d ∈ dss, d.length = 4 := by
    intro d hd
    obtain ⟨j, hj, rfl⟩ := List.getElem_of_mem hd
    have hjx : j < xs.length := by rw [← h.1]; exact hj
    exact (h.2 j dss[j] xs[j] (List.getElem?_eq_getElem hj) (List.getElem?_eq_getElem hjx)).1
  have hl := h4 dss[i] (List.getElem_mem hi)
  obtain ⟨b, o, rfl, hb, hc⟩ := hr (i * 4) _ (by have := flat4 dss i dss[i] 0 (dss[i]'hi)[0] h4 hd (by rw [List.getElem?_eq_getElem (by omega)]); simpa using this)
  refine ⟨b, o, dss[i], rfl, hb, hD i _ x hd hx, fun j v hv => ?_⟩
  obtain ⟨b', o', e, hb', hc'⟩ := hr (i * 4 + j) v (flat4 dss i _ j v h4 hd hv)
  simp only [Option.some.injEq, Addr.mk.injEq, and_true] at e
  obtain ⟨rfl, rfl⟩ := e
  rw [Nat.add_assoc]; exact hc'
theorem EVs.snoc {W : World} {dss : List (List Value)} {xs : List Ex} {ds : List Value} {x : Ex} (h : EVs W dss xs) (hl : ds.length = 4) (hx : IsEV W ds x) : EVs W (dss ++ [ds]) (xs ++ [x]) := by
  refine ⟨by simp [h.1], fun i d y hd hy => ?_⟩
  have h1 := h.1
  by_cases hi : i < dss.length
  · rw [List.getElem?_append_left hi] at hd
    rw [List.getElem?_append_left (by omega)] at hy
    exact h.2 i d y hd hy
  · have hi2 := (List.getElem?_eq_some_iff.1 hd).1
    simp at hi2
    have : i = dss.length := by omega
    subst this
    rw [List.getElem?_append_right (Nat.le_refl _)] at hd
    rw [List.getElem?_append_right (by omega)] at hy
    rw [h1] at hy
    simp at hd hy; subst hd hy
    exact ⟨hl, hx⟩
theorem EVs.below {W W' : World} {dss : List (List Value)} {xs : List Ex} (h : EVs W dss xs) (hb : Below W.heap.size W W') : EVs W' dss xs := ⟨h.1, fun i d y hd hy => ⟨(h.2 i d y hd hy).1, (h.2 i d y hd hy).2.below hb⟩⟩
theorem own_row2 {w : World} {base n : Nat} {e : TypeId} {v : Value} {xs : List Value} (h : w.ownsRow base e 4 v n xs) : ∃ A c, v = .slice A n c ∧ n ≤ c ∧ c ≤ maxLen ∧ Row w w.heap.size A xs := by
  obtain ⟨A, c, rfl, hc, hr⟩ := own_row h
  refine ⟨A, c, rfl, hc, ?_, hr⟩
  rcases h.2 with ⟨h1, h2⟩ | ⟨g, cap, cur, h1, _, _, _, h4, _⟩
  · simp only [Value.slice.injEq] at h1; rw [h1.2.2]; unfold maxLen; omega
  · simp only [Value.slice.injEq] at h1; rw [h1.2.2]; exact h4
theorem isEV_made {W : World} {A : Option Addr} {l c : Nat} {dss : List (List Value)} {xs : List Ex} (h : EVs W dss xs) (hr : Row W W.heap.size A dss.flatten) (hl : xs.length = l) (hc : l ≤ c) (hm : c ≤ maxLen) (k n : Int) (s : ByteArray) (hs : s.size ≤ maxLen) :
    IsEV W [.int .i64 k, .int .i64 n, .string s, .slice A l c] (.mk k n s.data.toList xs) := by
  obtain ⟨D, hk⟩ := h.kids hr
  exact ⟨D + 1, A, c, exC_mk k n s xs A l c hl, by simp only [Ex.kids]; omega, hm, hs, hk⟩
theorem run_append_zero {P : Program} {w : World} (base : Nat) (t ty e : TypeId) (i : TypeInfo) (size : Nat) (ht : P.underlying t = some (.slice e)) (hi : P.info? e = some i)
    (v : Value) (n : Nat) (xs : List Value) (hown : w.ownsRow base e size v n xs) (A : Option Addr) (c : Nat) :
    (Builtin.append_ #[t, t] ty #[v, .slice A 0 c]).run P w = .ok v w := by
  rcases hown.2 with ⟨rfl, rfl⟩ | ⟨g, cap, cur, rfl, _, _, hnc, _⟩
  · cases A <;> simp [Builtin.append_, run_underlying ht, sizeOf, typeInfo, hi, Builtin.lenOf, Builtin.firstCells, loadCells, loadCellsFrom]
  · cases A <;> simp [Builtin.append_, run_underlying ht, sizeOf, typeInfo, hi, Builtin.lenOf, Builtin.firstCells, hnc, storeCells, loadCells, loadCellsFrom]
theorem wpList_append_zero {P : Program} {w : World} {ops : Array Oper} {rest : List Oper} {o : Oper} {a : Act} {Q : Exit → Act → World → Prop} (hgd : o.guard = none) (s x : Operand) (t : TypeId)
    (ho : o.op = .call { callee := .builtin .append, args := #[s, x], argTypes := #[t, t] })
    (base : Nat) (e : TypeId) (i : TypeInfo) (size : Nat) (ht : P.underlying t = some (.slice e)) (hi : P.info? e = some i)
    (v : Value) (n : Nat) (xs : List Value) (hs : a.eval s = v) (hown : w.ownsRow base e size v n xs) (A : Option Addr) (c : Nat) (hx : a.eval x = .slice A 0 c)
    (h : wpList P ops Q rest (a.put o.dst v) w) : wpList P ops Q (o :: rest) a w := by
  refine wpList_plain hgd fun K hK => ?_
  have hrun := run_append_zero (P := P) (w := w) base t o.type e i size ht hi v n xs hown A c
  unfold Oper.wp
  simp [execOp, ho, resolve, invoke, builtin, hs, hx, hrun, Result.andThen]
  exact hK _ _ h
set_option maxRecDepth 20000 in
/-- Of one that is not ok there are no words. -/
theorem implWordsNone (k n : Int) (s : ByteArray) (A : Option Addr) (l c : Nat) (t : Ex) (W : World) (h : IsEV W [.int .i64 k, .int .i64 n, .string s, .slice A l c] t) (hw : wgt t ≤ 1048576) (hT : Tabs W) (hok : exprOk t = false) :
    Calls Tryd.prog 27 #[.agg #[.int .i64 k, .int .i64 n, .string s, .slice A l c]] W fun e w' => e = .returned (.slice none 0 0) ∧ Below W.heap.size W w' := by
  have hb0 : Below W.heap.size W (W.alloc (.cells #[.int .i64 k, .int .i64 n, .string s, .slice A l c] 25)) := by go_grown
  have HC := Lib.hid (implExprOk k n s A l c t _ (h.below hb0) hw (hT.keep hb0))
  rw [hok] at HC
  have HB := Lib.hid hb0
  clear h hT hb0 hok
  go_enter Tryd.func27, Tryd.ntmps27
  go_wp2_with fail
  refine HC.out.mono ?_
  rintro e w1 ⟨rfl, hb1⟩
  have HB1 : Hid (Below W.heap.size W w1) := HB.out.trans (hb1.mono HB.out.size)
  clear hb1
  go_wp2_with fail
  go_ret
  exact ⟨rfl, HB1.out⟩
end Go.Proofs.YtfjmjlpobbjjdaaDoor
