/- The marks that a law lays into what is reckoned. -/
import Derived.Test.YtfjmjlpobbjjdaaDoorSA
import Derived.Test.YtfjmjlpobbjjdaaDoorXA
namespace Go.Proofs.YtfjmjlpobbjjdaaDoor
open Go.RowKit Ilp
set_option linter.unusedVariables false
set_option linter.unusedSimpArgs false

/-- Parts in blocks of their own, as many as there are in what is reckoned. -/
def NewE (T : TypeId) (w : World) (B : Nat) : Nat → List Ex → Option Addr → Prop
  | 0, ts, _ => ts = []
  | d + 1, ts, A => ts = [] ∨ ∃ g cs, A = some ⟨g, 0, none⟩ ∧ B ≤ g ∧ w.heap[g]? = some (.cells cs T (0, 0)) ∧ cs.size = ts.length * 4 ∧ ∀ i x, ts[i]? = some x → ∃ A' c', cs[i * 4 + 3]? = some (.slice A' x.kids.length c') ∧ NewE T w B d x.kids A'
/-- Only such blocks are written to, and where their parts lie stays. -/
structure MkS (T : TypeId) (B : Nat) (w w' : World) : Prop where
  be : Below B w w'
  bl : ∀ g, B ≤ g → g < w.heap.size → w'.heap[g]? = w.heap[g]? ∨ ∃ cs cs', w.heap[g]? = some (.cells cs T (0, 0)) ∧ w'.heap[g]? = some (.cells cs' T (0, 0)) ∧ cs'.size = cs.size ∧ ∀ i : Nat, cs'[i * 4 + 3]? = cs[i * 4 + 3]?
section
variable {T : TypeId} {B : Nat} {w w' w'' : World}
theorem MkS.refl (T : TypeId) (B : Nat) (w : World) : MkS T B w w := ⟨Below.refl _ _, fun g _ _ => .inl rfl⟩
theorem MkS.trans (h : MkS T B w w') (k : MkS T B w' w'') : MkS T B w w'' := by
  refine ⟨h.be.trans k.be, fun g hg hl => ?_⟩
  have hl' := Nat.lt_of_lt_of_le hl h.be.size
  rcases h.bl g hg hl with e | ⟨cs, cs', e1, e2, e3, e4⟩
  · rcases k.bl g hg hl' with f | ⟨ds, ds', f1, f2, f3, f4⟩
    · exact .inl (f.trans e)
    · exact .inr ⟨ds, ds', e ▸ f1, f2, f3, f4⟩
  · rcases k.bl g hg hl' with f | ⟨ds, ds', f1, f2, f3, f4⟩
    · exact .inr ⟨cs, cs', e1, f.trans e2, e3, e4⟩
    · rw [e2] at f1
      simp only [Option.some.injEq, Obj.cells.injEq] at f1
      obtain ⟨rfl, _⟩ := f1
      exact .inr ⟨cs, ds', e1, f2, f3.trans e3, fun i => (f4 i).trans (e4 i)⟩
theorem MkS.of (h : Below w.heap.size w w') (hB : B ≤ w.heap.size) : MkS T B w w' := ⟨h.mono hB, fun g _ hl => .inl (h.block g hl)⟩
/-- A store that is none of where parts lie. -/
theorem MkS.set {g j : Nat} {cs : Array Value} (hg : w.heap[g]? = some (.cells cs T (0, 0))) (hB : B ≤ g) (hj : j % 4 ≠ 3) (v : Value) : MkS T B w (w.setCell ⟨g, j, none⟩ v) := by
  refine ⟨(Below.refl _ _).setCell hB v, fun b hb hl => ?_⟩
  by_cases e : b = g
  · subst e
    refine .inr ⟨cs, cs.setIfInBounds j v, hg, by simp [World.setCell, Array.getElem?_modify, hg], by simp, fun i => ?_⟩
    rw [Array.getElem?_setIfInBounds_ne (by omega)]
  · exact .inl (Below.heap_setCell _ _ _ _ e)
theorem NewE.keep (h : MkS T B w w') : ∀ {d : Nat} {ts : List Ex} {A : Option Addr}, NewE T w B d ts A → NewE T w' B d ts A := by
  intro d
  induction d with
  | zero => intro ts A h; exact h
  | succ d ih =>
    intro ts A hn
    rcases hn with hn | ⟨g, cs, rfl, hg, hc, hs, hi⟩
    · exact .inl hn
    · have hl := heap_lt hc
      rcases h.bl g hg hl with e | ⟨ds, ds', e1, e2, e3, e4⟩
      · exact .inr ⟨g, cs, rfl, hg, e.trans hc, hs, fun i x hx => by obtain ⟨A', c', h1, h2⟩ := hi i x hx; exact ⟨A', c', h1, ih h2⟩⟩
      · rw [hc] at e1
        simp only [Option.some.injEq, Obj.cells.injEq] at e1
        obtain ⟨rfl, _⟩ := e1
        exact .inr ⟨g, ds', rfl, hg, e2, by omega, fun i x hx => by obtain ⟨A', c', h1, h2⟩ := hi i x hx; exact ⟨A', c', (e4 i).trans h1, ih h2⟩⟩
theorem MkS.blk {T' : TypeId} {b : Nat} {vs : List Value} (h : MkS T B w w') (hb : Blk w b T' vs) (hT : T' ≠ T) : Blk w' b T' vs := by
  by_cases hB : B ≤ b
  · rcases h.bl b hB hb.lt with e | ⟨cs, cs', e1, _⟩
    · exact e.trans hb
    · unfold Blk at hb
      rw [hb] at e1
      simp only [Option.some.injEq, Obj.cells.injEq] at e1
      exact absurd e1.2.1 hT
  · exact (h.be.block b (by omega)).trans hb
theorem newE_of : ∀ (d d' : Nat) (ts : List Ex) (A : Option Addr) (len : Nat), Kids w (Span B w) d' A ts → ts.length = len → NewAt T w B d A len → NewE T w B d ts A := by
  intro d
  induction d with
  | zero => intro d' ts A len hk hl hn; exact List.eq_nil_of_length_eq_zero (by rw [hl]; exact hn)
  | succ d ih =>
    intro d' ts A len hk hl hn
    rcases hn with hn | ⟨g, cs, rfl, hg, hc, hs, hi⟩
    · exact .inl (List.eq_nil_of_length_eq_zero (by omega))
    · refine .inr ⟨g, cs, rfl, hg, hc, by omega, fun i x hx => ?_⟩
      have hil := (List.getElem?_eq_some_iff.1 hx).1
      obtain ⟨A', l', c', h1, h2⟩ := hi i (by omega)
      obtain ⟨b, o, ds, e, hb, hR, hcl⟩ := hk i x hx
      simp only [Option.some.injEq, Addr.mk.injEq, and_true] at e
      obtain ⟨rfl, rfl⟩ := e
      cases d' with
      | zero => exact hR.elim
      | succ d' =>
        obtain ⟨A2, c2, rfl, _, _, _, hk2⟩ := hR
        have h3 := hcl 3 (.slice A2 x.kids.length c2) rfl
        have h4 : w.cell? ⟨g, i * 4 + 3, none⟩ = cs[i * 4 + 3]? := by simp [World.cell?, hc]
        rw [Nat.zero_add, h4, h1] at h3
        simp only [Option.some.injEq, Value.slice.injEq] at h3
        obtain ⟨rfl, rfl, rfl⟩ := h3
        exact ⟨A', c', h1, ih d' _ _ _ hk2 rfl h2⟩

theorem wgts_take_le (ts : List Ex) (i : Nat) : wgts (ts.take i) ≤ wgts ts := by
  conv => rhs; rw [← List.take_append_drop i ts]
  rw [wgts_app]; omega
theorem set_cells {g j : Nat} {v : Value} (h : ∃ cs, w.heap[g]? = some (.cells cs T (0, 0))) : ∃ cs, (w.setCell ⟨g, j, none⟩ v).heap[g]? = some (.cells cs T (0, 0)) := by
  obtain ⟨cs, h⟩ := h
  exact ⟨cs.setIfInBounds j v, by simp [World.setCell, Array.getElem?_modify, h]⟩
theorem NewE.at_ {d i : Nat} {ts : List Ex} {A : Option Addr} {x : Ex} (h : NewE T w B (d + 1) ts A) (hx : ts[i]? = some x) : ∃ g A' c', A = some ⟨g, 0, none⟩ ∧ B ≤ g ∧ (∃ v, w.cell? ⟨g, i * 4, none⟩ = some v) ∧ (∃ v, w.cell? ⟨g, i * 4 + 1, none⟩ = some v) ∧ (∃ v, w.cell? ⟨g, i * 4 + 2, none⟩ = some v) ∧ w.cell? ⟨g, i * 4 + 3, none⟩ = some (.slice A' x.kids.length c') ∧ (∀ j, w.frozen? ⟨g, j, none⟩ = false) ∧ (∃ cs, w.heap[g]? = some (.cells cs T (0, 0))) ∧ NewE T w B d x.kids A' := by
  have hi := (List.getElem?_eq_some_iff.1 hx).1
  rcases h with e | ⟨g, cs, rfl, hg, hc, hs, hh⟩
  · subst e; simp at hi
  obtain ⟨A', c', h1, h2⟩ := hh i x hx
  have hcell : ∀ j, w.cell? ⟨g, j, none⟩ = cs[j]? := fun j => by simp [World.cell?, hc]
  have hB : Blk w g T cs.toList := by unfold Blk; rw [hc]
  have hex : ∀ j, j < cs.size → ∃ v, w.cell? ⟨g, j, none⟩ = some v := fun j hj => ⟨cs[j], by rw [hcell]; exact Array.getElem?_eq_getElem hj⟩
  exact ⟨g, A', c', rfl, hg, hex _ (by omega), hex _ (by omega), hex _ (by omega), by rw [hcell]; exact h1, fun j => hB.frozen j, ⟨cs, hc⟩, h2⟩
theorem MkS.set' {g j : Nat} (hc : ∃ cs, w.heap[g]? = some (.cells cs T (0, 0))) (hB : B ≤ g) (hj : j % 4 ≠ 3) (v : Value) : MkS T B w (w.setCell ⟨g, j, none⟩ v) := by
  obtain ⟨cs, hc⟩ := hc; exact MkS.set hc hB hj v
end

/-- A copy, in blocks that may be written. -/
theorem toExprM (k n : Int) (g : ByteArray) (A : Option Addr) (l c : Nat) (t : ExprT) (W : World) (h : IsEV W [.int .i64 k, .int .i64 n, .string g, .slice A l c] t) (hw : wtExpr t ≤ 1048576) :
    Calls Tryd.prog 20 #[.agg #[.int .i64 k, .int .i64 n, .string g, .slice A l c]] W fun e w' => ∃ (A' : Option Addr) (c' d' : Nat), e = .returned (.agg #[.int .i64 k, .int .i64 n, .string g, .slice A' l c']) ∧ IsEV w' [.int .i64 k, .int .i64 n, .string g, .slice A' l c'] t ∧ NewE 25 w' W.heap.size d' t.kids A' ∧ Hid (t.kids.length = l) ∧ Below W.heap.size W w' := by
  obtain ⟨rfl, rfl, rfl, rfl, h2, h3, h4, d, hk⟩ := h.parts
  have e := wgt_eq t
  have h5 := wgts_len t.kids
  have h6 : wgt t ≤ 1048576 := hw
  refine ((toExpr_all d).1 t A c W hk h4 (by omega)).mono ?_
  rintro e w' ⟨A', rfl, hk', hn, hb⟩
  exact ⟨A', t.kids.length, d, rfl, IsEV.mk (Nat.le_refl _) (by unfold maxLen; omega) h4 hk'.low, newE_of _ _ _ _ _ hk' rfl hn, rfl, hb⟩
def MarkR (T : TypeId) (B : Nat) (k : Nat) (n : Nat) (w : World) (e : Ending) (w' : World) : Prop := ∃ k' : Nat, e = .returned (.int .i64 (k' : Int)) ∧ k ≤ k' ∧ k' ≤ k + 3 * n ∧ MkS T B w w'
def QMark (d : Nat) : Prop := ∀ (ts : List Ex) (A : Option Addr) (m c B k : Nat) (w : World), NewE 25 w B d ts A → Hid (ts.length = m) → B ≤ w.heap.size → 0 < k → ((k + 3 * wgts ts : Nat) : Int) ≤ 100000000 →
  Calls Tryd.prog 71 #[.slice A m c, .int .i64 (k : Int)] w (MarkR 25 B k (wgts ts) w)
set_option maxHeartbeats 2000000 in
set_option maxRecDepth 20000 in
theorem markExprS_step (d : Nat) (ih : ∀ d', d = d' + 1 → QMark d') : QMark d := by
  intro ts A m c B k w h hl hB hk0 hk1
  have HIH := Lib.hid ih; clear ih
  have HK1 := Lib.hid hk1; clear hk1
  have hm : (m : Int) ≤ 100000000 := by have h1 := wgts_len ts; have h2 := hl.out; have h3 := HK1.out; omega
  go_enter Tryd.func71, Tryd.ntmps71
  go_wp2_with fail
  go_loopw [1, 5] (fun v u wr => ∃ i k' : Nat, v = .int .i64 (k' : Int) ∧ u = .int .i64 (i : Int) ∧ i ≤ m ∧ k ≤ k' ∧ Hid (k' ≤ k + 3 * wgts (ts.take i)) ∧ MkS 25 B w wr) (fun _ u _ => m - (intOf u).toNat)
  case atStart => exact ⟨0, k, rfl, rfl, Nat.zero_le _, Nat.le_refl _, by simp [Hid, wgts], MkS.refl _ _ _⟩
  case round =>
    obtain ⟨i, k', rfl, rfl, hi, hkk, hkb, hmk⟩ := hrel
    have HM := Lib.hid hmk
    have HN := Lib.hid (h.keep hmk)
    have HS := Lib.hid hmk.be.size
    clear hmk
    by_cases hlt : i < m
    · have hx : i < ts.length := by rw [hl.out]; exact hlt
      cases d with
      | zero => exact absurd HN.out (by intro e; unfold NewE at e; subst e; simp at hx)
      | succ d =>
        obtain ⟨x, ex⟩ : ∃ x, x = ts[i] := ⟨_, rfl⟩
        have hxs : ts[i]? = some x := by rw [ex]; exact List.getElem?_eq_getElem hx
        have hst : Hid (wgts (ts.take (i + 1)) = wgts (ts.take i) + 1 + wgt x) := by rw [ex]; exact wgts_take hx
        have hle : Hid (wgts (ts.take (i + 1)) ≤ wgts ts) := wgts_take_le ts (i + 1)
        have hwx : Hid (wgt x = x.txt.length + wgts x.kids) := wgt_eq x
        have hb1 : ((k' : Int) + 3 + 3 * (wgts x.kids : Int)) ≤ 100000000 := by have h1 := hst.out; have h2 := hle.out; have h3 := hwx.out; have h4 := HK1.out; have h5 := hkb.out; omega
        have HBD := Lib.hid hb1
        have hk8 : (k' : Int) ≤ 100000000 := by omega
        have c1 : ∀ W, Calls Tryd.prog 72 #[.int .i64 ((k' : Int) + 1 + 1)] W fun e w' => e = .returned (.string (markT (k' + 2))) ∧ Below W.heap.size W w' := fun W => by
          have := markText (k' + 2) W (by omega) (by omega)
          rw [show ((k' + 2 : Nat) : Int) = (k' : Int) + 1 + 1 by omega] at this
          exact this
        have C1 := Lib.hid c1
        clear c1 ex hb1
        obtain ⟨g, _, _, rfl, hg, ⟨v0, e0⟩, ⟨v1, e1⟩, _, _, hf, hcs, _⟩ := HN.out.at_ hxs
        have hf0 := hf (i * 4)
        have hf1 := hf (i * 4 + 1)
        have M1 : Hid (MkS 25 B w ((wr.setCell ⟨g, i * 4, none⟩ (.int .i64 (k' : Int))).setCell ⟨g, i * 4 + 1, none⟩ (.int .i64 ((k' : Int) + 1)))) := (HM.out.trans (MkS.set' hcs hg (by omega) _)).trans (MkS.set' (set_cells hcs) hg (by omega) _)
        have S1 : Hid (B ≤ ((wr.setCell ⟨g, i * 4, none⟩ (.int .i64 (k' : Int))).setCell ⟨g, i * 4 + 1, none⟩ (.int .i64 ((k' : Int) + 1))).heap.size) := Nat.le_trans hB (M1.out.be.size)
        have HH := Lib.hid h
        have HX := Lib.hid hxs
        clear hf hcs hxs h
        go_wp2_with fail
        refine (C1.out _).mono ?_
        rintro e w1 ⟨rfl, hb1⟩
        have M2 := M1.out.trans (MkS.of hb1 S1.out)
        obtain ⟨g', _, _, eg, _, _, _, ⟨v2, e2⟩, _, hf, hcs, _⟩ := (HH.out.keep M2).at_ HX.out
        simp only [Option.some.injEq, Addr.mk.injEq, and_true] at eg
        subst eg
        have hf2 := hf (i * 4 + 2)
        have M3 := M2.trans (MkS.set' hcs hg (by omega : (i * 4 + 2) % 4 ≠ 3) (.string (markT (k' + 2))))
        obtain ⟨g', A', c', eg, _, _, _, _, e3, _, _, hN⟩ := (HH.out.keep M3).at_ HX.out
        simp only [Option.some.injEq, Addr.mk.injEq, and_true] at eg
        subst eg
        have C2 : Hid (Calls Tryd.prog 71 #[.slice A' x.kids.length c', .int .i64 ((k' : Int) + 1 + 1 + 1)] (w1.setCell ⟨g, i * 4 + 2, none⟩ (.string (markT (k' + 2)))) (MarkR 25 B (k' + 3) (wgts x.kids) (w1.setCell ⟨g, i * 4 + 2, none⟩ (.string (markT (k' + 2)))))) := by
          have := HIH.out d rfl x.kids A' x.kids.length c' B (k' + 3) _ hN rfl (Nat.le_trans hB M3.be.size) (by omega) (by have := HBD.out; omega)
          rw [show ((k' + 3 : Nat) : Int) = (k' : Int) + 1 + 1 + 1 by omega] at this
          exact this
        have HM3 := Lib.hid M3
        clear hf hcs M2 M3 hN hb1 e0 e1 hf0 hf1
        go_wp2_with fail
        refine C2.out.mono ?_
        rintro e w2 ⟨k'', rfl, hk1, hk2, hm2⟩
        have M4 := Lib.hid (HM3.out.trans hm2)
        clear hm2 e2 e3 hf2
        go_wp2_with fail
        go_roundw
        case rel => exact ⟨i + 1, k'', rfl, by go_num, by omega, by omega, by have h1 := hst.out; have h2 := hwx.out; have h3 := hkb.out; unfold Hid; omega, M4.out⟩
        case measure => simp [intOf]; omega
    · obtain rfl : i = m := by omega
      have HKB : Hid (k' ≤ k + 3 * wgts ts) := by have := hkb.out; rw [← hl.out, List.take_length] at this; exact this
      go_wp2_with fail
      go_ret
      exact ⟨k', rfl, hkk, HKB.out, HM.out⟩
theorem markExprS_all (d : Nat) : QMark d := by
  induction d with
  | zero => exact markExprS_step 0 fun d' h => by omega
  | succ d ih =>
    exact markExprS_step (d + 1) fun d' h => by
      obtain rfl : d' = d := by omega
      exact ih
end Go.Proofs.YtfjmjlpobbjjdaaDoor
