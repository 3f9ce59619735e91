/- What is reckoned, in memory: a struct of four cells, its parts behind a slice. -/
import Derived.Test.YtfjmjlpobbjjdaaDoorGround
import Derived.Test.YtfjmjlpobbjjdaaDoorP4
import Derived.Deep.Slices
import Derived.Laws.MakeOwn
import Derived.Deep.QuietTactic
import Derived.BigQuiet
import Derived.Outline
import Derived.Handy
import Derived.Lib.QuietBelow
namespace Ilp
def Ex.kind : Ex → Int
  | .mk k _ _ _ => k
def Ex.num : Ex → Int
  | .mk _ n _ _ => n
def Ex.txt : Ex → List UInt8
  | .mk _ _ s _ => s
def Ex.kids : Ex → List Ex
  | .mk _ _ _ ks => ks
theorem Ex.eta (t : Ex) : Ex.mk t.kind t.num t.txt t.kids = t := by cases t; rfl
end Ilp
namespace Go.Proofs.YtfjmjlpobbjjdaaDoor
open Go.RowKit Ilp
set_option linter.unusedVariables false

def mkB (l : List UInt8) : ByteArray := ⟨l.toArray⟩
theorem mkB_data (l : List UInt8) : (mkB l).data.toList = l := by simp [mkB]
theorem mkB_size (l : List UInt8) : (mkB l).size = l.length := by simp [mkB, ByteArray.size]
theorem data_mkB (s : ByteArray) : mkB s.data.toList = s := by apply ByteArray.ext; simp [mkB]
theorem mkB_inj {a b : List UInt8} (h : mkB a = mkB b) : a = b := by rw [← mkB_data a, h, mkB_data]
theorem addr_add_add (a : Addr) (i j : Nat) : (a.add i).add j = a.add (i + j) := by
  unfold Addr.add
  by_cases hi : i = 0 <;> by_cases hj : j = 0 <;> simp [hi, hj, Nat.add_assoc]
theorem addr_none (b o k : Nat) : (Addr.mk b o none).add k = ⟨b, o + k, none⟩ := by unfold Addr.add; split <;> simp_all

/-- The four cells. -/
def exC (t : Ex) (A : Option Addr) (cap : Nat) : List Value := [.int .i64 t.kind, .int .i64 t.num, .string (mkB t.txt), .slice A t.kids.length cap]
/-- Parts that lie behind a slice, in blocks of a sort, each as R says. -/
def KidsOf (R : List Value → Ex → Prop) (w : World) (S : Nat → Prop) (A : Option Addr) (ts : List Ex) : Prop :=
  ∀ (i : Nat) (x : Ex), ts[i]? = some x → ∃ b o ds, A = some ⟨b, o, none⟩ ∧ S b ∧ R ds x ∧ ∀ (j : Nat) v, ds[j]? = some v → w.cell? ⟨b, o + i * 4 + j, none⟩ = some v
/-- These cells are this, which is not deeper than so. -/
def ExAt (w : World) (S : Nat → Prop) : Nat → List Value → Ex → Prop
  | 0, _, _ => False
  | d + 1, cs, t => ∃ A cap, cs = exC t A cap ∧ t.kids.length ≤ cap ∧ cap ≤ maxLen ∧ t.txt.length ≤ maxLen ∧ KidsOf (ExAt w S d) w S A t.kids
def Low (w : World) : Nat → Prop := fun b => b < w.heap.size
abbrev Kids (w : World) (S : Nat → Prop) (d : Nat) (A : Option Addr) (ts : List Ex) : Prop := KidsOf (ExAt w S d) w S A ts

theorem KidsOf.nil (R : List Value → Ex → Prop) (w : World) (S : Nat → Prop) (A : Option Addr) : KidsOf R w S A [] := fun i x h => by simp at h

theorem ExAt.keep {w w' : World} {S S' : Nat → Prop} (hk : ∀ p : Addr, S p.block → w'.cell? p = w.cell? p) (hS : ∀ b, S b → S' b) : ∀ (d : Nat) (cs : List Value) (t : Ex), ExAt w S d cs t → ExAt w' S' d cs t := by
  intro d
  induction d with
  | zero => intro cs t h; exact h.elim
  | succ d ih =>
    rintro cs t ⟨A, cap, rfl, h1, h2, h3, hkids⟩
    refine ⟨A, cap, rfl, h1, h2, h3, fun i x hx => ?_⟩
    obtain ⟨b, o, ds, rfl, hb, hR, hc⟩ := hkids i x hx
    exact ⟨b, o, ds, rfl, hS _ hb, ih _ _ hR, fun j v hv => (hk _ hb).trans (hc j v hv)⟩
theorem ExAt.more : ∀ {d : Nat} {w : World} {S : Nat → Prop} {cs : List Value} {t : Ex}, ExAt w S d cs t → ExAt w S (d + 1) cs t := by
  intro d
  induction d with
  | zero => intro w B cs t h; exact h.elim
  | succ d ih =>
    rintro w B cs t ⟨A, cap, rfl, h1, h2, h3, hkids⟩
    refine ⟨A, cap, rfl, h1, h2, h3, fun i x hx => ?_⟩
    obtain ⟨b, o, ds, rfl, hb, hR, hc⟩ := hkids i x hx
    exact ⟨b, o, ds, rfl, hb, ih hR, hc⟩
theorem ExAt.deep {d d' : Nat} {w : World} {S : Nat → Prop} {cs : List Value} {t : Ex} (h : ExAt w S d cs t) (hd : d ≤ d') : ExAt w S d' cs t := by
  obtain ⟨k, rfl⟩ : ∃ k, d' = d + k := ⟨d' - d, by omega⟩
  clear hd
  induction k with
  | zero => exact h
  | succ k ih => exact ih.more
theorem KidsOf.keep {w w' : World} {S S' : Nat → Prop} {d : Nat} {A : Option Addr} {ts : List Ex} (h : Kids w S d A ts) (hk : ∀ p : Addr, S p.block → w'.cell? p = w.cell? p) (hS : ∀ b, S b → S' b) : Kids w' S' d A ts := fun i x hx => by
  obtain ⟨b, o, ds, rfl, hb, hR, hc⟩ := h i x hx
  exact ⟨b, o, ds, rfl, hS _ hb, hR.keep hk hS, fun j v hv => (hk _ hb).trans (hc j v hv)⟩
theorem KidsOf.deep {w : World} {S : Nat → Prop} {d d' : Nat} {A : Option Addr} {ts : List Ex} (h : Kids w S d A ts) (hd : d ≤ d') : Kids w S d' A ts := fun i x hx => by
  obtain ⟨b, o, ds, rfl, hb, hR, hc⟩ := h i x hx
  exact ⟨b, o, ds, rfl, hb, hR.deep hd, hc⟩
theorem KidsOf.below {w w' : World} {d : Nat} {A : Option Addr} {ts : List Ex} (h : Kids w (Low w) d A ts) (hb : Below w.heap.size w w') : Kids w' (Low w') d A ts :=
  h.keep (fun p hp => hb.cell hp) (fun b hb' => Nat.lt_of_lt_of_le hb' hb.size)
theorem ExAt.below {w w' : World} {d : Nat} {cs : List Value} {t : Ex} (h : ExAt w (Low w) d cs t) (hb : Below w.heap.size w w') : ExAt w' (Low w') d cs t :=
  ExAt.keep (fun p hp => hb.cell hp) (fun b hb' => Nat.lt_of_lt_of_le hb' hb.size) d cs t h

/-- One of the parts: its cells, and its own parts. -/
theorem KidsOf.get {w : World} {S : Nat → Prop} {d : Nat} {A : Option Addr} {ts : List Ex} (h : Kids w S d A ts) {i : Nat} (hi : i < ts.length) : ∃ b o A' cap' d', A = some ⟨b, o, none⟩ ∧ S b ∧ d = d' + 1 ∧
    w.cell? ⟨b, o + i * 4, none⟩ = some (.int .i64 ts[i].kind) ∧ w.cell? ⟨b, o + i * 4 + 1, none⟩ = some (.int .i64 ts[i].num) ∧ w.cell? ⟨b, o + i * 4 + 2, none⟩ = some (.string (mkB ts[i].txt)) ∧ w.cell? ⟨b, o + i * 4 + 3, none⟩ = some (.slice A' ts[i].kids.length cap') ∧
    ts[i].kids.length ≤ cap' ∧ cap' ≤ maxLen ∧ ts[i].txt.length ≤ maxLen ∧ Kids w S d' A' ts[i].kids := by
  obtain ⟨b, o, ds, rfl, hb, hR, hc⟩ := h i ts[i] (List.getElem?_eq_getElem hi)
  cases d with
  | zero => exact hR.elim
  | succ d =>
    obtain ⟨A', cap', rfl, h1, h2, h3, hk⟩ := hR
    exact ⟨b, o, A', cap', d, rfl, hb, rfl, hc 0 _ rfl, hc 1 _ rfl, hc 2 _ rfl, hc 3 _ rfl, h1, h2, h3, hk⟩

/-- What came in. -/
def IsExpr (w : World) (a : Array Value) (t : Ex) : Prop := ∃ d, ExAt w (Low w) d a.toList t
abbrev ExprT := Ex

set_option maxRecDepth 100000 in
open Go.ChangeShapes Go.WideShapes Go.Deep in
theorem trod_ex {H : Type} {enc : TypeId × Value → H} {W : World} : ∀ (fuel : Nat) (cs : List Value) (x : DataW H × List MemPlace), DataW.trod enc Tryd.prog W 0 (fun _ => true) true fuel 36 cs = some x → ∃ t, ExAt W (Low W) fuel cs t := by
  intro fuel
  induction fuel using Nat.strongRecOn with
  | _ fuel ih =>
    intro cs x hf
    have hC : Tryd.prog.cellsOf 36 = 4 := by kernel_rfl
    have c1 : Tryd.prog.cellsOf 3 = 1 := by kernel_rfl
    have c2 : Tryd.prog.cellsOf 9 = 1 := by kernel_rfl
    have c3 : Tryd.prog.cellsOf 34 = 1 := by kernel_rfl
    obtain ⟨ys, n, rfl, hy, hlen, hyl, hg⟩ := DataW.trod_struct Tryd.underlying36 hf
    rw [hC] at hlen
    obtain ⟨v0, v1, v2, v3, rfl⟩ : ∃ v0 v1 v2 v3, cs = [v0, v1, v2, v3] := by
      match cs, hlen with
      | [v0, v1, v2, v3], _ => exact ⟨v0, v1, v2, v3, rfl⟩
    have g0 : DataW.trod enc Tryd.prog W 0 (fun _ => true) true n 3 (([v0, v1, v2, v3].drop 0).take (Tryd.prog.cellsOf 3)) = ys[0]? := hg 0 _ rfl
    have g1 : DataW.trod enc Tryd.prog W 0 (fun _ => true) true n 3 (([v0, v1, v2, v3].drop 1).take (Tryd.prog.cellsOf 3)) = ys[1]? := hg 1 _ rfl
    have g2 : DataW.trod enc Tryd.prog W 0 (fun _ => true) true n 9 (([v0, v1, v2, v3].drop 2).take (Tryd.prog.cellsOf 9)) = ys[2]? := hg 2 _ rfl
    have g3 : DataW.trod enc Tryd.prog W 0 (fun _ => true) true n 34 (([v0, v1, v2, v3].drop 3).take (Tryd.prog.cellsOf 34)) = ys[3]? := hg 3 _ rfl
    rw [c1] at g0 g1
    rw [c2] at g2
    rw [c3] at g3
    simp only [List.drop_zero, List.take_succ_cons, List.take_zero, List.drop_succ_cons] at g0 g1 g2 g3
    have hz : ys.length = 4 := hyl
    rw [List.getElem?_eq_getElem (by omega)] at g0 g1 g2 g3
    obtain ⟨k, e0, _, w0⟩ := DataW.trod_int Tryd.underlying3 g0
    obtain ⟨q, e1, _, w1⟩ := DataW.trod_int Tryd.underlying3 g1
    obtain ⟨s, e2, _, w2⟩ := DataW.trod_string Tryd.underlying9 g2
    simp only [List.cons.injEq, and_true] at e0 e1 e2
    subst e0 e1 e2
    rcases DataW.trod_slice Tryd.underlying34 g3 with ⟨hcs, _⟩ | ⟨a, len, cap, elems, rest, m, hm, hcs, _, _, hl, hcap, hel, hat, _, _⟩
    · simp only [List.cons.injEq, and_true] at hcs
      subst hcs
      exact ⟨.mk k q s.data.toList [], none, 0, by simp [exC, Ex.kind, Ex.num, Ex.txt, Ex.kids, data_mkB], by simp [Ex.kids], by omega, by simpa [Ex.txt] using w2, KidsOf.nil _ _ _ _⟩
    · simp only [List.cons.injEq, and_true] at hcs
      subst hcs
      subst hm
      rw [hC] at hat
      have key : ∀ i, i < len → ∃ (ds : List Value) (t : Ex), ExAt W (Low W) m ds t ∧ ∀ (j : Nat) (h : j < ds.length), W.cell? (a.add (i * 4 + j)) = some ds[j] := by
        intro i hi
        have h1 := hat i hi
        rw [List.getElem?_eq_getElem (by omega)] at h1
        obtain ⟨ds, hd, ht⟩ := Option.bind_eq_some_iff.1 h1
        obtain ⟨t, ht'⟩ := ih m (by omega) ds _ ht
        obtain ⟨_, hcl, hc⟩ := World.cells?_some hd
        refine ⟨ds, t, ht', fun j hj => ?_⟩
        have := hc j (by omega)
        rw [addr_add_add, List.getElem?_eq_getElem hj] at this
        exact this
      let f : Nat → Ex := fun i => if h : i < len then Classical.choose (Classical.choose_spec (key i h)) else .mk 0 0 [] []
      have hf2 : ∀ i (h : i < len), ∃ ds : List Value, ExAt W (Low W) m ds (f i) ∧ ∀ (j : Nat) (h : j < ds.length), W.cell? (a.add (i * 4 + j)) = some ds[j] := by
        intro i h
        have e : f i = Classical.choose (Classical.choose_spec (key i h)) := dif_pos h
        rw [e]
        exact ⟨_, Classical.choose_spec (Classical.choose_spec (key i h))⟩
      refine ⟨.mk k q s.data.toList ((List.range len).map f), some a, cap, by simp [exC, Ex.kind, Ex.num, Ex.txt, Ex.kids, data_mkB], by simpa [Ex.kids] using hl, hcap, by simpa [Ex.txt] using w2, ?_⟩
      intro i x hx
      have hi : i < len := by
        have := (List.getElem?_eq_some_iff.1 hx).1
        simpa [Ex.kids] using this
      have hxf : x = f i := by
        simp only [Ex.kids, List.getElem?_map, List.getElem?_range hi, Option.map_some, Option.some.injEq] at hx
        exact hx.symm
      obtain ⟨ds, hR, hc⟩ := hf2 i hi
      obtain ⟨b, o, sp⟩ := a
      have pos : ∀ ds : List Value, ∀ x : Ex, ExAt W (Low W) m ds x → 0 < ds.length := fun ds x hR => by
        cases m with
        | zero => exact hR.elim
        | succ m => obtain ⟨A', cap', rfl, _⟩ := hR; simp [exC]
      have hds : 0 < ds.length := pos _ _ hR
      have h0 := hc 0 hds
      have hsp : sp = none := by
        obtain ⟨ds0, hR0, hc0⟩ := hf2 0 (by omega)
        have := World.cell?_spot (hc0 0 (pos _ _ hR0))
        simpa [Addr.add] using this
      subst hsp
      rw [addr_none] at h0
      refine ⟨b, o, ds, rfl, cell_lt h0, by rw [hxf]; exact hR.more, fun j v hv => ?_⟩
      obtain ⟨hj, rfl⟩ := List.getElem?_eq_some_iff.1 hv
      have := hc j hj
      rw [addr_none] at this
      rw [Nat.add_assoc]; exact this
set_option maxRecDepth 100000 in
open Go.ChangeShapes Go.WideShapes Go.Deep in
theorem expr_open {H : Type} {enc : TypeId × Value → H} {W : World} {v : Value} {d : DataW H} {p : List MemPlace} {base : Nat} (hok : Value.okWide Tryd.prog W .any base 36 v) (h : DataW.Trod enc Tryd.prog W 0 (fun _ => true) true 36 v d p) : ∃ (a : Array Value) (z : Ex), v = .agg a ∧ IsExpr W a z := by
  obtain ⟨cs, rfl, hsz⟩ := okWide_struct Tryd.underlying36 hok
  obtain ⟨fuel, hf⟩ := h
  obtain ⟨t, ht⟩ := trod_ex _ _ _ hf
  exact ⟨cs, t, rfl, fuel, by simpa [Value.cells] using ht⟩
end Go.Proofs.YtfjmjlpobbjjdaaDoor
