/- XA: the texts Ex ExS ExTo ExSm ExIm ExV in one. -/
import Derived.Test.YtfjmjlpobbjjdaaDoorGA
import Derived.Test.YtfjmjlpobbjjdaaDoorPA
import Derived.Deep.Slices
import Derived.Laws.MakeOwn
import Derived.Deep.QuietTactic
import Derived.BigQuiet
import Derived.Outline
import Derived.Handy
import Derived.Lib.QuietBelow
import Derived.Deep.Draws

namespace Ilp
def Ex.kind : Ex → Int
  | .mk k _ _ _ => k
def Ex.num : Ex → Int
  | .mk _ n _ _ => n
def Ex.txt : Ex → List UInt8
  | .mk _ _ s _ => s
def Ex.kids : Ex → List Ex
  | .mk _ _ _ ks => ks
theorem Ex.eta (t : Ex) : Ex.mk t.kind t.num t.txt t.kids = t := by cases t; rfl
end Ilp
namespace Go.Proofs.YtfjmjlpobbjjdaaDoor
open Go.RowKit Ilp
set_option linter.unusedVariables false

def mkB (l : List UInt8) : ByteArray := ⟨l.toArray⟩
theorem mkB_data (l : List UInt8) : (mkB l).data.toList = l := by simp [mkB]
theorem mkB_size (l : List UInt8) : (mkB l).size = l.length := by simp [mkB, ByteArray.size]
theorem data_mkB (s : ByteArray) : mkB s.data.toList = s := by apply ByteArray.ext; simp [mkB]
theorem mkB_inj {a b : List UInt8} (h : mkB a = mkB b) : a = b := by rw [← mkB_data a, h, mkB_data]
theorem addr_add_add (a : Addr) (i j : Nat) : (a.add i).add j = a.add (i + j) := by
  unfold Addr.add
  by_cases hi : i = 0 <;> by_cases hj : j = 0 <;> simp [hi, hj, Nat.add_assoc]
theorem addr_none (b o k : Nat) : (Addr.mk b o none).add k = ⟨b, o + k, none⟩ := by unfold Addr.add; split <;> simp_all

/-- The four cells. -/
def exC (t : Ex) (A : Option Addr) (cap : Nat) : List Value := [.int .i64 t.kind, .int .i64 t.num, .string (mkB t.txt), .slice A t.kids.length cap]
/-- Parts that lie behind a slice, in blocks of a sort, each as R says. -/
def KidsOf (R : List Value → Ex → Prop) (w : World) (S : Nat → Prop) (A : Option Addr) (ts : List Ex) : Prop :=
  ∀ (i : Nat) (x : Ex), ts[i]? = some x → ∃ b o ds, A = some ⟨b, o, none⟩ ∧ S b ∧ R ds x ∧ ∀ (j : Nat) v, ds[j]? = some v → w.cell? ⟨b, o + i * 4 + j, none⟩ = some v
/-- These cells are this, which is not deeper than so. -/
def ExAt (w : World) (S : Nat → Prop) : Nat → List Value → Ex → Prop
  | 0, _, _ => False
  | d + 1, cs, t => ∃ A cap, cs = exC t A cap ∧ t.kids.length ≤ cap ∧ cap ≤ maxLen ∧ t.txt.length ≤ maxLen ∧ KidsOf (ExAt w S d) w S A t.kids
def Low (w : World) : Nat → Prop := fun b => b < w.heap.size
abbrev Kids (w : World) (S : Nat → Prop) (d : Nat) (A : Option Addr) (ts : List Ex) : Prop := KidsOf (ExAt w S d) w S A ts

theorem KidsOf.nil (R : List Value → Ex → Prop) (w : World) (S : Nat → Prop) (A : Option Addr) : KidsOf R w S A [] := fun i x h => by simp at h

theorem ExAt.keep {w w' : World} {S S' : Nat → Prop} (hk : ∀ p : Addr, S p.block → w'.cell? p = w.cell? p) (hS : ∀ b, S b → S' b) : ∀ (d : Nat) (cs : List Value) (t : Ex), ExAt w S d cs t → ExAt w' S' d cs t := by
  intro d
  induction d with
  | zero => intro cs t h; exact h.elim
  | succ d ih =>
    rintro cs t ⟨A, cap, rfl, h1, h2, h3, hkids⟩
    refine ⟨A, cap, rfl, h1, h2, h3, fun i x hx => ?_⟩
    obtain ⟨b, o, ds, rfl, hb, hR, hc⟩ := hkids i x hx
    exact ⟨b, o, ds, rfl, hS _ hb, ih _ _ hR, fun j v hv => (hk _ hb).trans (hc j v hv)⟩
theorem ExAt.more : ∀ {d : Nat} {w : World} {S : Nat → Prop} {cs : List Value} {t : Ex}, ExAt w S d cs t → ExAt w S (d + 1) cs t := by
  intro d
  induction d with
  | zero => intro w B cs t h; exact h.elim
  | succ d ih =>
    rintro w B cs t ⟨A, cap, rfl, h1, h2, h3, hkids⟩
    refine ⟨A, cap, rfl, h1, h2, h3, fun i x hx => ?_⟩
    obtain ⟨b, o, ds, rfl, hb, hR, hc⟩ := hkids i x hx
    exact ⟨b, o, ds, rfl, hb, ih hR, hc⟩
theorem ExAt.deep {d d' : Nat} {w : World} {S : Nat → Prop} {cs : List Value} {t : Ex} (h : ExAt w S d cs t) (hd : d ≤ d') : ExAt w S d' cs t := by
  obtain ⟨k, rfl⟩ : ∃ k, d' = d + k := ⟨d' - d, by omega⟩
  clear hd
  induction k with
  | zero => exact h
  | succ k ih => exact ih.more
theorem KidsOf.keep {w w' : World} {S S' : Nat → Prop} {d : Nat} {A : Option Addr} {ts : List Ex} (h : Kids w S d A ts) (hk : ∀ p : Addr, S p.block → w'.cell? p = w.cell? p) (hS : ∀ b, S b → S' b) : Kids w' S' d A ts := fun i x hx => by
  obtain ⟨b, o, ds, rfl, hb, hR, hc⟩ := h i x hx
  exact ⟨b, o, ds, rfl, hS _ hb, hR.keep hk hS, fun j v hv => (hk _ hb).trans (hc j v hv)⟩
theorem KidsOf.deep {w : World} {S : Nat → Prop} {d d' : Nat} {A : Option Addr} {ts : List Ex} (h : Kids w S d A ts) (hd : d ≤ d') : Kids w S d' A ts := fun i x hx => by
  obtain ⟨b, o, ds, rfl, hb, hR, hc⟩ := h i x hx
  exact ⟨b, o, ds, rfl, hb, hR.deep hd, hc⟩
theorem KidsOf.below {w w' : World} {d : Nat} {A : Option Addr} {ts : List Ex} (h : Kids w (Low w) d A ts) (hb : Below w.heap.size w w') : Kids w' (Low w') d A ts :=
  h.keep (fun p hp => hb.cell hp) (fun b hb' => Nat.lt_of_lt_of_le hb' hb.size)
theorem ExAt.below {w w' : World} {d : Nat} {cs : List Value} {t : Ex} (h : ExAt w (Low w) d cs t) (hb : Below w.heap.size w w') : ExAt w' (Low w') d cs t :=
  ExAt.keep (fun p hp => hb.cell hp) (fun b hb' => Nat.lt_of_lt_of_le hb' hb.size) d cs t h

/-- One of the parts: its cells, and its own parts. -/
theorem KidsOf.get {w : World} {S : Nat → Prop} {d : Nat} {A : Option Addr} {ts : List Ex} (h : Kids w S d A ts) {i : Nat} (hi : i < ts.length) : ∃ b o A' cap' d', A = some ⟨b, o, none⟩ ∧ S b ∧ d = d' + 1 ∧
    w.cell? ⟨b, o + i * 4, none⟩ = some (.int .i64 ts[i].kind) ∧ w.cell? ⟨b, o + i * 4 + 1, none⟩ = some (.int .i64 ts[i].num) ∧ w.cell? ⟨b, o + i * 4 + 2, none⟩ = some (.string (mkB ts[i].txt)) ∧ w.cell? ⟨b, o + i * 4 + 3, none⟩ = some (.slice A' ts[i].kids.length cap') ∧
    ts[i].kids.length ≤ cap' ∧ cap' ≤ maxLen ∧ ts[i].txt.length ≤ maxLen ∧ Kids w S d' A' ts[i].kids := by
  obtain ⟨b, o, ds, rfl, hb, hR, hc⟩ := h i ts[i] (List.getElem?_eq_getElem hi)
  cases d with
  | zero => exact hR.elim
  | succ d =>
    obtain ⟨A', cap', rfl, h1, h2, h3, hk⟩ := hR
    exact ⟨b, o, A', cap', d, rfl, hb, rfl, hc 0 _ rfl, hc 1 _ rfl, hc 2 _ rfl, hc 3 _ rfl, h1, h2, h3, hk⟩

/-- What came in. -/
def IsExpr (w : World) (a : Array Value) (t : Ex) : Prop := ∃ d, ExAt w (Low w) d a.toList t
abbrev ExprT := Ex

set_option maxRecDepth 100000 in
open Go.ChangeShapes Go.WideShapes Go.Deep in
theorem trod_ex {H : Type} {enc : TypeId × Value → H} {W : World} : ∀ (fuel : Nat) (cs : List Value) (x : DataW H × List MemPlace), DataW.trod enc Tryd.prog W 0 (fun _ => true) true fuel 36 cs = some x → ∃ t, ExAt W (Low W) fuel cs t := by
  intro fuel
  induction fuel using Nat.strongRecOn with
  | _ fuel ih =>
    intro cs x hf
    have hC : Tryd.prog.cellsOf 36 = 4 := by kernel_rfl
    have c1 : Tryd.prog.cellsOf 3 = 1 := by kernel_rfl
    have c2 : Tryd.prog.cellsOf 9 = 1 := by kernel_rfl
    have c3 : Tryd.prog.cellsOf 34 = 1 := by kernel_rfl
    obtain ⟨ys, n, rfl, hy, hlen, hyl, hg⟩ := DataW.trod_struct Tryd.underlying36 hf
    rw [hC] at hlen
    obtain ⟨v0, v1, v2, v3, rfl⟩ : ∃ v0 v1 v2 v3, cs = [v0, v1, v2, v3] := by
      match cs, hlen with
      | [v0, v1, v2, v3], _ => exact ⟨v0, v1, v2, v3, rfl⟩
    have g0 : DataW.trod enc Tryd.prog W 0 (fun _ => true) true n 3 (([v0, v1, v2, v3].drop 0).take (Tryd.prog.cellsOf 3)) = ys[0]? := hg 0 _ rfl
    have g1 : DataW.trod enc Tryd.prog W 0 (fun _ => true) true n 3 (([v0, v1, v2, v3].drop 1).take (Tryd.prog.cellsOf 3)) = ys[1]? := hg 1 _ rfl
    have g2 : DataW.trod enc Tryd.prog W 0 (fun _ => true) true n 9 (([v0, v1, v2, v3].drop 2).take (Tryd.prog.cellsOf 9)) = ys[2]? := hg 2 _ rfl
    have g3 : DataW.trod enc Tryd.prog W 0 (fun _ => true) true n 34 (([v0, v1, v2, v3].drop 3).take (Tryd.prog.cellsOf 34)) = ys[3]? := hg 3 _ rfl
    rw [c1] at g0 g1
    rw [c2] at g2
    rw [c3] at g3
    simp only [List.drop_zero, List.take_succ_cons, List.take_zero, List.drop_succ_cons] at g0 g1 g2 g3
    have hz : ys.length = 4 := hyl
    rw [List.getElem?_eq_getElem (by omega)] at g0 g1 g2 g3
    obtain ⟨k, e0, _, w0⟩ := DataW.trod_int Tryd.underlying3 g0
    obtain ⟨q, e1, _, w1⟩ := DataW.trod_int Tryd.underlying3 g1
    obtain ⟨s, e2, _, w2⟩ := DataW.trod_string Tryd.underlying9 g2
    simp only [List.cons.injEq, and_true] at e0 e1 e2
    subst e0 e1 e2
    rcases DataW.trod_slice Tryd.underlying34 g3 with ⟨hcs, _⟩ | ⟨a, len, cap, elems, rest, m, hm, hcs, _, _, hl, hcap, hel, hat, _, _⟩
    · simp only [List.cons.injEq, and_true] at hcs
      subst hcs
      exact ⟨.mk k q s.data.toList [], none, 0, by simp [exC, Ex.kind, Ex.num, Ex.txt, Ex.kids, data_mkB], by simp [Ex.kids], by omega, by simpa [Ex.txt] using w2, KidsOf.nil _ _ _ _⟩
    · simp only [List.cons.injEq, and_true] at hcs
      subst hcs
      subst hm
      rw [hC] at hat
      have key : ∀ i, i < len → ∃ (ds : List Value) (t : Ex), ExAt W (Low W) m ds t ∧ ∀ (j : Nat) (h : j < ds.length), W.cell? (a.add (i * 4 + j)) = some ds[j] := by
        intro i hi
        have h1 := hat i hi
        rw [List.getElem?_eq_getElem (by omega)] at h1
        obtain ⟨ds, hd, ht⟩ := Option.bind_eq_some_iff.1 h1
        obtain ⟨t, ht'⟩ := ih m (by omega) ds _ ht
        obtain ⟨_, hcl, hc⟩ := World.cells?_some hd
        refine ⟨ds, t, ht', fun j hj => ?_⟩
        have := hc j (by omega)
        rw [addr_add_add, List.getElem?_eq_getElem hj] at this
        exact this
      let f : Nat → Ex := fun i => if h : i < len then Classical.choose (Classical.choose_spec (key i h)) else .mk 0 0 [] []
      have hf2 : ∀ i (h : i < len), ∃ ds : List Value, ExAt W (Low W) m ds (f i) ∧ ∀ (j : Nat) (h : j < ds.length), W.cell? (a.add (i * 4 + j)) = some ds[j] := by
        intro i h
        have e : f i = Classical.choose (Classical.choose_spec (key i h)) := dif_pos h
        rw [e]
        exact ⟨_, Classical.choose_spec (Classical.choose_spec (key i h))⟩
      refine ⟨.mk k q s.data.toList ((List.range len).map f), some a, cap, by simp [exC, Ex.kind, Ex.num, Ex.txt, Ex.kids, data_mkB], by simpa [Ex.kids] using hl, hcap, by simpa [Ex.txt] using w2, ?_⟩
      intro i x hx
      have hi : i < len := by
        have := (List.getElem?_eq_some_iff.1 hx).1
        simpa [Ex.kids] using this
      have hxf : x = f i := by
        simp only [Ex.kids, List.getElem?_map, List.getElem?_range hi, Option.map_some, Option.some.injEq] at hx
        exact hx.symm
      obtain ⟨ds, hR, hc⟩ := hf2 i hi
      obtain ⟨b, o, sp⟩ := a
      have pos : ∀ ds : List Value, ∀ x : Ex, ExAt W (Low W) m ds x → 0 < ds.length := fun ds x hR => by
        cases m with
        | zero => exact hR.elim
        | succ m => obtain ⟨A', cap', rfl, _⟩ := hR; simp [exC]
      have hds : 0 < ds.length := pos _ _ hR
      have h0 := hc 0 hds
      have hsp : sp = none := by
        obtain ⟨ds0, hR0, hc0⟩ := hf2 0 (by omega)
        have := World.cell?_spot (hc0 0 (pos _ _ hR0))
        simpa [Addr.add] using this
      subst hsp
      rw [addr_none] at h0
      refine ⟨b, o, ds, rfl, cell_lt h0, by rw [hxf]; exact hR.more, fun j v hv => ?_⟩
      obtain ⟨hj, rfl⟩ := List.getElem?_eq_some_iff.1 hv
      have := hc j hj
      rw [addr_none] at this
      rw [Nat.add_assoc]; exact this
set_option maxRecDepth 100000 in
open Go.ChangeShapes Go.WideShapes Go.Deep in
theorem expr_open {H : Type} {enc : TypeId × Value → H} {W : World} {v : Value} {d : DataW H} {p : List MemPlace} {base : Nat} (hok : Value.okWide Tryd.prog W .any base 36 v) (h : DataW.Trod enc Tryd.prog W 0 (fun _ => true) true 36 v d p) : ∃ (a : Array Value) (z : Ex), v = .agg a ∧ IsExpr W a z := by
  obtain ⟨cs, rfl, hsz⟩ := okWide_struct Tryd.underlying36 hok
  obtain ⟨fuel, hf⟩ := h
  obtain ⟨t, ht⟩ := trod_ex _ _ _ hf
  exact ⟨cs, t, rfl, fuel, by simpa [Value.cells] using ht⟩
end Go.Proofs.YtfjmjlpobbjjdaaDoor

namespace Ilp
mutual
/-- How many parts and bytes there are beneath. -/
def wgt : Ex → Nat
  | .mk _ _ s ks => s.length + wgts ks
def wgts : List Ex → Nat
  | [] => 0
  | x :: xs => 1 + wgt x + wgts xs
end
theorem wgt_eq (t : Ex) : wgt t = t.txt.length + wgts t.kids := by cases t; simp [wgt, Ex.txt, Ex.kids]
theorem wgts_app : ∀ (a b : List Ex), wgts (a ++ b) = wgts a + wgts b
  | [], b => by simp [wgts]
  | x :: a, b => by rw [List.cons_append, wgts, wgts, wgts_app a b]; omega
theorem wgts_take {xs : List Ex} {k : Nat} (h : k < xs.length) : wgts (xs.take (k + 1)) = wgts (xs.take k) + 1 + wgt xs[k] := by
  rw [List.take_succ_eq_append_getElem h, wgts_app]; simp [wgts]; omega
theorem wgts_len : ∀ xs : List Ex, xs.length ≤ wgts xs
  | [] => Nat.le_refl _
  | x :: xs => by rw [wgts, List.length_cons]; have := wgts_len xs; omega
theorem wgts_mem : ∀ {xs : List Ex} {x : Ex}, x ∈ xs → wgt x ≤ wgts xs
  | [], x, h => by cases h
  | y :: xs, x, h => by
    rw [wgts]
    rcases List.mem_cons.1 h with rfl | h
    · omega
    · have := wgts_mem h; omega
end Ilp
namespace Go.Proofs.YtfjmjlpobbjjdaaDoor
open Go.RowKit Ilp
set_option linter.unusedVariables false

def SzR (n : Nat) (left : Int) (w : World) (e : Ending) (w' : World) : Prop := ∃ r : Int, e = .returned (.int .i64 r) ∧ (r < 0 ∨ (0 ≤ r ∧ r = left - (n : Int))) ∧ Below w.heap.size w w'
def QSz (d : Nat) : Prop := ∀ (t : Ex) (A : Option Addr) (cap : Nat) (left : Int) (w : World), Kids w (Low w) d A t.kids → t.kids.length ≤ maxLen → t.txt.length ≤ maxLen → 0 ≤ left → left ≤ 1048576 →
  Calls Tryd.prog 18 #[.agg #[.int .i64 t.kind, .int .i64 t.num, .string (mkB t.txt), .slice A t.kids.length cap], .int .i64 left] w (SzR (wgt t) left w)
def RSz (d : Nat) : Prop := ∀ (ks : List Ex) (A : Option Addr) (m cap : Nat) (left : Int) (w : World), Kids w (Low w) d A ks → Hid (ks.length = m) → m ≤ maxLen → 0 ≤ left → left ≤ 1048576 →
  Calls Tryd.prog 54 #[.slice A m cap, .int .i64 left] w (SzR (wgts ks) left w)

set_option maxHeartbeats 2000000 in
theorem szExprS_step (d : Nat) (ih : ∀ d', d = d' + 1 → QSz d') : RSz d := by
  intro ks A m cap left w hk hl hm h0 h1
  have hm' : (m : Int) ≤ 9223372036854775807 := by unfold maxLen at hm; omega
  clear hm
  by_cases hneg : left - (m : Int) < 0
  · have R : SzR (wgts ks) left w (.returned (.int .i64 (-1))) w := ⟨_, rfl, .inl (by omega), Below.refl _ _⟩
    have HR := Lib.hid R; clear R hk
    go_enter Tryd.func54, Tryd.ntmps54
    go_wp2_with fail
    go_ret
    exact HR.out
  · have HK := Lib.hid hk; clear hk
    have HIH := Lib.hid ih; clear ih
    go_enter Tryd.func54, Tryd.ntmps54
    go_wp2_with fail
    go_loopw [1, 5] (fun v u wr => ∃ (k : Nat) (r : Int), u = .int .i64 (k : Int) ∧ v = .int .i64 r ∧ k ≤ m ∧ 0 ≤ r ∧ r ≤ left ∧ Hid (r = left - m + k - (wgts (ks.take k) : Int)) ∧ Below w.heap.size w wr) (fun _ u _ => m - (intOf u).toNat)
    case atStart => exact ⟨0, left - m, rfl, rfl, Nat.zero_le _, by omega, by omega, by unfold Hid; simp [wgts], Below.refl _ _⟩
    case round =>
      obtain ⟨k, r, rfl, rfl, hk, hr0, hr1, hr2, hbw⟩ := hrel
      have HB := Lib.hid hbw; clear hbw
      by_cases hlt : k < m
      · have hx : k < ks.length := by rw [hl.out]; exact hlt
        obtain ⟨b, o, A', cap', d', rfl, hbb, rfl, c0, c1, c2, c3, g1, g2, g3, hkk⟩ := (HK.out.below HB.out).get hx
        have hst : Hid (wgts (ks.take (k + 1)) = wgts (ks.take k) + 1 + wgt ks[k]) := wgts_take hx
        have CZ := Lib.hid (HIH.out d' rfl ks[k] A' cap' r wr hkk (by omega) g3 hr0 (by omega))
        obtain ⟨x, ex⟩ : ∃ x, x = ks[k] := ⟨_, rfl⟩
        rw [← ex] at c0 c1 c2 c3 hst CZ
        clear hkk ex hx g1 g2 g3
        go_wp2_with fail
        refine CZ.out.mono ?_
        rintro e w1 ⟨r', rfl, hr3, hb1⟩
        have HB1 : Hid (Below w.heap.size w w1) := HB.out.trans (hb1.mono HB.out.size)
        clear hb1 c0 c1 c2 c3
        by_cases hneg2 : r' < 0
        · have R : SzR (wgts ks) left w (.returned (.int .i64 (-1))) w1 := ⟨_, rfl, .inl (by omega), HB1.out⟩
          have HR := Lib.hid R; clear R hr3
          go_wp2_with fail
          go_ret
          exact HR.out
        · have e1 : Hid (r' = r - (wgt x : Int)) := by unfold Hid; omega
          clear hr3
          go_wp2_with fail
          go_roundw
          case rel => exact ⟨k + 1, r', by go_num, rfl, by omega, by omega, by have := e1.out; omega, by have h1 := hr2.out; have h2 := hst.out; have h3 := e1.out; unfold Hid; omega, HB1.out⟩
          case measure => simp [intOf]; omega
      · obtain rfl : k = m := by omega
        have R : SzR (wgts ks) left w (.returned (.int .i64 r)) wr := ⟨r, rfl, .inr ⟨hr0, by have h1 := hr2.out; rw [← hl.out, List.take_length] at h1; omega⟩, HB.out⟩
        have HR := Lib.hid R; clear R
        go_wp2_with fail
        go_ret
        exact HR.out
set_option maxHeartbeats 1000000 in
theorem szExpr_step (d : Nat) (ih : RSz d) : QSz d := by
  intro t A cap left w hk hm hs h0 h1
  have hw := wgt_eq t
  have hsz := mkB_size t.txt
  unfold maxLen at hm hs
  have hs' : (((mkB t.txt).size : Nat) : Int) ≤ 9223372036854775807 := by omega
  by_cases hneg : left - ((mkB t.txt).size : Int) < 0
  · have R : SzR (wgt t) left w (.returned (.int .i64 (-1))) w := ⟨_, rfl, .inl (by omega), Below.refl _ _⟩
    have HR := Lib.hid R; clear R hk hw hsz
    generalize mkB t.txt = s at *
    generalize t.kids.length = m at *
    go_enter Tryd.func18, Tryd.ntmps18
    go_wp2_with fail
    go_ret
    obtain ⟨r, h1, h2, h3⟩ := HR.out
    exact ⟨r, h1, h2, by go_grown⟩
  · have C := fun W (h : Below w.heap.size w W) => ih t.kids A t.kids.length cap (left - ((mkB t.txt).size : Int)) W (hk.below h) rfl (by unfold maxLen; omega) (by omega) (by omega)
    have HC := Lib.hid C
    have HW : Hid ((wgt t : Int) = (mkB t.txt).size + wgts t.kids) := by unfold Hid; omega
    clear C hk hw hsz
    generalize mkB t.txt = s at *
    generalize t.kids.length = m at *
    go_enter Tryd.func18, Tryd.ntmps18
    go_wp2_with fail
    refine (HC.out _ (by go_grown)).mono ?_
    rintro e w1 ⟨r, rfl, hr, hb1⟩
    have HB1 : Hid (Below w.heap.size w w1) := Below.trans (by go_grown) (hb1.mono (by simp))
    clear hb1
    by_cases hneg2 : r < 0
    · have R : SzR (wgt t) left w (.returned (.int .i64 (-1))) w1 := ⟨_, rfl, .inl (by omega), HB1.out⟩
      have HR := Lib.hid R; clear R hr
      go_wp2_with fail
      go_ret
      exact HR.out
    · have R : SzR (wgt t) left w (.returned (.int .i64 r)) w1 := ⟨r, rfl, .inr ⟨by omega, by have := HW.out; omega⟩, HB1.out⟩
      have HR := Lib.hid R; clear R hr
      go_wp2_with fail
      go_ret
      exact HR.out
theorem szExpr_all (d : Nat) : QSz d ∧ RSz d := by
  induction d with
  | zero => exact ⟨szExpr_step 0 (szExprS_step 0 fun d' h => by omega), szExprS_step 0 fun d' h => by omega⟩
  | succ d ih =>
    have h : RSz (d + 1) := szExprS_step (d + 1) fun d' h => by
      obtain rfl : d' = d := by omega
      exact ih.1
    exact ⟨szExpr_step _ h, h⟩
end Go.Proofs.YtfjmjlpobbjjdaaDoor

namespace Go.Proofs.YtfjmjlpobbjjdaaDoor
open Go.RowKit Ilp
set_option linter.unusedVariables false

/-- Parts in blocks of their own, from block B on, which may be written. -/
def NewAt (T : TypeId) (w : World) (B : Nat) : Nat → Option Addr → Nat → Prop
  | 0, _, len => len = 0
  | d + 1, A, len => len = 0 ∨ ∃ g cs, A = some ⟨g, 0, none⟩ ∧ B ≤ g ∧ w.heap[g]? = some (.cells cs T (0, 0)) ∧ cs.size = len * 4 ∧ ∀ i, i < len → ∃ A' l' c', cs[i * 4 + 3]? = some (.slice A' l' c') ∧ NewAt T w B d A' l'
theorem NewAt.keep {T : TypeId} {w w' : World} {B B' : Nat} (hk : ∀ g, B ≤ g → g < w.heap.size → w'.heap[g]? = w.heap[g]?) (hB : B' ≤ B) : ∀ {d : Nat} {A : Option Addr} {len : Nat}, NewAt T w B d A len → NewAt T w' B' d A len := by
  intro d
  induction d with
  | zero => intro A len h; exact h
  | succ d ih =>
    intro A len h
    rcases h with h | ⟨g, cs, rfl, hg, hc, hs, hi⟩
    · exact .inl h
    · refine .inr ⟨g, cs, rfl, by omega, (hk g hg (Array.getElem?_eq_some_iff.1 hc).1).trans hc, hs, fun i h => ?_⟩
      obtain ⟨A', l', c', h1, h2⟩ := hi i h
      exact ⟨A', l', c', h1, ih h2⟩
abbrev Span (B : Nat) (w : World) : Nat → Prop := fun b => B ≤ b ∧ b < w.heap.size
theorem KidsOf.low {w : World} {B d : Nat} {A : Option Addr} {ts : List Ex} (h : Kids w (Span B w) d A ts) : Kids w (Low w) d A ts := h.keep (fun _ _ => rfl) (fun _ hb => hb.2)

/-- The parts up to k are made. -/
def Made (T : TypeId) (wr : World) (B0 d : Nat) (ks : List Ex) (k : Nat) (vs : List Value) : Prop :=
  ∀ i x, i < k → ks[i]? = some x → ∃ A' cap' d', d = d' + 1 ∧ vs[i * 4]? = some (.int .i64 x.kind) ∧ vs[i * 4 + 1]? = some (.int .i64 x.num) ∧ vs[i * 4 + 2]? = some (.string (mkB x.txt)) ∧ vs[i * 4 + 3]? = some (.slice A' x.kids.length cap') ∧
    x.kids.length ≤ cap' ∧ cap' ≤ maxLen ∧ x.txt.length ≤ maxLen ∧ Kids wr (Span (B0 + 1) wr) d' A' x.kids ∧ NewAt T wr (B0 + 1) d' A' x.kids.length
theorem Made.zero (T : TypeId) (wr : World) (B0 d : Nat) (ks : List Ex) (vs : List Value) : Made T wr B0 d ks 0 vs := fun i x h => by omega
theorem set_other {vs : List Value} {i j : Nat} {v : Value} (h : i ≠ j) : (vs.set i v)[j]? = vs[j]? := by rw [List.getElem?_set, if_neg h]
theorem set_self {vs : List Value} {i : Nat} {v : Value} (h : i < vs.length) : (vs.set i v)[i]? = some v := by rw [List.getElem?_set, if_pos rfl, if_pos h]
theorem Made.step {T : TypeId} {wr w1 w2 : World} {B0 d d' : Nat} {ks : List Ex} {k : Nat} {vs : List Value} (h : Made T wr B0 d ks k vs) {x : Ex} (hx : ks[k]? = some x) (hd : d = d' + 1) (hB : B0 < wr.heap.size) (hb1 : Below wr.heap.size wr w1)
    (h12 : ∀ g, B0 < g → w2.heap[g]? = w1.heap[g]?) (hs : w2.heap.size = w1.heap.size) {A' : Option Addr} {cap' : Nat} (hlen : k * 4 + 3 < vs.length)
    (g1 : x.kids.length ≤ cap') (g2 : cap' ≤ maxLen) (g3 : x.txt.length ≤ maxLen) (hk : Kids w1 (Span wr.heap.size w1) d' A' x.kids) (hn : NewAt T w1 wr.heap.size d' A' x.kids.length) :
    Made T w2 B0 d ks (k + 1) ((((vs.set (k * 4) (.int .i64 x.kind)).set (k * 4 + 1) (.int .i64 x.num)).set (k * 4 + 2) (.string (mkB x.txt))).set (k * 4 + 3) (.slice A' x.kids.length cap')) := by
  intro i y hi hy
  have hcell : ∀ p : Addr, B0 < p.block → w2.cell? p = w1.cell? p := fun p hp => World.cell?_of_block (w := w1) (h12 _ hp)
  have hsz := hb1.size
  by_cases hik : i = k
  · subst hik
    rw [hx] at hy
    injection hy with hy
    subst hy
    refine ⟨A', cap', d', hd, ?_, ?_, ?_, ?_, g1, g2, g3, ?_, ?_⟩
    · rw [set_other (by omega), set_other (by omega), set_other (by omega), set_self (by omega)]
    · rw [set_other (by omega), set_other (by omega), set_self (by simp; omega)]
    · rw [set_other (by omega), set_self (by simp; omega)]
    · rw [set_self (by simp; omega)]
    · exact hk.keep (fun p hp => hcell p (by have := hp.1; omega)) (fun b hb => ⟨by have := hb.1; omega, by rw [hs]; exact hb.2⟩)
    · exact hn.keep (fun g hg _ => h12 g (by omega)) (by omega)
  · obtain ⟨A2, cap2, d2, e2, v0, v1, v2, v3, k1, k2, k3, hk2, hn2⟩ := h i y (by omega) hy
    refine ⟨A2, cap2, d2, e2, ?_, ?_, ?_, ?_, k1, k2, k3, ?_, ?_⟩
    · rw [set_other (by omega), set_other (by omega), set_other (by omega), set_other (by omega)]; exact v0
    · rw [set_other (by omega), set_other (by omega), set_other (by omega), set_other (by omega)]; exact v1
    · rw [set_other (by omega), set_other (by omega), set_other (by omega), set_other (by omega)]; exact v2
    · rw [set_other (by omega), set_other (by omega), set_other (by omega), set_other (by omega)]; exact v3
    · exact hk2.keep (fun p hp => (hcell p (by have := hp.1; omega)).trans (hb1.cell hp.2)) (fun b hb => ⟨hb.1, by have := hb.2; omega⟩)
    · exact hn2.keep (fun g hg hl => (h12 g (by omega)).trans (hb1.block g hl)) (Nat.le_refl _)
theorem Made.done {T : TypeId} {w : World} {B0 d : Nat} {ks : List Ex} {vs : List Value} (h : Made T w B0 d ks ks.length vs) (hb : Blk w B0 T vs) (hl : vs.length = ks.length * 4) : Kids w (Span B0 w) d (some ⟨B0, 0, none⟩) ks ∧ NewAt T w B0 d (some ⟨B0, 0, none⟩) ks.length := by
  constructor
  · intro i x hx
    have hi := (List.getElem?_eq_some_iff.1 hx).1
    obtain ⟨A2, cap2, d2, e2, v0, v1, v2, v3, k1, k2, k3, hk2, hn2⟩ := h i x hi hx
    subst e2
    refine ⟨B0, 0, exC x A2 cap2, rfl, ⟨Nat.le_refl _, hb.lt⟩, ⟨A2, cap2, rfl, k1, k2, k3, hk2.keep (fun _ _ => rfl) (fun b hb => ⟨by have := hb.1; omega, hb.2⟩)⟩, fun j v hv => ?_⟩
    rw [hb.cell, Nat.zero_add]
    match j, hv with
    | 0, hv => simp [exC] at hv; subst hv; exact v0
    | 1, hv => simp [exC] at hv; subst hv; exact v1
    | 2, hv => simp [exC] at hv; subst hv; exact v2
    | 3, hv => simp [exC] at hv; subst hv; exact v3
    | j + 4, hv => simp [exC] at hv
  · cases d with
    | zero =>
      cases ks with
      | nil => rfl
      | cons x ks =>
        obtain ⟨_, _, d2, e2, _⟩ := h 0 x (by simp) rfl
        omega
    | succ d =>
      refine .inr ⟨B0, vs.toArray, rfl, Nat.le_refl _, hb, by simpa using hl, fun i hi => ?_⟩
      obtain ⟨A2, cap2, d2, e2, v0, v1, v2, v3, k1, k2, k3, hk2, hn2⟩ := h i ks[i] hi (List.getElem?_eq_getElem hi)
      obtain rfl : d = d2 := by omega
      exact ⟨A2, _, cap2, by simpa using v3, hn2.keep (fun _ _ _ => rfl) (by omega)⟩

theorem exInfo : (Tryd.prog.info? 25).map (fun i => (i.zero, i.size, i.bytes)) = some (some (.agg #[.int .i64 0, .int .i64 0, .string ByteArray.empty, .slice none 0 0]), 4, 56) := by kernel_rfl
theorem makeExs (n : Nat) (hn : (n : Int) ≤ 1048576) (w : World) :
    (Instr.makeSlice 23 (.int .i64 (n : Int)) (.int .i64 (n : Int))).run Tryd.prog w = .ok (.slice (some ⟨w.heap.size, 0, none⟩) n n) (w.alloc (.cells (madeCells (Value.cells (.agg #[.int .i64 0, .int .i64 0, .string ByteArray.empty, .slice none 0 0])) (n * 4)) 25)) := by
  obtain ⟨i0, hi, hz0, hz1, hz2⟩ := info_parts exInfo
  have h := run_make (P := Tryd.prog) w 23 25 i0 (.agg #[.int .i64 0, .int .i64 0, .string ByteArray.empty, .slice none 0 0]) Tryd.underlying23 hi hz0 .i64 .i64 (n : Int) (n : Int) (by omega) (by omega) (by rw [hz2]; omega) (by omega)
  rw [hz1, Int.toNat_natCast] at h
  exact h
def zeroEx (n : Nat) : List Value := (madeCells (Value.cells (.agg #[.int .i64 0, .int .i64 0, .string ByteArray.empty, .slice none 0 0])) (n * 4)).toList
theorem zeroEx_len (n : Nat) : (zeroEx n).length = n * 4 := by simp [zeroEx, size_madeCells]

def QTo (d : Nat) : Prop := ∀ (t : Ex) (A : Option Addr) (cap : Nat) (w : World), Kids w (Low w) d A t.kids → t.txt.length ≤ maxLen → wgts t.kids ≤ 1048576 →
  Calls Tryd.prog 20 #[.agg #[.int .i64 t.kind, .int .i64 t.num, .string (mkB t.txt), .slice A t.kids.length cap]] w fun e w' => ∃ A', e = .returned (.agg #[.int .i64 t.kind, .int .i64 t.num, .string (mkB t.txt), .slice A' t.kids.length t.kids.length]) ∧
    Kids w' (Span w.heap.size w') d A' t.kids ∧ NewAt 25 w' w.heap.size d A' t.kids.length ∧ Below w.heap.size w w'
def RTo (d : Nat) : Prop := ∀ (ks : List Ex) (A : Option Addr) (m cap : Nat) (w : World), Kids w (Low w) d A ks → Hid (ks.length = m) → wgts ks ≤ 1048576 →
  Calls Tryd.prog 55 #[.slice A m cap] w fun e w' => e = .returned (.slice (some ⟨w.heap.size, 0, none⟩) m m) ∧
    Kids w' (Span w.heap.size w') d (some ⟨w.heap.size, 0, none⟩) ks ∧ NewAt 25 w' w.heap.size d (some ⟨w.heap.size, 0, none⟩) m ∧ Below w.heap.size w w'

set_option maxHeartbeats 4000000 in
theorem toExprS_step (d : Nat) (ih : ∀ d', d = d' + 1 → QTo d') : RTo d := by
  intro ks A m cap w hk hl hw
  have hwl := wgts_len ks
  have hm : (m : Int) ≤ 1048576 := by have := hl.out; omega
  have HK := Lib.hid hk; clear hk
  have HIH := Lib.hid ih; clear ih
  have HW := Lib.hid hw; clear hw hwl
  have hmk := makeExs m hm w
  go_enter Tryd.func55, Tryd.ntmps55
  go_wp2
  clear hmk
  go_loopw [4] (fun v wr => ∃ (k : Nat) (vs : List Value), v = .int .i64 (k : Int) ∧ k ≤ m ∧ Blk wr w.heap.size 25 vs ∧ vs.length = m * 4 ∧ Hid (Made 25 wr w.heap.size d ks k vs) ∧ Below w.heap.size w wr) (fun v _ => m - (intOf v).toNat)
  case atStart =>
    refine ⟨0, zeroEx m, rfl, Nat.zero_le _, ?_, zeroEx_len m, Made.zero _ _ _ _ _ _, (Below.refl _ _).alloc (Nat.le_refl _) _⟩
    have := Blk.alloc_ w 25 (zeroEx m)
    rw [show (zeroEx m).toArray = madeCells (Value.cells (.agg #[.int .i64 0, .int .i64 0, .string ByteArray.empty, .slice none 0 0])) (m * 4) by simp [zeroEx]] at this
    exact this
  case round =>
    obtain ⟨k, vs, rfl, hk, hb, hvl, hmade, hbw⟩ := hrel
    by_cases hlt : k < m
    · have hx : k < ks.length := by rw [hl.out]; exact hlt
      obtain ⟨b, o, A', cap', d', rfl, hbb, hd, c0, c1, c2, c3, g1, g2, g3, hkk⟩ := (HK.out.below hbw).get hx
      have CT := Lib.hid (HIH.out d' hd ks[k] A' cap' wr hkk g3 (by have := HW.out; have h1 := wgts_mem (List.getElem_mem hx); have h2 := wgt_eq ks[k]; omega))
      have HX := Lib.hid (List.getElem?_eq_getElem hx)
      have HG := Lib.hid (And.intro g1 (And.intro g2 (And.intro g3 hd)))
      have HKL : Hid (ks[k].kids.length ≤ 1048576) := by
        have := HW.out; have h1 := wgts_mem (List.getElem_mem hx); have h2 := wgt_eq ks[k]; have h3 := wgts_len ks[k].kids; unfold Hid; omega
      obtain ⟨x, ex⟩ : ∃ x, x = ks[k] := ⟨_, rfl⟩
      rw [← ex] at c0 c1 c2 c3 CT HX HG HKL
      have HB := Lib.hid hb
      have HBW := Lib.hid hbw
      clear hkk ex hx g1 g2 g3 hb hbw hd
      go_wp2_with fail
      refine CT.out.mono ?_
      rintro e w1 ⟨A2, rfl, hkids, hnew, hb1⟩
      have hb2 := HB.out.below hb1 HB.out.lt
      have HB1 := Lib.hid hb1
      have HKN := Lib.hid (And.intro hkids hnew)
      clear c0 c1 c2 c3 hb1 hkids hnew CT
      have e0 : ∃ v, w1.cell? ⟨w.heap.size, k * 4, none⟩ = some v := ⟨_, by rw [hb2.cell]; exact List.getElem?_eq_getElem (by omega)⟩
      have e1 : ∃ v, w1.cell? ⟨w.heap.size, k * 4 + 1, none⟩ = some v := ⟨_, by rw [hb2.cell]; exact List.getElem?_eq_getElem (by omega)⟩
      have e2 : ∃ v, w1.cell? ⟨w.heap.size, k * 4 + 2, none⟩ = some v := ⟨_, by rw [hb2.cell]; exact List.getElem?_eq_getElem (by omega)⟩
      have e3 : ∃ v, w1.cell? ⟨w.heap.size, k * 4 + 3, none⟩ = some v := ⟨_, by rw [hb2.cell]; exact List.getElem?_eq_getElem (by omega)⟩
      obtain ⟨v0, e0⟩ := e0
      obtain ⟨v1, e1⟩ := e1
      obtain ⟨v2, e2⟩ := e2
      obtain ⟨v3, e3⟩ := e3
      have f0 := hb2.frozen (k * 4)
      have f1 := hb2.frozen (k * 4 + 1)
      have f2 := hb2.frozen (k * 4 + 2)
      have f3 := hb2.frozen (k * 4 + 3)
      have HB2 := Lib.hid hb2
      clear hb2
      go_wp2_with fail
      go_roundw
      case rel =>
        refine ⟨k + 1, _, by go_num, by omega, (((HB2.out.put (k * 4) (.int .i64 x.kind)).put (k * 4 + 1) (.int .i64 x.num)).put (k * 4 + 2) (.string (mkB x.txt))).put (k * 4 + 3) (.slice A2 x.kids.length x.kids.length), by simp; exact hvl, ?_, ?_⟩
        · exact hmade.out.step HX.out HG.out.2.2.2 HB.out.lt HB1.out (fun g hg => by
            rw [Below.heap_setCell _ _ _ _ (by simp; omega), Below.heap_setCell _ _ _ _ (by simp; omega), Below.heap_setCell _ _ _ _ (by simp; omega), Below.heap_setCell _ _ _ _ (by simp; omega)]) (by simp [World.setCell]) (by omega) (Nat.le_refl _) (by have := HKL.out; unfold maxLen; omega) HG.out.2.2.1 HKN.out.1 HKN.out.2
        · exact ((((HBW.out.trans (HB1.out.mono HBW.out.size)).setCell (Nat.le_refl _) _).setCell (Nat.le_refl _) _).setCell (Nat.le_refl _) _).setCell (Nat.le_refl _) _
      case measure => simp [intOf]; omega
    · obtain rfl : k = m := by omega
      have HD : Hid (Kids wr (Span w.heap.size wr) d (some ⟨w.heap.size, 0, none⟩) ks ∧ NewAt 25 wr w.heap.size d (some ⟨w.heap.size, 0, none⟩) k) := by
        have h := hmade.out
        have h2 := hl.out
        subst h2
        exact h.done hb hvl
      go_wp2
      go_ret
      exact ⟨rfl, HD.out.1, HD.out.2, hbw⟩
set_option maxHeartbeats 1000000 in
theorem toExpr_step (d : Nat) (ih : RTo d) : QTo d := by
  intro t A cap w hk hs hw
  have C := fun W (h : Below w.heap.size w W) => ih t.kids A t.kids.length cap W (hk.below h) rfl hw
  have HC := Lib.hid C
  clear C hk hw ih
  have hz : (⟨#[]⟩ : ByteArray) = ByteArray.empty := rfl
  generalize mkB t.txt = s at *
  generalize hml : t.kids.length = m at *
  have HML := Lib.hid hml
  clear hml hz
  go_enter Tryd.func20, Tryd.ntmps20
  go_wp2_with fail
  have hA : Blk (((w.alloc (.cells #[.int .i64 t.kind, .int .i64 t.num, .string s, .slice A m cap] 36)).alloc (.cells #[.int .i64 0, .int .i64 0, .string ⟨#[]⟩, .slice none 0 0] 25)).alloc (.cells #[.int .i64 t.kind, .int .i64 t.num, .string s, .slice none 0 0] 25)) (w.heap.size + 1 + 1) 25 [.int .i64 t.kind, .int .i64 t.num, .string s, .slice none 0 0] := by
    have := Blk.alloc_ ((w.alloc (.cells #[.int .i64 t.kind, .int .i64 t.num, .string s, .slice A m cap] 36)).alloc (.cells #[.int .i64 0, .int .i64 0, .string ⟨#[]⟩, .slice none 0 0] 25)) 25 [.int .i64 t.kind, .int .i64 t.num, .string s, .slice none 0 0]
    simpa using this
  have hB : Blk (((w.alloc (.cells #[.int .i64 t.kind, .int .i64 t.num, .string s, .slice A m cap] 36)).alloc (.cells #[.int .i64 0, .int .i64 0, .string ⟨#[]⟩, .slice none 0 0] 25)).alloc (.cells #[.int .i64 t.kind, .int .i64 t.num, .string s, .slice none 0 0] 25)) (w.heap.size + 1) 25 [.int .i64 0, .int .i64 0, .string ⟨#[]⟩, .slice none 0 0] := by
    have := (Blk.alloc_ (w.alloc (.cells #[.int .i64 t.kind, .int .i64 t.num, .string s, .slice A m cap] 36)) 25 [.int .i64 0, .int .i64 0, .string ⟨#[]⟩, .slice none 0 0]).alloc (.cells #[.int .i64 t.kind, .int .i64 t.num, .string s, .slice none 0 0] 25)
    simpa using this
  have hb0 : Below w.heap.size w (((w.alloc (.cells #[.int .i64 t.kind, .int .i64 t.num, .string s, .slice A m cap] 36)).alloc (.cells #[.int .i64 0, .int .i64 0, .string ⟨#[]⟩, .slice none 0 0] 25)).alloc (.cells #[.int .i64 t.kind, .int .i64 t.num, .string s, .slice none 0 0] 25)) := by go_grown
  have hsz : (((w.alloc (.cells #[.int .i64 t.kind, .int .i64 t.num, .string s, .slice A m cap] 36)).alloc (.cells #[.int .i64 0, .int .i64 0, .string ⟨#[]⟩, .slice none 0 0] 25)).alloc (.cells #[.int .i64 t.kind, .int .i64 t.num, .string s, .slice none 0 0] 25)).heap.size = w.heap.size + 1 + 1 + 1 := by simp
  generalize ((w.alloc (.cells #[.int .i64 t.kind, .int .i64 t.num, .string s, .slice A m cap] 36)).alloc (.cells #[.int .i64 0, .int .i64 0, .string ⟨#[]⟩, .slice none 0 0] 25)).alloc (.cells #[.int .i64 t.kind, .int .i64 t.num, .string s, .slice none 0 0] 25) = w0 at *
  refine (HC.out w0 hb0).mono ?_
  rintro e w1 ⟨rfl, hk1, hn1, hb1⟩
  have hA1 := hA.below hb1 hA.lt
  have hB1 := hB.below hb1 hB.lt
  have HB1 := Lib.hid hb1
  have HB0 := Lib.hid hb0
  have HK1 := Lib.hid hk1
  have HN1 := Lib.hid hn1
  clear hk1 hn1 hb1 hb0 hA hB
  have a0 := hA1.cell 0
  have a1 := hA1.cell 1
  have a2 := hA1.cell 2
  have a3 := hA1.cell 3
  have b0 := hB1.cell 0
  have b1 := hB1.cell 1
  have b2 := hB1.cell 2
  have b3 := hB1.cell 3
  simp only [List.getElem?_cons_zero, List.getElem?_cons_succ] at a0 a1 a2 a3 b0 b1 b2 b3
  have fa3 := hA1.frozen 3
  have fb0 := hB1.frozen 0
  have fb1 := hB1.frozen 1
  have fb2 := hB1.frozen 2
  have fb3 := hB1.frozen 3
  have HSZ := Lib.hid hsz
  have HBB := Lib.hid hB1
  clear hA1 hB1
  rw [hsz]
  clear hsz
  have fin : ∀ wf : World, (∀ g, w.heap.size + 1 + 1 < g → wf.heap[g]? = w1.heap[g]?) → wf.heap.size = w1.heap.size → Below w.heap.size w1 wf →
      Kids wf (Span w.heap.size wf) d (some ⟨w.heap.size + 1 + 1 + 1, 0, none⟩) t.kids ∧ NewAt 25 wf w.heap.size d (some ⟨w.heap.size + 1 + 1 + 1, 0, none⟩) m ∧ Below w.heap.size w wf := by
    intro wf h1 h2 h3
    have hk := HK1.out
    have hn := HN1.out
    have hz := HSZ.out
    rw [hz] at hn hk
    refine ⟨hk.keep (fun p hp => World.cell?_of_block (w := w1) (h1 _ (by have := hp.1; omega))) (fun b hb => ⟨by have := hb.1; omega, by rw [h2]; exact hb.2⟩),
      hn.keep (fun g hg _ => h1 g (by omega)) (by omega), (HB0.out.trans (HB1.out.mono HB0.out.size)).trans h3⟩
  have FIN := Lib.hid fin
  clear fin
  obtain ⟨v, hv⟩ : ∃ v : Value, v = .slice (some ⟨w.heap.size + 1 + 1 + 1, 0, none⟩) m m := ⟨_, rfl⟩
  have B0 := HBB.out.far (p := ⟨w.heap.size + 1 + 1, 3, none⟩) (by simp) v
  have B1 := B0.put 0 (.int .i64 t.kind)
  have B2 := B1.put 1 (.int .i64 t.num)
  have B3 := B2.put 2 (.string s)
  have B4 := B3.put 3 v
  have q0 := B1.cell 0
  have q1 := B2.cell 1
  have q2 := B3.cell 2
  have q3 := B4.cell 3
  simp only [List.set_cons_zero, List.set_cons_succ, List.getElem?_cons_zero, List.getElem?_cons_succ] at q0 q1 q2 q3
  subst hv
  clear B0 B1 B2 B3 B4
  go_wp2_with fail
  refine bodyPost_ret (v := .agg #[.int .i64 t.kind, .int .i64 t.num, .string s, .slice (some ⟨w.heap.size + 1 + 1 + 1, 0, none⟩) m m]) (by simp [results, Tryd.results20, go_sem, q0, q1, q2, q3]) rfl ?_
  refine ⟨_, rfl, FIN.out _ (fun g hg => ?_) (by simp [World.setCell]) ?_⟩
  · rw [Below.heap_setCell _ _ _ _ (by simp; omega), Below.heap_setCell _ _ _ _ (by simp; omega), Below.heap_setCell _ _ _ _ (by simp; omega), Below.heap_setCell _ _ _ _ (by simp; omega), Below.heap_setCell _ _ _ _ (by simp; omega)]
  · exact (((((Below.refl _ _).setCell (by simp; omega) _).setCell (by simp) _).setCell (by simp) _).setCell (by simp) _).setCell (by simp) _
theorem toExpr_all (d : Nat) : QTo d ∧ RTo d := by
  induction d with
  | zero => exact ⟨toExpr_step 0 (toExprS_step 0 fun d' h => by omega), toExprS_step 0 fun d' h => by omega⟩
  | succ d ih =>
    have h : RTo (d + 1) := toExprS_step (d + 1) fun d' h => by
      obtain rfl : d' = d := by omega
      exact ih.1
    exact ⟨toExpr_step _ h, h⟩
end Go.Proofs.YtfjmjlpobbjjdaaDoor

namespace Go.Proofs.YtfjmjlpobbjjdaaDoor
open Go.RowKit Ilp
set_option linter.unusedVariables false

open Classical in
noncomputable def exEq (t u : Ex) : Bool := decide (t = u)
open Classical in
noncomputable def exsEq (t u : List Ex) : Bool := decide (t = u)
theorem exEq_true {t u : Ex} (h : t = u) : exEq t u = true := by simp [exEq, h]
theorem exEq_false {t u : Ex} (h : t ≠ u) : exEq t u = false := by simp [exEq, h]
theorem exsEq_true {t u : List Ex} (h : t = u) : exsEq t u = true := by simp [exsEq, h]
theorem exsEq_false {t u : List Ex} (h : t ≠ u) : exsEq t u = false := by simp [exsEq, h]
theorem exEq_kids {t u : Ex} (h1 : t.kind = u.kind) (h2 : t.num = u.num) (h3 : t.txt = u.txt) : exEq t u = exsEq t.kids u.kids := by
  by_cases h : t.kids = u.kids
  · rw [exsEq_true h, exEq_true]; cases t; cases u; simp_all [Ex.kind, Ex.num, Ex.txt, Ex.kids]
  · rw [exsEq_false h, exEq_false]; rintro rfl; exact h rfl
theorem exEq_iff {t u : Ex} : exEq t u = true ↔ t = u := by simp [exEq]
theorem ex_take_next {ts us : List Ex} {k : Nat} (h : ts.take k = us.take k) (h1 : k < ts.length) (h2 : k < us.length) (e : ts[k] = us[k]) : ts.take (k + 1) = us.take (k + 1) := by
  rw [List.take_succ_eq_append_getElem h1, List.take_succ_eq_append_getElem h2, h, e]
theorem ex_take_all {ts us : List Ex} {n : Nat} (h1 : ts.length = n) (h2 : us.length = n) (h : ts.take n = us.take n) : ts = us := by
  rw [List.take_of_length_le (by omega), List.take_of_length_le (by omega)] at h; exact h
theorem mkB_ne {a b : List UInt8} (h : a ≠ b) : ((mkB a).toList == (mkB b).toList) = false := by
  rw [beq_eq_false_iff_ne]; intro e; apply h
  rw [ByteArray.toList_eq, ByteArray.toList_eq, mkB_data, mkB_data] at e; exact e

def QEq (d : Nat) : Prop := ∀ (t : Ex) (A A' : Option Addr) (cap cap' : Nat) (w : World), Kids w (Low w) d A t.kids → Kids w (Low w) d A' t.kids → t.kids.length ≤ maxLen →
  Calls Tryd.prog 23 #[.agg #[.int .i64 t.kind, .int .i64 t.num, .string (mkB t.txt), .slice A t.kids.length cap], .agg #[.int .i64 t.kind, .int .i64 t.num, .string (mkB t.txt), .slice A' t.kids.length cap']] w fun e w' => e = .returned (.bool true) ∧ Below w.heap.size w w'
def REq (d : Nat) : Prop := ∀ (ks : List Ex) (A A' : Option Addr) (m cap cap' : Nat) (w : World), Kids w (Low w) d A ks → Kids w (Low w) d A' ks → Hid (ks.length = m) → m ≤ maxLen →
  Calls Tryd.prog 56 #[.slice A m cap, .slice A' m cap'] w fun e w' => e = .returned (.bool true) ∧ Below w.heap.size w w'
set_option maxHeartbeats 2000000 in
set_option maxRecDepth 20000 in
theorem eqExprS_step (d : Nat) (ih : ∀ d', d = d' + 1 → QEq d') : REq d := by
  intro ks A A' m cap cap' w hk hk' hl hm
  have hm' : (m : Int) ≤ 9223372036854775807 := by unfold maxLen at hm; omega
  have HK := Lib.hid hk
  have HK' := Lib.hid hk'
  have HIH := Lib.hid ih
  have hne : ((m : Int) != m) = false := by simp
  clear hk hk' ih hm
  go_enter Tryd.func56, Tryd.ntmps56
  go_wp2_with fail
  go_loopw [5] (fun v wr => ∃ k : Nat, v = .int .i64 (k : Int) ∧ k ≤ m ∧ Below w.heap.size w wr) (fun v _ => m - (intOf v).toNat)
  case atStart => exact ⟨0, rfl, Nat.zero_le _, Below.refl _ _⟩
  case round =>
    obtain ⟨k, rfl, hk, hbw⟩ := hrel
    have HB := Lib.hid hbw; clear hbw
    by_cases hlt : k < m
    · have hx : k < ks.length := by rw [hl.out]; exact hlt
      obtain ⟨b, o, A1, cap1, d1, rfl, hbb, hd1, c0, c1, c2, c3, g1, g2, g3, hkk⟩ := (HK.out.below HB.out).get hx
      obtain ⟨b', o', A2, cap2, d2, rfl, hbb', hd2, e0, e1, e2, e3, g1', g2', g3', hkk'⟩ := (HK'.out.below HB.out).get hx
      obtain rfl : d1 = d2 := by omega
      have cE : ∀ dd os, Calls Tryd.prog 23 #[.agg #[.int .i64 ks[k].kind, .int .i64 ks[k].num, .string (mkB ks[k].txt), .slice A1 ks[k].kids.length cap1], .agg #[.int .i64 ks[k].kind, .int .i64 ks[k].num, .string (mkB ks[k].txt), .slice A2 ks[k].kids.length cap2]] (Go.Sort.grow (redrawn wr dd) os) fun e w'' => e = .returned (.bool true) ∧ ∃ p : Regrown, w'' = Go.Sort.grow (redrawn wr p.d) p.os :=
        fun dd os => Calls.regrown_of (HIH.out d1 hd1 ks[k] A1 A2 cap1 cap2 _ (hkk.below (below_regrown _ _ _)) (hkk'.below (below_regrown _ _ _)) (by omega))
      obtain ⟨x, ex⟩ : ∃ x, x = ks[k] := ⟨_, rfl⟩
      rw [← ex] at c0 c1 c2 c3 e0 e1 e2 e3
      simp only [← ex] at cE
      have CE := Lib.hid cE
      have q0 := cell_regrown c0
      have q1 := cell_regrown c1
      have q2 := cell_regrown c2
      have q3 := cell_regrown c3
      have r0 := cell_regrown e0
      have r1 := cell_regrown e1
      have r2 := cell_regrown e2
      have r3 := cell_regrown e3
      have h0 : (0 : Int) ≤ (k : Int) := by omega
      have h1 : (k : Int) < (m : Int) := by omega
      clear cE ex hx g1 g2 g3 g1' g2' g3' hkk hkk' hd1 hd2
      go_wp2_with fail
      refine wp_region_quiet_below (by kernel_rfl) (by kernel_rfl) ?_
      repeat (go_big_quiet_step (with_reducible exact CE.out _ _))
      refine wpQuiet_nil ?_
      intro w5 hw'
      have hb5 : Below wr.heap.size wr w5 := by obtain ⟨⟨dq, osq⟩, rfl⟩ := hw'; exact below_regrown _ _ _
      have HB5 : Hid (Below w.heap.size w w5) := HB.out.trans (hb5.mono HB.out.size)
      clear hw' hb5 c0 c1 c2 c3 e0 e1 e2 e3 q0 q1 q2 q3 r0 r1 r2 r3
      go_wp2_with fail
      go_roundw
      case rel => exact ⟨k + 1, by go_num, by omega, HB5.out⟩
      case measure => simp [intOf]; omega
    · obtain rfl : k = m := by omega
      go_wp2_with fail
      go_ret
      exact ⟨rfl, HB.out⟩
set_option maxHeartbeats 2000000 in
set_option maxRecDepth 20000 in
theorem eqExpr_step (d : Nat) (ih : REq d) : QEq d := by
  intro t A A' cap cap' w hk hk' hm
  have C := fun W (h : Below w.heap.size w W) => ih t.kids A A' t.kids.length cap cap' W (hk.below h) (hk'.below h) rfl hm
  have HC := Lib.hid C
  have h1 : (t.kind != t.kind) = false := by simp
  have h2 : (t.num != t.num) = false := by simp
  have h3 : ((mkB t.txt).toList == (mkB t.txt).toList) = true := by simp
  clear C hk hk' ih
  generalize t.kids.length = m at *
  generalize mkB t.txt = s at *
  generalize t.kind = kk at *
  generalize t.num = nn at *
  go_enter Tryd.func23, Tryd.ntmps23
  go_wp2_with fail
  refine (HC.out _ (by go_grown)).mono ?_
  rintro e w1 ⟨rfl, hb1⟩
  have HB1 : Hid (Below w.heap.size w w1) := Below.trans (by go_grown) (hb1.mono (by simp; omega))
  clear hb1
  go_wp2_with fail
  go_ret
  exact ⟨rfl, HB1.out⟩
theorem eqExpr_all (d : Nat) : QEq d ∧ REq d := by
  induction d with
  | zero => exact ⟨eqExpr_step 0 (eqExprS_step 0 fun d' h => by omega), eqExprS_step 0 fun d' h => by omega⟩
  | succ d ih =>
    have h : REq (d + 1) := eqExprS_step (d + 1) fun d' h => by
      obtain rfl : d' = d := by omega
      exact ih.1
    exact ⟨eqExpr_step _ h, h⟩

/-- ExprSame, as a function F of the dump has it. -/
def QSame (F : FuncId) (d : Nat) : Prop := ∀ (t u : Ex) (A A' : Option Addr) (cap cap' : Nat) (w : World), Kids w (Low w) d A t.kids → Kids w (Low w) d A' u.kids → t.kids.length ≤ maxLen → u.kids.length ≤ maxLen →
  Calls Tryd.prog F #[.agg #[.int .i64 t.kind, .int .i64 t.num, .string (mkB t.txt), .slice A t.kids.length cap], .agg #[.int .i64 u.kind, .int .i64 u.num, .string (mkB u.txt), .slice A' u.kids.length cap']] w fun e w' => e = .returned (.bool (exEq t u)) ∧ Below w.heap.size w w'

set_option maxHeartbeats 4000000 in
set_option maxRecDepth 20000 in
theorem specExprSame_step (d : Nat) (ih : ∀ d', d = d' + 1 → QSame 40 d') : QSame 40 d := by
  intro t u A A' cap cap' w hk hk' hm hm'
  have hmI : (t.kids.length : Int) ≤ 9223372036854775807 := by unfold maxLen at hm; omega
  have hmI' : (u.kids.length : Int) ≤ 9223372036854775807 := by unfold maxLen at hm'; omega
  by_cases e1 : t.kind = u.kind
  · by_cases e2 : t.num = u.num
    · by_cases e3 : t.txt = u.txt
      · by_cases e4 : t.kids.length = u.kids.length
        · have HE := Lib.hid (exEq_kids e1 e2 e3)
          rw [← e1, ← e2, ← e3, ← e4]
          have HK := Lib.hid hk
          have HK' := Lib.hid hk'
          have HIH := Lib.hid ih
          have h1 : (t.kind != t.kind) = false := by simp
          have h2 : (t.num != t.num) = false := by simp
          have h3 : ((mkB t.txt).toList == (mkB t.txt).toList) = true := by simp
          have hl'0 := e4.symm
          have h5 : ((t.kids.length : Int) != (t.kids.length : Int)) = false := by simp
          generalize hml : t.kids.length = m at *
          have hl : Hid (t.kids.length = m) := hml
          have hl' : Hid (u.kids.length = m) := hl'0
          clear hl'0
          clear hml hk hk' ih e1 e2 e3 e4 hmI' hm hm'
          generalize mkB t.txt = s at *
          generalize t.kind = kk at *
          generalize t.num = nn at *
          go_enter Tryd.func40, Tryd.ntmps40
          go_wp2_with fail
          have hA : Blk ((w.alloc (.cells #[.int .i64 kk, .int .i64 nn, .string s, .slice A m cap] 25)).alloc (.cells #[.int .i64 kk, .int .i64 nn, .string s, .slice A' m cap'] 25)) w.heap.size 25 [.int .i64 kk, .int .i64 nn, .string s, .slice A m cap] := (Blk.alloc_ w 25 [.int .i64 kk, .int .i64 nn, .string s, .slice A m cap]).alloc _
          have hB : Blk ((w.alloc (.cells #[.int .i64 kk, .int .i64 nn, .string s, .slice A m cap] 25)).alloc (.cells #[.int .i64 kk, .int .i64 nn, .string s, .slice A' m cap'] 25)) (w.heap.size + 1) 25 [.int .i64 kk, .int .i64 nn, .string s, .slice A' m cap'] := by
            have := Blk.alloc_ (w.alloc (.cells #[.int .i64 kk, .int .i64 nn, .string s, .slice A m cap] 25)) 25 [.int .i64 kk, .int .i64 nn, .string s, .slice A' m cap']
            simpa using this
          have hb0 : Below w.heap.size w ((w.alloc (.cells #[.int .i64 kk, .int .i64 nn, .string s, .slice A m cap] 25)).alloc (.cells #[.int .i64 kk, .int .i64 nn, .string s, .slice A' m cap'] 25)) := by go_grown
          generalize ((w.alloc (.cells #[.int .i64 kk, .int .i64 nn, .string s, .slice A m cap] 25)).alloc (.cells #[.int .i64 kk, .int .i64 nn, .string s, .slice A' m cap'] 25)) = w0 at *
          have HA := Lib.hid hA
          have HB0 := Lib.hid hB
          have HW0 := Lib.hid hb0
          clear hA hB hb0
          go_loopw [5] (fun v wr => ∃ k : Nat, v = .int .i64 (k : Int) ∧ k ≤ m ∧ Hid (t.kids.take k = u.kids.take k) ∧ Below w0.heap.size w0 wr) (fun v _ => m - (intOf v).toNat)
          case atStart => exact ⟨0, rfl, Nat.zero_le _, rfl, Below.refl _ _⟩
          case round =>
            obtain ⟨k, rfl, hk, htk, hbw⟩ := hrel
            have HB := Lib.hid hbw
            have a3 := (HA.out.below hbw HA.out.lt).cell 3
            have b3 := (HB0.out.below hbw HB0.out.lt).cell 3
            simp only [List.getElem?_cons_zero, List.getElem?_cons_succ] at a3 b3
            clear hbw
            by_cases hlt : k < m
            · have hx : k < t.kids.length := by rw [hl.out]; exact hlt
              have hx' : k < u.kids.length := by rw [hl'.out]; exact hlt
              have HBw : Below w.heap.size w wr := HW0.out.trans (HB.out.mono HW0.out.size)
              obtain ⟨b, o, A1, cap1, d1, rfl, hbb, hd1, c0, c1, c2, c3, g1, g2, g3, hkk⟩ := (HK.out.below HBw).get hx
              obtain ⟨b', o', A2, cap2, d2, rfl, hbb', hd2, e0, e1, e2, e3, g1', g2', g3', hkk'⟩ := (HK'.out.below HBw).get hx'
              obtain rfl : d1 = d2 := by omega
              have cE : ∀ dd os, Calls Tryd.prog 40 #[.agg #[.int .i64 t.kids[k].kind, .int .i64 t.kids[k].num, .string (mkB t.kids[k].txt), .slice A1 t.kids[k].kids.length cap1], .agg #[.int .i64 u.kids[k].kind, .int .i64 u.kids[k].num, .string (mkB u.kids[k].txt), .slice A2 u.kids[k].kids.length cap2]] (Go.Sort.grow (redrawn wr dd) os) fun e w'' => e = .returned (.bool (exEq t.kids[k] u.kids[k])) ∧ ∃ p : Regrown, w'' = Go.Sort.grow (redrawn wr p.d) p.os :=
                fun dd os => Calls.regrown_of (HIH.out d1 hd1 t.kids[k] u.kids[k] A1 A2 cap1 cap2 _ (hkk.below (below_regrown _ _ _)) (hkk'.below (below_regrown _ _ _)) (by omega) (by omega))
              have HX := Lib.hid (fun e : t.kids[k] = u.kids[k] => ex_take_next htk.out hx hx' e)
              have HX2 : Hid (t.kids[k] ≠ u.kids[k] → t.kids ≠ u.kids) := fun h e => h (by simp only [e])
              obtain ⟨x, ex⟩ : ∃ x, x = t.kids[k] := ⟨_, rfl⟩
              obtain ⟨y, ey⟩ : ∃ y, y = u.kids[k] := ⟨_, rfl⟩
              rw [← ex] at c0 c1 c2 c3 HX HX2
              rw [← ey] at e0 e1 e2 e3 HX HX2
              simp only [← ex, ← ey] at cE
              have CE := Lib.hid cE
              have q0 := cell_regrown c0
              have q1 := cell_regrown c1
              have q2 := cell_regrown c2
              have q3 := cell_regrown c3
              have r0 := cell_regrown e0
              have r1 := cell_regrown e1
              have r2 := cell_regrown e2
              have r3 := cell_regrown e3
              have z3 := cell_regrown a3
              have y3 := cell_regrown b3
              have h0 : (0 : Int) ≤ (k : Int) := by omega
              have h1 : (k : Int) < (m : Int) := by omega
              clear cE ex ey hx hx' g1 g2 g3 g1' g2' g3' hkk hkk' hd1 hd2 HBw
              cases heq : exEq x y with
              | true =>
                have HT := Lib.hid (HX.out (exEq_iff.1 heq))
                have HQ := Lib.hid heq
                rw [heq] at CE
                clear heq
                go_wp2_with fail
                refine wp_region_quiet_below (by kernel_rfl) (by kernel_rfl) ?_
                repeat (go_big_quiet_step (with_reducible exact CE.out _ _))
                refine wpQuiet_nil ?_
                intro w5 hw'
                have hb5 : Below wr.heap.size wr w5 := by obtain ⟨⟨dq, osq⟩, rfl⟩ := hw'; exact below_regrown _ _ _
                have HB5 : Hid (Below w0.heap.size w0 w5) := HB.out.trans (hb5.mono HB.out.size)
                clear hw' hb5 c0 c1 c2 c3 e0 e1 e2 e3 q0 q1 q2 q3 r0 r1 r2 r3 a3 b3 z3 y3
                go_wp2_with fail
                go_roundw
                case rel => exact ⟨k + 1, by go_num, by omega, HT.out, HB5.out⟩
                case measure => simp [intOf]; omega
              | false =>
                have HF : Hid (exEq t u = false) := by
                  unfold Hid
                  rw [HE.out]
                  exact exsEq_false (HX2.out (fun e => by rw [exEq_true e] at heq; cases heq))
                rw [heq] at CE
                clear heq
                go_wp2_with fail
                refine wp_region_quiet_below (by kernel_rfl) (by kernel_rfl) ?_
                repeat (go_big_quiet_step (with_reducible exact CE.out _ _))
                refine wpQuiet_nil ?_
                intro w5 hw'
                have hb5 : Below wr.heap.size wr w5 := by obtain ⟨⟨dq, osq⟩, rfl⟩ := hw'; exact below_regrown _ _ _
                have HB5 : Hid (Below w.heap.size w w5) := HW0.out.trans ((HB.out.trans (hb5.mono HB.out.size)).mono HW0.out.size)
                clear hw' hb5 c0 c1 c2 c3 e0 e1 e2 e3 q0 q1 q2 q3 r0 r1 r2 r3 a3 b3 z3 y3
                go_wp2_with fail
                go_ret
                exact ⟨by rw [HF.out]; rfl, HB5.out⟩
            · obtain rfl : k = m := by omega
              have HT : Hid (exEq t u = true) := by
                unfold Hid; rw [HE.out]; exact exsEq_true (ex_take_all hl.out hl'.out htk.out)
              go_wp2_with fail
              go_ret
              exact ⟨by rw [HT.out]; rfl, HW0.out.trans (HB.out.mono HW0.out.size)⟩
        · have HF : Hid (exEq t u = false) := exEq_false (by rintro rfl; exact e4 rfl)
          rw [← e1, ← e2, ← e3]
          have h1 : (t.kind != t.kind) = false := by simp
          have h2 : (t.num != t.num) = false := by simp
          have h3 : ((mkB t.txt).toList == (mkB t.txt).toList) = true := by simp
          have h5 : ((t.kids.length : Int) != (u.kids.length : Int)) = true := by rw [bne_iff_ne]; omega
          clear hk hk' ih e1 e2 e3 e4 hm hm'
          generalize mkB t.txt = s at *
          generalize t.kind = kk at *
          generalize t.num = nn at *
          generalize t.kids.length = m at *
          generalize u.kids.length = m' at *
          go_enter Tryd.func40, Tryd.ntmps40
          go_wp2_with fail
          go_ret
          exact ⟨by rw [HF.out]; rfl, by go_grown⟩
      · have HF : Hid (exEq t u = false) := exEq_false (by rintro rfl; exact e3 rfl)
        rw [← e1, ← e2]
        have h1 : (t.kind != t.kind) = false := by simp
        have h2 : (t.num != t.num) = false := by simp
        have h3 := mkB_ne e3
        clear hk hk' ih e1 e2 e3 hm hm'
        generalize mkB t.txt = s at *
        generalize mkB u.txt = s' at *
        generalize t.kind = kk at *
        generalize t.num = nn at *
        generalize t.kids.length = m at *
        generalize u.kids.length = m' at *
        go_enter Tryd.func40, Tryd.ntmps40
        go_wp2_with fail
        go_ret
        exact ⟨by rw [HF.out]; rfl, by go_grown⟩
    · have HF : Hid (exEq t u = false) := exEq_false (by rintro rfl; exact e2 rfl)
      rw [← e1]
      have h1 : (t.kind != t.kind) = false := by simp
      have h2 : (t.num != u.num) = true := by rw [bne_iff_ne]; exact e2
      clear hk hk' ih e1 e2 hm hm'
      generalize mkB t.txt = s at *
      generalize mkB u.txt = s' at *
      generalize t.kind = kk at *
      generalize t.num = nn at *
      generalize u.num = nn' at *
      generalize t.kids.length = m at *
      generalize u.kids.length = m' at *
      go_enter Tryd.func40, Tryd.ntmps40
      go_wp2_with fail
      go_ret
      exact ⟨by rw [HF.out]; rfl, by go_grown⟩
  · have HF : Hid (exEq t u = false) := exEq_false (by rintro rfl; exact e1 rfl)
    have h1 : (t.kind != u.kind) = true := by rw [bne_iff_ne]; exact e1
    clear hk hk' ih e1 hm hm'
    generalize mkB t.txt = s at *
    generalize mkB u.txt = s' at *
    generalize t.kind = kk at *
    generalize u.kind = kk' at *
    generalize t.num = nn at *
    generalize u.num = nn' at *
    generalize t.kids.length = m at *
    generalize u.kids.length = m' at *
    go_enter Tryd.func40, Tryd.ntmps40
    go_wp2_with fail
    go_ret
    exact ⟨by rw [HF.out]; rfl, by go_grown⟩
theorem specExprSame_all (d : Nat) : QSame 40 d := by
  induction d with
  | zero => exact specExprSame_step 0 fun d' h => by omega
  | succ d ih =>
    exact specExprSame_step (d + 1) fun d' h => by
      obtain rfl : d' = d := by omega
      exact ih
end Go.Proofs.YtfjmjlpobbjjdaaDoor

namespace Go.Proofs.YtfjmjlpobbjjdaaDoor
open Go.RowKit Ilp
set_option linter.unusedVariables false

def RSame (d : Nat) : Prop := ∀ (ts us : List Ex) (A A' : Option Addr) (m m' cap cap' : Nat) (w : World), Kids w (Low w) d A ts → Kids w (Low w) d A' us → Hid (ts.length = m) → Hid (us.length = m') → m ≤ maxLen → m' ≤ maxLen →
  Calls Tryd.prog 70 #[.slice A m cap, .slice A' m' cap', .func (.func 39) #[] #[]] w fun e w' => e = .returned (.bool (exsEq ts us)) ∧ Below w.heap.size w w'
set_option maxHeartbeats 4000000 in
set_option maxRecDepth 20000 in
theorem equalFunc_step (d : Nat) (ih : ∀ d', d = d' + 1 → QSame 39 d') : RSame d := by
  intro ts us A A' m m' cap cap' w hk hk' hl hl' hm hm'
  have hmI : (m : Int) ≤ 9223372036854775807 := by unfold maxLen at hm; omega
  have hmI' : (m' : Int) ≤ 9223372036854775807 := by unfold maxLen at hm'; omega
  by_cases hmm : m = m'
  · subst hmm
    have HK := Lib.hid hk
    have HK' := Lib.hid hk'
    have HIH := Lib.hid ih
    have hne : ((m : Int) != m) = false := by simp
    clear hk hk' ih hm hm' hmI'
    go_enter Tryd.func70, Tryd.ntmps70
    go_wp2_with fail
    go_loopw [17] (fun v wr => ∃ k : Nat, v = .int .i64 (k : Int) ∧ k ≤ m ∧ Hid (ts.take k = us.take k) ∧ Below w.heap.size w wr) (fun v _ => m - (intOf v).toNat)
    case atStart => exact ⟨0, rfl, Nat.zero_le _, rfl, Below.refl _ _⟩
    case round =>
      obtain ⟨k, rfl, hk, htk, hbw⟩ := hrel
      have HB := Lib.hid hbw
      clear hbw
      by_cases hlt : k < m
      · have hx : k < ts.length := by rw [hl.out]; exact hlt
        have hx' : k < us.length := by rw [hl'.out]; exact hlt
        obtain ⟨b, o, A1, cap1, d1, rfl, hbb, hd1, c0, c1, c2, c3, g1, g2, g3, hkk⟩ := (HK.out.below HB.out).get hx
        obtain ⟨b', o', A2, cap2, d2, rfl, hbb', hd2, e0, e1, e2, e3, g1', g2', g3', hkk'⟩ := (HK'.out.below HB.out).get hx'
        obtain rfl : d1 = d2 := by omega
        have cE := fun W (h : Below wr.heap.size wr W) => HIH.out d1 hd1 ts[k] us[k] A1 A2 cap1 cap2 W (hkk.below h) (hkk'.below h) (by omega) (by omega)
        have HX := Lib.hid (fun e : ts[k] = us[k] => ex_take_next htk.out hx hx' e)
        have HX2 : Hid (ts[k] ≠ us[k] → ts ≠ us) := fun h e => h (by simp only [e])
        obtain ⟨x, ex⟩ : ∃ x, x = ts[k] := ⟨_, rfl⟩
        obtain ⟨y, ey⟩ : ∃ y, y = us[k] := ⟨_, rfl⟩
        rw [← ex] at c0 c1 c2 c3 HX HX2
        rw [← ey] at e0 e1 e2 e3 HX HX2
        simp only [← ex, ← ey] at cE
        have CE := Lib.hid cE
        have q0 : ∀ ob, (wr.alloc ob).cell? ⟨b', o' + k * 4, none⟩ = some (.int .i64 y.kind) := fun ob => (((Below.refl wr.heap.size wr).alloc (Nat.le_refl _) ob).cell (p := ⟨b', o' + k * 4, none⟩) hbb').trans e0
        have q1 : ∀ ob, (wr.alloc ob).cell? ⟨b', o' + k * 4 + 1, none⟩ = some (.int .i64 y.num) := fun ob => (((Below.refl wr.heap.size wr).alloc (Nat.le_refl _) ob).cell (p := ⟨b', o' + k * 4 + 1, none⟩) hbb').trans e1
        have q2 : ∀ ob, (wr.alloc ob).cell? ⟨b', o' + k * 4 + 2, none⟩ = some (.string (mkB y.txt)) := fun ob => (((Below.refl wr.heap.size wr).alloc (Nat.le_refl _) ob).cell (p := ⟨b', o' + k * 4 + 2, none⟩) hbb').trans e2
        have q3 : ∀ ob, (wr.alloc ob).cell? ⟨b', o' + k * 4 + 3, none⟩ = some (.slice A2 y.kids.length cap2) := fun ob => (((Below.refl wr.heap.size wr).alloc (Nat.le_refl _) ob).cell (p := ⟨b', o' + k * 4 + 3, none⟩) hbb').trans e3
        have h0 : (0 : Int) ≤ (k : Int) := by omega
        have h1 : (k : Int) < (m : Int) := by omega
        clear cE ex ey hx hx' g1 g2 g3 g1' g2' g3' hkk hkk' hd1 hd2 e0 e1 e2 e3
        cases heq : exEq x y with
        | true =>
          have HT := Lib.hid (HX.out (exEq_iff.1 heq))
          rw [heq] at CE
          clear heq
          go_wp2_with fail
          refine (CE.out _ (by go_grown)).mono ?_
          rintro e w5 ⟨rfl, hb5⟩
          have HB5 : Hid (Below w.heap.size w w5) := HB.out.trans ((Below.trans (B := wr.heap.size) (by go_grown) (hb5.mono (by simp; omega))).mono HB.out.size)
          clear hb5 c0 c1 c2 c3 q0 q1 q2 q3
          go_wp2_with fail
          go_roundw
          case rel => exact ⟨k + 1, by go_num, by omega, HT.out, HB5.out⟩
          case measure => simp [intOf]; omega
        | false =>
          have HF : Hid (exsEq ts us = false) := exsEq_false (HX2.out (fun e => by rw [exEq_true e] at heq; cases heq))
          rw [heq] at CE
          clear heq
          go_wp2_with fail
          refine (CE.out _ (by go_grown)).mono ?_
          rintro e w5 ⟨rfl, hb5⟩
          have HB5 : Hid (Below w.heap.size w w5) := HB.out.trans ((Below.trans (B := wr.heap.size) (by go_grown) (hb5.mono (by simp; omega))).mono HB.out.size)
          clear hb5 c0 c1 c2 c3 q0 q1 q2 q3
          go_wp2_with fail
          go_ret
          exact ⟨by rw [HF.out]; rfl, HB5.out⟩
      · obtain rfl : k = m := by omega
        have HT : Hid (exsEq ts us = true) := exsEq_true (ex_take_all hl.out hl'.out htk.out)
        go_wp2_with fail
        go_ret
        exact ⟨by rw [HT.out]; rfl, HB.out⟩
  · have HF : Hid (exsEq ts us = false) := exsEq_false (by rintro rfl; exact hmm (hl.out.symm.trans hl'.out))
    have hne : ((m : Int) != (m' : Int)) = true := by rw [bne_iff_ne]; omega
    clear hk hk' ih hm hm' hmm
    go_enter Tryd.func70, Tryd.ntmps70
    go_wp2_with fail
    go_ret
    exact ⟨by rw [HF.out]; rfl, Below.refl _ _⟩
set_option maxHeartbeats 4000000 in
set_option maxRecDepth 20000 in
theorem implExprSame_step (d : Nat) (ih : RSame d) : QSame 39 d := by
  intro t u A A' cap cap' w hk hk' hm hm'
  have hmI : (t.kids.length : Int) ≤ 9223372036854775807 := by unfold maxLen at hm; omega
  have hmI' : (u.kids.length : Int) ≤ 9223372036854775807 := by unfold maxLen at hm'; omega
  by_cases e1 : t.kind = u.kind
  · by_cases e2 : t.num = u.num
    · by_cases e3 : t.txt = u.txt
      · have HE := Lib.hid (exEq_kids e1 e2 e3)
        rw [← e1, ← e2, ← e3]
        have C := fun W (h : Below w.heap.size w W) => ih t.kids u.kids A A' t.kids.length u.kids.length cap cap' W (hk.below h) (hk'.below h) rfl rfl hm hm'
        have HC := Lib.hid C
        have h1 : (t.kind == t.kind) = true := by simp
        have h2 : (t.num == t.num) = true := by simp
        have h3 : ((mkB t.txt).toList == (mkB t.txt).toList) = true := by simp
        clear C hk hk' ih e1 e2 e3 hm hm'
        generalize mkB t.txt = s at *
        generalize t.kind = kk at *
        generalize t.num = nn at *
        generalize t.kids.length = m at *
        generalize u.kids.length = m' at *
        go_enter Tryd.func39, Tryd.ntmps39
        go_wp2_with fail
        refine (HC.out _ (by go_grown)).mono ?_
        rintro e w1 ⟨rfl, hb1⟩
        have HB1 : Hid (Below w.heap.size w w1) := Below.trans (by go_grown) (hb1.mono (by simp; omega))
        clear hb1
        go_wp2_with fail
        go_ret
        exact ⟨by rw [HE.out]; rfl, HB1.out⟩
      · have HF : Hid (exEq t u = false) := exEq_false (by rintro rfl; exact e3 rfl)
        rw [← e1, ← e2]
        have h1 : (t.kind == t.kind) = true := by simp
        have h2 : (t.num == t.num) = true := by simp
        have h3 := mkB_ne e3
        clear hk hk' ih e1 e2 e3 hm hm'
        generalize mkB t.txt = s at *
        generalize mkB u.txt = s' at *
        generalize t.kind = kk at *
        generalize t.num = nn at *
        generalize t.kids.length = m at *
        generalize u.kids.length = m' at *
        go_enter Tryd.func39, Tryd.ntmps39
        go_wp2_with fail
        go_ret
        exact ⟨by rw [HF.out]; rfl, by go_grown⟩
    · have HF : Hid (exEq t u = false) := exEq_false (by rintro rfl; exact e2 rfl)
      rw [← e1]
      have h1 : (t.kind == t.kind) = true := by simp
      have h2 : (t.num == u.num) = false := by rw [beq_eq_false_iff_ne]; exact e2
      clear hk hk' ih e1 e2 hm hm'
      generalize mkB t.txt = s at *
      generalize mkB u.txt = s' at *
      generalize t.kind = kk at *
      generalize t.num = nn at *
      generalize u.num = nn' at *
      generalize t.kids.length = m at *
      generalize u.kids.length = m' at *
      go_enter Tryd.func39, Tryd.ntmps39
      go_wp2_with fail
      go_ret
      exact ⟨by rw [HF.out]; rfl, by go_grown⟩
  · have HF : Hid (exEq t u = false) := exEq_false (by rintro rfl; exact e1 rfl)
    have h1 : (t.kind == u.kind) = false := by rw [beq_eq_false_iff_ne]; exact e1
    clear hk hk' ih e1 hm hm'
    generalize mkB t.txt = s at *
    generalize mkB u.txt = s' at *
    generalize t.kind = kk at *
    generalize u.kind = kk' at *
    generalize t.num = nn at *
    generalize u.num = nn' at *
    generalize t.kids.length = m at *
    generalize u.kids.length = m' at *
    go_enter Tryd.func39, Tryd.ntmps39
    go_wp2_with fail
    go_ret
    exact ⟨by rw [HF.out]; rfl, by go_grown⟩
theorem implExprSame_all (d : Nat) : QSame 39 d ∧ RSame d := by
  induction d with
  | zero => exact ⟨implExprSame_step 0 (equalFunc_step 0 fun d' h => by omega), equalFunc_step 0 fun d' h => by omega⟩
  | succ d ih =>
    have h : RSame (d + 1) := equalFunc_step (d + 1) fun d' h => by
      obtain rfl : d' = d := by omega
      exact ih.1
    exact ⟨implExprSame_step _ h, h⟩
end Go.Proofs.YtfjmjlpobbjjdaaDoor

namespace Go.Proofs.YtfjmjlpobbjjdaaDoor
open Go.RowKit Ilp
set_option linter.unusedVariables false

/-- These cells are this, in memory that stands. -/
def IsEV (W : World) (cs : List Value) (t : Ex) : Prop := ∃ d, ExAt W (Low W) d cs t
theorem IsEV.below {W W' : World} {cs : List Value} {t : Ex} (h : IsEV W cs t) (hb : Below W.heap.size W W') : IsEV W' cs t := by
  obtain ⟨d, h⟩ := h; exact ⟨d, h.below hb⟩
theorem IsEV.parts {W : World} {k n : Int} {g : ByteArray} {A : Option Addr} {l c : Nat} {t : Ex} (h : IsEV W [.int .i64 k, .int .i64 n, .string g, .slice A l c] t) :
    k = t.kind ∧ n = t.num ∧ g = mkB t.txt ∧ l = t.kids.length ∧ t.kids.length ≤ c ∧ c ≤ maxLen ∧ t.txt.length ≤ maxLen ∧ ∃ d, Kids W (Low W) d A t.kids := by
  obtain ⟨d, h⟩ := h
  cases d with
  | zero => exact h.elim
  | succ d =>
    obtain ⟨A', c', e, h1, h2, h3, hk⟩ := h
    simp only [exC, List.cons.injEq, Value.int.injEq, Value.string.injEq, Value.slice.injEq, true_and, and_true] at e
    obtain ⟨rfl, rfl, rfl, rfl, rfl, rfl⟩ := e
    exact ⟨rfl, rfl, rfl, rfl, h1, h2, h3, d, hk⟩
theorem IsEV.mk {W : World} {d : Nat} {A : Option Addr} {c : Nat} {t : Ex} (h1 : t.kids.length ≤ c) (h2 : c ≤ maxLen) (h3 : t.txt.length ≤ maxLen) (hk : Kids W (Low W) d A t.kids) :
    IsEV W [.int .i64 t.kind, .int .i64 t.num, .string (mkB t.txt), .slice A t.kids.length c] t := ⟨d + 1, A, c, rfl, h1, h2, h3, hk⟩
theorem isExpr_open {w : World} {x : Array Value} {t : ExprT} (h : IsExpr w x t) : ∃ (k n : Int) (g : ByteArray) (A : Option Addr) (l c : Nat), x = #[.int .i64 k, .int .i64 n, .string g, .slice A l c] ∧ IsEV w [.int .i64 k, .int .i64 n, .string g, .slice A l c] t := by
  obtain ⟨d, h⟩ := h
  cases d with
  | zero => exact h.elim
  | succ d =>
    obtain ⟨A', c', e, h1, h2, h3, hk⟩ := h
    refine ⟨t.kind, t.num, mkB t.txt, A', t.kids.length, c', ?_, IsEV.mk h1 h2 h3 hk⟩
    apply Array.ext'; rw [e]; rfl
abbrev wtExpr := wgt
noncomputable abbrev sameExpr := exEq

theorem szExprV (k n : Int) (g : ByteArray) (A : Option Addr) (l c : Nat) (t : ExprT) (left : Int) (W : World) (h : IsEV W [.int .i64 k, .int .i64 n, .string g, .slice A l c] t) (h0 : 0 ≤ left) (h1 : left ≤ 1048576) :
    Calls Tryd.prog 18 #[.agg #[.int .i64 k, .int .i64 n, .string g, .slice A l c], .int .i64 left] W (SzR (wtExpr t) left W) := by
  obtain ⟨rfl, rfl, rfl, rfl, h2, h3, h4, d, hk⟩ := h.parts
  exact (szExpr_all d).1 t A c left W hk (Nat.le_trans h2 h3) h4 h0 h1
theorem toExprV (k n : Int) (g : ByteArray) (A : Option Addr) (l c : Nat) (t : ExprT) (W : World) (h : IsEV W [.int .i64 k, .int .i64 n, .string g, .slice A l c] t) (hw : wtExpr t ≤ 1048576) :
    Calls Tryd.prog 20 #[.agg #[.int .i64 k, .int .i64 n, .string g, .slice A l c]] W fun e w' => ∃ (A' : Option Addr) (c' : Nat), e = .returned (.agg #[.int .i64 k, .int .i64 n, .string g, .slice A' l c']) ∧ IsEV w' [.int .i64 k, .int .i64 n, .string g, .slice A' l c'] t ∧ Below W.heap.size W w' := by
  obtain ⟨rfl, rfl, rfl, rfl, h2, h3, h4, d, hk⟩ := h.parts
  have e := wgt_eq t
  have h5 := wgts_len t.kids
  have h6 : wgt t ≤ 1048576 := hw
  refine ((toExpr_all d).1 t A c W hk h4 (by omega)).mono ?_
  rintro e w' ⟨A', rfl, hk', _, hb⟩
  exact ⟨A', t.kids.length, rfl, IsEV.mk (Nat.le_refl _) (by unfold maxLen; omega) h4 hk'.low, hb⟩
theorem sameV {F : FuncId} (hF : ∀ d, QSame F d) {k n k' n' : Int} {g g' : ByteArray} {A A' : Option Addr} {l c l' c' : Nat} {t u : ExprT} {W : World} (h : IsEV W [.int .i64 k, .int .i64 n, .string g, .slice A l c] t) (h' : IsEV W [.int .i64 k', .int .i64 n', .string g', .slice A' l' c'] u) :
    Calls Tryd.prog F #[.agg #[.int .i64 k, .int .i64 n, .string g, .slice A l c], .agg #[.int .i64 k', .int .i64 n', .string g', .slice A' l' c']] W fun e w' => e = .returned (.bool (sameExpr t u)) ∧ Below W.heap.size W w' := by
  obtain ⟨rfl, rfl, rfl, rfl, h2, h3, h4, d, hk⟩ := h.parts
  obtain ⟨rfl, rfl, rfl, rfl, h2', h3', h4', d', hk'⟩ := h'.parts
  exact hF (max d d') t u A A' c c' W (hk.deep (by omega)) (hk'.deep (by omega)) (Nat.le_trans h2 h3) (Nat.le_trans h2' h3')
theorem specExprV {k n k' n' : Int} {g g' : ByteArray} {A A' : Option Addr} {l c l' c' : Nat} {t u : ExprT} {W : World} (h : IsEV W [.int .i64 k, .int .i64 n, .string g, .slice A l c] t) (h' : IsEV W [.int .i64 k', .int .i64 n', .string g', .slice A' l' c'] u) :
    Calls Tryd.prog 40 #[.agg #[.int .i64 k, .int .i64 n, .string g, .slice A l c], .agg #[.int .i64 k', .int .i64 n', .string g', .slice A' l' c']] W fun e w' => e = .returned (.bool (sameExpr t u)) ∧ Below W.heap.size W w' := sameV specExprSame_all h h'
theorem implExprV {k n k' n' : Int} {g g' : ByteArray} {A A' : Option Addr} {l c l' c' : Nat} {t u : ExprT} {W : World} (h : IsEV W [.int .i64 k, .int .i64 n, .string g, .slice A l c] t) (h' : IsEV W [.int .i64 k', .int .i64 n', .string g', .slice A' l' c'] u) :
    Calls Tryd.prog 39 #[.agg #[.int .i64 k, .int .i64 n, .string g, .slice A l c], .agg #[.int .i64 k', .int .i64 n', .string g', .slice A' l' c']] W fun e w' => e = .returned (.bool (sameExpr t u)) ∧ Below W.heap.size W w' := sameV (fun d => (implExprSame_all d).1) h h'
theorem eqExprV {k n k' n' : Int} {g g' : ByteArray} {A A' : Option Addr} {l c l' c' : Nat} {t : ExprT} {W : World} (h : IsEV W [.int .i64 k, .int .i64 n, .string g, .slice A l c] t) (h' : IsEV W [.int .i64 k', .int .i64 n', .string g', .slice A' l' c'] t) :
    Calls Tryd.prog 23 #[.agg #[.int .i64 k, .int .i64 n, .string g, .slice A l c], .agg #[.int .i64 k', .int .i64 n', .string g', .slice A' l' c']] W fun e w' => e = .returned (.bool true) ∧ Below W.heap.size W w' := by
  obtain ⟨rfl, rfl, rfl, rfl, h2, h3, h4, d, hk⟩ := h.parts
  obtain ⟨rfl, rfl, rfl, rfl, h2', h3', h4', d', hk'⟩ := h'.parts
  exact (eqExpr_all (max d d')).1 t A A' c c' W (hk.deep (by omega)) (hk'.deep (by omega)) (Nat.le_trans h2 h3)

end Go.Proofs.YtfjmjlpobbjjdaaDoor
