/- TA: the texts TkB TkS Draw Draw2 Own Mn Tx Ty in one. -/
import Derived.Test.YtfjmjlpobbjjdaaDoorGA
import Derived.Deep.Slices
import Derived.Laws.MakeOwn
import Derived.Deep.QuietTactic
import Derived.BigQuiet
import Derived.Outline
import Derived.Handy
import Derived.Lib.QuietBelow
import Derived.Laws.AppendOwn
import Derived.Laws.OwnMore

namespace Go.Proofs.YtfjmjlpobbjjdaaDoor
open Go.RowKit
set_option linter.unusedVariables false

structure Tk where
  kind : Int
  s : ByteArray
  col : Int
  deriving Inhabited
def tkV (t : Tk) : List Value := [.int .i64 t.kind, .string t.s, .int .i64 t.col]
def tksV (ts : List Tk) : List Value := ts.flatMap tkV
theorem tksV_cons (t : Tk) (ts : List Tk) : tksV (t :: ts) = tkV t ++ tksV ts := by simp [tksV]
theorem tksV_app (a b : List Tk) : tksV (a ++ b) = tksV a ++ tksV b := by simp [tksV]
theorem tksV_length : ∀ ts : List Tk, (tksV ts).length = ts.length * 3
  | [] => rfl
  | t :: ts => by rw [tksV_cons, List.length_append, tksV_length ts]; simp [tkV]; omega
theorem tksV_get : ∀ (ts : List Tk) (i j : Nat) (h : i < ts.length) (hj : j < 3), (tksV ts)[i * 3 + j]? = (tkV ts[i])[j]?
  | t :: ts, 0, j, _, hj => by
    rw [tksV_cons, List.getElem?_append_left (by simp [tkV]; omega)]; simp
  | t :: ts, i + 1, j, h, hj => by
    rw [tksV_cons, List.getElem?_append_right (by simp [tkV]; omega), show (i + 1) * 3 + j - (tkV t).length = i * 3 + j by simp [tkV]; omega, tksV_get ts i j (by simpa using h) hj]
    simp
/-- The three cells of a word of a row. -/
theorem Row.tk {w : World} {B : Nat} {A : Option Addr} {ts : List Tk} (h : Row w B A (tksV ts)) {i : Nat} (hi : i < ts.length) : ∃ b o, A = some ⟨b, o, none⟩ ∧ b < B ∧
    w.cell? ⟨b, o + i * 3, none⟩ = some (.int .i64 ts[i].kind) ∧ w.cell? ⟨b, o + i * 3 + 1, none⟩ = some (.string ts[i].s) ∧ w.cell? ⟨b, o + i * 3 + 2, none⟩ = some (.int .i64 ts[i].col) := by
  obtain ⟨b, o, rfl, hb, h0⟩ := h (i * 3 + 0) (.int .i64 ts[i].kind) (by rw [tksV_get ts i 0 hi (by omega)]; rfl)
  obtain ⟨b1, o1, e1, _, h1⟩ := h (i * 3 + 1) (.string ts[i].s) (by rw [tksV_get ts i 1 hi (by omega)]; rfl)
  obtain ⟨b2, o2, e2, _, h2⟩ := h (i * 3 + 2) (.int .i64 ts[i].col) (by rw [tksV_get ts i 2 hi (by omega)]; rfl)
  simp only [Option.some.injEq, Addr.mk.injEq] at e1 e2
  obtain ⟨rfl, rfl, _⟩ := e1
  obtain ⟨rfl, rfl, _⟩ := e2
  exact ⟨b, o, rfl, hb, by simpa using h0, by rw [Nat.add_assoc]; exact h1, by rw [Nat.add_assoc]; exact h2⟩

/-- A slice of words that came in. -/
def IsToks (w : World) (a : Option Addr) (len cap : Nat) (ts : List Tk) : Prop :=
  ts.length = len ∧ len ≤ cap ∧ cap ≤ maxLen ∧ Row w w.heap.size a (tksV ts) ∧ ∀ t ∈ ts, t.s.size ≤ maxLen ∧ (Lit.int .i64 t.kind).wf = true ∧ (Lit.int .i64 t.col).wf = true

theorem addr_add_add (a : Addr) (i j : Nat) : (a.add i).add j = a.add (i + j) := by
  unfold Addr.add
  by_cases hi : i = 0 <;> by_cases hj : j = 0 <;> simp [hi, hj, Nat.add_assoc]

end Go.Proofs.YtfjmjlpobbjjdaaDoor

namespace Go.Proofs.YtfjmjlpobbjjdaaDoor
open Go.RowKit
set_option linter.unusedVariables false

open Classical in
noncomputable def tkSame (ts us : List Tk) : Bool := decide (ts = us)
theorem tkSame_true {ts us : List Tk} (h : ts = us) : tkSame ts us = true := by simp [tkSame, h]
theorem tkSame_false {ts us : List Tk} (h : ts ≠ us) : tkSame ts us = false := by simp [tkSame, h]
theorem tk_ne {x y : Tk} (h : x ≠ y) : x.kind ≠ y.kind ∨ x.kind = y.kind ∧ x.s ≠ y.s ∨ x.kind = y.kind ∧ x.s = y.s ∧ x.col ≠ y.col := by
  obtain ⟨a, b, c⟩ := x
  obtain ⟨d, e, f⟩ := y
  by_cases h1 : a = d
  · by_cases h2 : b = e
    · by_cases h3 : c = f
      · subst h1 h2 h3; exact absurd rfl h
      · exact .inr (.inr ⟨h1, h2, h3⟩)
    · exact .inr (.inl ⟨h1, h2⟩)
  · exact .inl h1
theorem str_ne {a b : ByteArray} (h : a ≠ b) : (a.toList == b.toList) = false := by
  rw [beq_eq_false_iff_ne]; intro e; apply h
  rw [ByteArray.toList_eq, ByteArray.toList_eq] at e
  apply ByteArray.ext; apply Array.ext'; exact e
theorem take_next {ts us : List Tk} {k : Nat} (h : ts.take k = us.take k) (h1 : k < ts.length) (h2 : k < us.length) (e : ts[k] = us[k]) : ts.take (k + 1) = us.take (k + 1) := by
  rw [List.take_succ_eq_append_getElem h1, List.take_succ_eq_append_getElem h2, h, e]







def tkSizes (ts : List Tk) : Nat := (ts.map (·.s.size)).sum
theorem tkSizes_take {xs : List Tk} {k : Nat} (h : k < xs.length) : tkSizes (xs.take (k + 1)) = tkSizes (xs.take k) + xs[k].s.size := by
  unfold tkSizes; rw [List.take_succ_eq_append_getElem h, List.map_append, List.sum_append]; simp only [List.map_cons, List.map_nil, List.sum_cons, List.sum_nil]; omega


end Go.Proofs.YtfjmjlpobbjjdaaDoor

namespace Go.Proofs.YtfjmjlpobbjjdaaDoor
open Go.RowKit
set_option linter.unusedVariables false

/-- A reader in block g, which has read p bytes; the code's bytes lie below it. -/
def Rd (w : World) (g p : Nat) : Prop :=
  ∃ (A : Option Addr) (n c : Nat) (zs : List Int), zs.length = n ∧ (n : Int) ≤ 2000 ∧ Blk w g 90 [.slice A n c, .int .i64 (p : Int)] ∧ Row w g A (zs.map (.int .u8)) ∧ ∀ z ∈ zs, 0 ≤ z ∧ z ≤ 255

theorem Rd.keep {w w' : World} {g p : Nat} (h : Rd w g p) (hb : Below w.heap.size w w') : Rd w' g p := by
  obtain ⟨A, n, c, zs, h1, h2, h3, h4, h5⟩ := h
  have := h3.lt
  exact ⟨A, n, c, zs, h1, h2, h3.below hb this, h4.below (hb.mono (by omega)), h5⟩
theorem Rd.lt {w : World} {g p : Nat} (h : Rd w g p) : g < w.heap.size := by
  obtain ⟨A, n, c, zs, h1, h2, h3, h4, h5⟩ := h
  exact h3.lt

/-- What a draw below m leaves. -/
def Picked (g p : Nat) (m : Int) (w : World) (e : Ending) (w' : World) : Prop :=
  ∃ r : Nat, e = .returned (.int .i64 (r : Int)) ∧ (m < 1 → r = 0) ∧ (1 ≤ m → (r : Int) < m) ∧ Rd w' g (p + 1) ∧ Keep g w w' ∧ w'.heap.size = w.heap.size

theorem rd_put {w : World} {g p : Nat} {A : Option Addr} {n c : Nat} {zs : List Int} (h1 : zs.length = n) (h2 : (n : Int) ≤ 2000) (h3 : Blk w g 90 [.slice A n c, .int .i64 (p : Int)])
    (h4 : Row w g A (zs.map (.int .u8))) (h5 : ∀ z ∈ zs, 0 ≤ z ∧ z ≤ 255) (k : Nat) : Rd ((w.setCell ⟨g, 1, none⟩ (.int .i64 ((p : Int) + 1))).drewN k) g (p + 1) := by
  refine ⟨A, n, c, zs, h1, h2, ?_, ?_, h5⟩
  · have := h3.put 1 (.int .i64 ((p : Int) + 1))
    have e : [Value.slice A n c, Value.int .i64 (p : Int)].set 1 (.int .i64 ((p : Int) + 1)) = [.slice A n c, .int .i64 ((p + 1 : Nat) : Int)] := by simp
    rw [e] at this; exact this
  · exact h4.keep fun q hq => by
      show ((w.setCell ⟨g, 1, none⟩ (.int .i64 ((p : Int) + 1))).drewN k).cell? q = _
      rw [show ((w.setCell ⟨g, 1, none⟩ (.int .i64 ((p : Int) + 1))).drewN k).cell? q = (w.setCell ⟨g, 1, none⟩ (.int .i64 ((p : Int) + 1))).cell? q from rfl]
      exact World.cell?_of_block (Below.heap_setCell _ _ _ _ (by show q.block ≠ g; omega))
theorem keep_put {w : World} {g : Nat} (v : Value) (k : Nat) : Keep g w ((w.setCell ⟨g, 1, none⟩ v).drewN k) ∧ ((w.setCell ⟨g, 1, none⟩ v).drewN k).heap.size = w.heap.size :=
  ⟨((Keep.refl g w).set 1 v).drewN k, by show (w.setCell ⟨g, 1, none⟩ v).heap.size = _; simp [World.setCell]⟩

theorem xor_nonneg (a b : Nat) (ha : a < 4611686018427387904) (hb : b < 4611686018427387904) : 0 ≤ bits .xor .i64 (a : Int) (b : Int) := by
  have hx : a ^^^ b < 2 ^ 62 := Nat.xor_lt_two_pow (by omega) (by omega)
  have h1 : (BitVec.ofInt 64 (a : Int)).toNat = a := by
    rw [BitVec.ofInt_natCast, BitVec.toNat_ofNat]; exact Nat.mod_eq_of_lt (by omega)
  have h2 : (BitVec.ofInt 64 (b : Int)).toNat = b := by
    rw [BitVec.ofInt_natCast, BitVec.toNat_ofNat]; exact Nat.mod_eq_of_lt (by omega)
  show 0 ≤ IntKind.i64.wrap ((BitVec.ofInt 64 (a : Int) ^^^ BitVec.ofInt 64 (b : Int)).toNat : Int)
  rw [BitVec.toNat_xor, h1, h2, IntKind.wrap_i64]
  omega

set_option maxHeartbeats 1000000 in
theorem pick (g p : Nat) (m : Int) (w : World) (h : Rd w g p) (hp : (p : Int) ≤ 1000000000) (hm0 : -1000000000 ≤ m) (hm1 : m ≤ 1000000000) :
    Calls Tryd.prog 46 #[.pointer (some ⟨g, 0, none⟩), .int .i64 m] w (Picked g p m w) := by
  obtain ⟨A, n, c, zs, h1, h2, h3, h4, h5⟩ := h
  have c0 : w.cell? ⟨g, 0, none⟩ = some (.slice A n c) := by rw [h3.cell]; rfl
  have c1 : w.cell? ⟨g, 1, none⟩ = some (.int .i64 (p : Int)) := by rw [h3.cell]; rfl
  have f1 := h3.frozen 1
  have P := Lib.hid (rd_put h1 h2 h3 h4 h5)
  by_cases hm : m < 1
  · have R : Picked g p m w (.returned (.int .i64 0)) (w.setCell ⟨g, 1, none⟩ (.int .i64 ((p : Int) + 1))) :=
      ⟨0, rfl, fun _ => rfl, fun h => by omega, P.out 0, (keep_put _ 0).1, (keep_put _ 0).2⟩
    have HR := Lib.hid R; clear R
    go_enter Tryd.func46, Tryd.ntmps46
    go_wp2
    go_ret
    exact HR.out
  · have hm' : 1 ≤ m := by omega
    by_cases hn : n = 0
    · have R : Picked g p m w (.returned (.int .i64 0)) (w.setCell ⟨g, 1, none⟩ (.int .i64 ((p : Int) + 1))) :=
        ⟨0, rfl, fun _ => rfl, fun h => by omega, P.out 0, (keep_put _ 0).1, (keep_put _ 0).2⟩
      have HR := Lib.hid R; clear R
      subst hn
      go_enter Tryd.func46, Tryd.ntmps46
      go_wp2
      go_ret
      exact HR.out
    · have hn' : ((n : Int) == 0) = false := by simp; omega
      by_cases hk : p < n
      · obtain ⟨b, o, rfl, hb, hc⟩ := h4.at_ (i := p) (by simp; omega)
        have hz : p < zs.length := by omega
        have hc2 : ∀ v, (w.setCell ⟨g, 1, none⟩ v).cell? ⟨b, o + p, none⟩ = some (.int .u8 zs[p]) := fun v => by
          rw [World.cell?_of_block (w := w) (Below.heap_setCell _ _ _ _ (by show b ≠ g; omega)), hc]; simp
        have hzz := h5 zs[p] (List.getElem_mem hz)
        obtain ⟨z, ez⟩ : ∃ z : Nat, zs[p] = (z : Int) := ⟨zs[p].toNat, by omega⟩
        rw [ez] at hzz
        have hc3 := hc2 (.int .i64 ((p : Int) + 1))
        rw [ez] at hc3
        have R : Picked g p m w (.returned (.int .i64 ((z : Int) % m))) (w.setCell ⟨g, 1, none⟩ (.int .i64 ((p : Int) + 1))) :=
          ⟨((z : Int) % m).toNat, by rw [Int.toNat_of_nonneg (Int.emod_nonneg _ (by omega))], fun h => by omega, fun _ => by
            rw [Int.toNat_of_nonneg (Int.emod_nonneg _ (by omega))]; exact Int.emod_lt_of_pos _ (by omega), P.out 0, (keep_put _ 0).1, (keep_put _ 0).2⟩
        have HR := Lib.hid R; clear R
        have hk' : (p : Int) < (n : Int) := by omega
        clear hc hc2 ez h4 h5 h3 h1
        go_enter Tryd.func46, Tryd.ntmps46
        go_wp2
        go_ret
        exact HR.out
      · have hn0 : 0 < n := by omega
        have hi1 : p % n < n := Nat.mod_lt _ hn0
        have hi2 : (p * 7 + 3) % n < n := Nat.mod_lt _ hn0
        have hq : p / n ≤ p := Nat.div_le_self _ _
        obtain ⟨b, o, rfl, hb, hc⟩ := h4.at_ (i := p % n) (by simp; omega)
        obtain ⟨b', o', eA, hb', hc'⟩ := h4.at_ (i := (p * 7 + 3) % n) (by simp; omega)
        simp only [Option.some.injEq, Addr.mk.injEq] at eA
        obtain ⟨rfl, rfl, _⟩ := eA
        have hz1 : p % n < zs.length := by omega
        have hz2 : (p * 7 + 3) % n < zs.length := by omega
        have hcell : ∀ v q, (w.setCell ⟨g, 1, none⟩ v).cell? ⟨b, q, none⟩ = w.cell? ⟨b, q, none⟩ := fun v q =>
          World.cell?_of_block (w := w) (Below.heap_setCell _ _ _ _ (by show b ≠ g; omega))
        have ha1 := h5 zs[p % n] (List.getElem_mem hz1)
        have ha2 := h5 zs[(p * 7 + 3) % n] (List.getElem_mem hz2)
        obtain ⟨a1, e1⟩ : ∃ z : Nat, zs[p % n] = (z : Int) := ⟨zs[p % n].toNat, by omega⟩
        obtain ⟨a2, e2⟩ : ∃ z : Nat, zs[(p * 7 + 3) % n] = (z : Int) := ⟨zs[(p * 7 + 3) % n].toNat, by omega⟩
        rw [e1] at ha1
        rw [e2] at ha2
        have d1 : (w.setCell ⟨g, 1, none⟩ (.int .i64 ((p : Int) + 1))).cell? ⟨b, o + p % n, none⟩ = some (.int .u8 (a1 : Int)) := by rw [hcell, hc]; simp [e1]
        have d2 : (w.setCell ⟨g, 1, none⟩ (.int .i64 ((p : Int) + 1))).cell? ⟨b, o + (p * 7 + 3) % n, none⟩ = some (.int .u8 (a2 : Int)) := by rw [hcell, hc']; simp [e2]
        have t1 : (p : Int).tmod n = ((p % n : Nat) : Int) := by rw [Int.tmod_eq_emod_of_nonneg (by omega)]; rfl
        have t2 : ((p : Int) * 7 + 3).tmod n = (((p * 7 + 3) % n : Nat) : Int) := by rw [Int.tmod_eq_emod_of_nonneg (by omega)]; rfl
        have t3 : (p : Int).tdiv n = ((p / n : Nat) : Int) := by rw [Int.tdiv_eq_ediv_of_nonneg (by omega)]; rfl
        clear hc hc' hcell e1 e2 h4 h5 h3 h1 hz1 hz2
        generalize p % n = i1 at *
        generalize (p * 7 + 3) % n = i2 at *
        generalize p / n = q at *
        have w1 : IntKind.i64.wrap ((p : Int) * 7) = (p : Int) * 7 := by rw [IntKind.wrap_i64]; omega
        have w2 : IntKind.i64.wrap ((p : Int) * 7 + 3) = (p : Int) * 7 + 3 := by rw [IntKind.wrap_i64]; omega
        have w3 : IntKind.i64.wrap ((a1 : Int) * 131) = (a1 : Int) * 131 := by rw [IntKind.wrap_i64]; omega
        have w4 : IntKind.i64.wrap ((a2 : Int) * 1117) = (a2 : Int) * 1117 := by rw [IntKind.wrap_i64]; omega
        have w5 : IntKind.i64.wrap ((a1 : Int) * 131 + (a2 : Int) * 1117) = (a1 : Int) * 131 + (a2 : Int) * 1117 := by rw [IntKind.wrap_i64]; omega
        have w6 : IntKind.i64.wrap ((p : Int) * 29) = (p : Int) * 29 := by rw [IntKind.wrap_i64]; omega
        have w7 : IntKind.i64.wrap ((a1 : Int) * 131 + (a2 : Int) * 1117 + (p : Int) * 29) = (a1 : Int) * 131 + (a2 : Int) * 1117 + (p : Int) * 29 := by rw [IntKind.wrap_i64]; omega
        have w8 : IntKind.i64.wrap ((q : Int) * 53) = (q : Int) * 53 := by rw [IntKind.wrap_i64]; omega
        have w9 : IntKind.i64.wrap ((a1 : Int) * 131 + (a2 : Int) * 1117 + (p : Int) * 29 + (q : Int) * 53) = (a1 : Int) * 131 + (a2 : Int) * 1117 + (p : Int) * 29 + (q : Int) * 53 := by rw [IntKind.wrap_i64]; omega
        have hx : 0 ≤ bits .xor .i64 ((a1 : Int) * 131 + (a2 : Int) * 1117 + (p : Int) * 29 + (q : Int) * 53) (((a1 : Int) * 131 + (a2 : Int) * 1117 + (p : Int) * 29 + (q : Int) * 53) / 64) := by
          have := xor_nonneg (a1 * 131 + a2 * 1117 + p * 29 + q * 53) ((a1 * 131 + a2 * 1117 + p * 29 + q * 53) / 64) (by omega) (by omega)
          simpa using this
        have HX := Lib.hid hx; clear hx
        have R : ∀ (x : Int) (k : Nat), 0 ≤ x → Picked g p m w (.returned (.int .i64 (x.tmod m))) ((w.setCell ⟨g, 1, none⟩ (.int .i64 ((p : Int) + 1))).drewN k) := fun x k h0 => by
          have e : x.tmod m = x % m := Int.tmod_eq_emod_of_nonneg h0
          have h3 := Int.emod_nonneg x (by omega : m ≠ 0)
          have h4 := Int.emod_lt_of_pos x (by omega : 0 < m)
          exact ⟨(x % m).toNat, by rw [e, Int.toNat_of_nonneg h3], fun h => by omega, fun _ => by rw [Int.toNat_of_nonneg h3]; exact h4, P.out k, (keep_put _ k).1, (keep_put _ k).2⟩
        have HR := Lib.hid R; clear R
        have hn1 : ((n : Int) == 0) = false := hn'
        have hi1' : (i1 : Int) < (n : Int) := by omega
        have hi2' : (i2 : Int) < (n : Int) := by omega
        go_enter Tryd.func46, Tryd.ntmps46
        go_wp2_with fail
        go_quiet (fail)
        go_wp2_with fail
        go_ret
        exact HR.out _ _ HX.out
end Go.Proofs.YtfjmjlpobbjjdaaDoor

namespace Go.Proofs.YtfjmjlpobbjjdaaDoor
open Go.RowKit
set_option linter.unusedVariables false

/-- A draw: the reader in block g has gone on by at most k bytes; nothing else that was there has turned. -/
def Drawn (g p k : Nat) (P : Value → Prop) (w : World) (e : Ending) (w' : World) : Prop :=
  ∃ v p', e = .returned v ∧ P v ∧ p ≤ p' ∧ p' ≤ p + k ∧ Rd w' g p' ∧ Keep g w w'

theorem Row.bytes_of {w : World} {B : Nat} {A : Option Addr} {zs : List Int} (h : Row w B A (zs.map (.int .u8))) (k : Nat) : Row w B A ((zs.take k).map (.int .u8)) := by
  have := h.take k; rw [← List.map_take] at this; exact this

set_option maxHeartbeats 1000000 in
theorem openIt (A : Option Addr) (n c : Nat) (z : List Int) (w : World) (hz : IsRow .u8 w A n c z) :
    Calls Tryd.prog 44 #[.slice A n c] w fun e w' => e = .returned (.pointer (some ⟨w.heap.size, 0, none⟩)) ∧ Rd w' w.heap.size 0 ∧ Below w.heap.size w w' := by
  obtain ⟨hr, hl, hnc, hn, hc, hw⟩ := hz.row
  generalize z.take n = zs at hr hl hw
  have hw' : ∀ x ∈ zs, 0 ≤ x ∧ x ≤ 255 := fun x hx => wf_u8 (hw x hx)
  clear hz hw
  by_cases hbig : (2000 : Int) < (n : Int)
  · have R : Rd (w.alloc (.cells #[.slice A 2000 c, .int .i64 0] 90)) w.heap.size 0 :=
      ⟨A, 2000, c, zs.take 2000, by simp; omega, by omega, Blk.alloc_ w _ [.slice A 2000 c, .int .i64 0], (hr.bytes_of 2000).below ((Below.refl _ _).alloc (Nat.le_refl _) _), fun x hx => hw' x (List.mem_of_mem_take hx)⟩
    have HR := Lib.hid R; clear R
    have h1 : 2000 ≤ c := by omega
    clear hl
    go_enter Tryd.func44, Tryd.ntmps44
    go_wp2
    go_ret
    exact ⟨rfl, HR.out, (Below.refl _ _).alloc (Nat.le_refl _) _⟩
  · have R : Rd (w.alloc (.cells #[.slice A n c, .int .i64 0] 90)) w.heap.size 0 :=
      ⟨A, n, c, zs, hl, by omega, Blk.alloc_ w _ [.slice A n c, .int .i64 0], hr.below ((Below.refl _ _).alloc (Nat.le_refl _) _), hw'⟩
    have HR := Lib.hid R; clear R
    clear hl
    go_enter Tryd.func44, Tryd.ntmps44
    go_wp2
    go_ret
    exact ⟨rfl, HR.out, (Below.refl _ _).alloc (Nat.le_refl _) _⟩

set_option maxHeartbeats 1000000 in
theorem numOf (g p g' n c : Nat) (xs : List Int) (w : World) (h : Rd w g p) (hp : (p : Int) ≤ 1000000000) (hb : Blk w g' 3 (ints xs)) (hg : Hid (g' ≠ g)) (hl : Hid (xs.length = n)) (h0 : 0 < n) (hn : (n : Int) ≤ 1000000) :
    Calls Tryd.prog 47 #[.pointer (some ⟨g, 0, none⟩), .slice (some ⟨g', 0, none⟩) n c] w (Drawn g p 1 (fun v => ∃ x ∈ xs, v = .int .i64 x) w) := by
  go_enter Tryd.func47, Tryd.ntmps47
  go_wp2_with fail
  refine (pick g p n w h hp (by omega) (by omega)).mono ?_
  rintro e w' ⟨r, rfl, hr0, hr1, hR, hK, hs⟩
  have hr2 := hr1 (by omega)
  have hx : r < xs.length := by rw [hl.out]; omega
  have hc : w'.cell? ⟨g', r, none⟩ = some (.int .i64 xs[r]) := by rw [(hK.blk hb hg.out).cell, ints_get hx]
  have R : Drawn g p 1 (fun v => ∃ x ∈ xs, v = .int .i64 x) w (.returned (.int .i64 xs[r])) w' :=
    ⟨_, p + 1, rfl, ⟨xs[r], List.getElem_mem hx, rfl⟩, by omega, by omega, hR, hK⟩
  have HR := Lib.hid R; clear R hr0 hr1 hs
  have HX := Lib.hid hx
  go_wp2_with fail
  go_ret
  exact HR.out
end Go.Proofs.YtfjmjlpobbjjdaaDoor

namespace Go.Proofs.YtfjmjlpobbjjdaaDoor
open Go.RowKit
set_option linter.unusedVariables false

/-- A reader and its code lie in the blocks up to g. -/
theorem rd_low {w w' : World} {g p : Nat} (h : Rd w g p) (hk : ∀ k, k ≤ g → w'.heap[k]? = w.heap[k]?) : Rd w' g p := by
  obtain ⟨A, n, c, zs, h1, h2, h3, h4, h5⟩ := h
  exact ⟨A, n, c, zs, h1, h2, (hk g (Nat.le_refl _)).trans h3, h4.keep fun q hq => World.cell?_of_block (hk _ (by omega)), h5⟩
theorem rd_alloc {w : World} {g p : Nat} (h : Rd w g p) (o : Obj) : Rd (w.alloc o) g p := h.keep ((Below.refl _ _).alloc (Nat.le_refl _) o)
theorem rd_grown {w w' : World} {g p : Nat} {row : Option Nat} (h : Rd w g p) (hg : w.grownBy w' row) (hr : ∀ k, row = some k → g < k) : Rd w' g p :=
  rd_low h fun k hk => hg.block k (by have := h.lt; omega) (fun e => by have := hr k e.symm; omega)
theorem own_keep {w w' : World} {g base size n : Nat} {e : TypeId} {v : Value} {xs : List Value} (h : w.ownsRow base e size v n xs) (hk : Keep g w w') (hb : g < base) : w'.ownsRow base e size v n xs := by
  refine ⟨h.1, ?_⟩
  rcases h.2 with hn | ⟨g', cap, cur, rfl, hb', hgg, rest⟩
  · exact .inl hn
  · exact .inr ⟨g', cap, cur, rfl, hb', (hk.block g' (Array.getElem?_eq_some_iff.1 hgg).1 (by omega)).trans hgg, rest⟩
theorem own_below {w w' : World} {base size n : Nat} {e : TypeId} {v : Value} {xs : List Value} (h : w.ownsRow base e size v n xs) (hk : Below w.heap.size w w') : w'.ownsRow base e size v n xs := by
  refine ⟨h.1, ?_⟩
  rcases h.2 with hn | ⟨g', cap, cur, rfl, hb', hgg, rest⟩
  · exact .inl hn
  · exact .inr ⟨g', cap, cur, rfl, hb', (hk.block g' (Array.getElem?_eq_some_iff.1 hgg).1).trans hgg, rest⟩
/-- What is owned can be read. -/
theorem own_row {w : World} {base size n : Nat} {e : TypeId} {v : Value} {xs : List Value} (h : w.ownsRow base e size v n xs) : ∃ A c, v = .slice A n c ∧ n ≤ c ∧ Row w w.heap.size A xs := by
  rcases h.2 with ⟨rfl, rfl⟩ | ⟨g, cap, cur, rfl, hb, hgg, h1, h2, h3, h4⟩
  · have hx : xs = [] := by have := h.1; simp at this; exact this
    subst hx
    exact ⟨none, 0, rfl, Nat.le_refl _, Row.nil _ _ _⟩
  · refine ⟨_, cap, rfl, h1, fun i v hv => ⟨g, 0, rfl, (Array.getElem?_eq_some_iff.1 hgg).1, ?_⟩⟩
    have : cur[i]? = some v := by
      rw [← h4, List.getElem?_take] at hv
      split at hv
      · simpa using hv
      · cases hv
    simp [World.cell?, hgg, this]
end Go.Proofs.YtfjmjlpobbjjdaaDoor

namespace Go.Proofs.YtfjmjlpobbjjdaaDoor
open Go.RowKit
set_option linter.unusedVariables false

/-- The cells vs, at the head of a row of a block from B on, which may be written. -/
def Mine (w : World) (B : Nat) (T : TypeId) (A : Option Addr) (vs : List Value) : Prop :=
  vs = [] ∨ ∃ g cur, A = some ⟨g, 0, none⟩ ∧ B ≤ g ∧ w.heap[g]? = some (.cells cur T (0, 0)) ∧ cur.toList.take vs.length = vs

section
variable {w w' : World} {B : Nat} {T : TypeId} {A : Option Addr} {vs : List Value}
theorem heap_lt {w : World} {g : Nat} {o : Obj} (h : w.heap[g]? = some o) : g < w.heap.size := (Array.getElem?_eq_some_iff.1 h).1
theorem Mine.row (h : Mine w B T A vs) : Row w w.heap.size A vs := by
  rcases h with rfl | ⟨g, cur, rfl, hB, hg, ht⟩
  · exact Row.nil _ _ _
  · intro i v hv
    refine ⟨g, 0, rfl, heap_lt hg, ?_⟩
    have : cur[i]? = some v := by
      rw [← ht, List.getElem?_take] at hv
      split at hv
      · simpa using hv
      · cases hv
    simp [World.cell?, hg, this]
theorem Mine.below (h : Mine w B T A vs) (hb : Below w.heap.size w w') : Mine w' B T A vs := by
  rcases h with rfl | ⟨g, cur, rfl, hB, hg, ht⟩
  · exact .inl rfl
  · exact .inr ⟨g, cur, rfl, hB, (hb.block g (heap_lt hg)).trans hg, ht⟩
theorem Mine.drewN (h : Mine w B T A vs) (k : Nat) : Mine (w.drewN k) B T A vs := h
theorem Mine.of_own {size n : Nat} {v : Value} {xs : List Value} (h : w.ownsRow B T size v n xs) : ∃ A c, v = .slice A n c ∧ n ≤ c ∧ Mine w B T A xs := by
  rcases h.2 with ⟨rfl, rfl⟩ | ⟨g, cap, cur, rfl, hb, hgg, h1, h2, h3, h4⟩
  · have hx : xs = [] := by have := h.1; simp at this; exact this
    exact ⟨none, 0, rfl, Nat.le_refl _, .inl hx⟩
  · exact ⟨_, cap, rfl, h1, .inr ⟨g, cur, rfl, hb, hgg, by rw [h.1]; exact h4⟩⟩
/-- A store at i: what is needed for it, and what it leaves. -/
theorem Mine.at_ (h : Mine w B T A vs) {i : Nat} (hi : i < vs.length) : ∃ g, A = some ⟨g, 0, none⟩ ∧ B ≤ g ∧ w.cell? ⟨g, i, none⟩ = some vs[i] ∧ w.frozen? ⟨g, i, none⟩ = false ∧
    ∀ u, Mine (w.setCell ⟨g, i, none⟩ u) B T (some ⟨g, 0, none⟩) (vs.set i u) := by
  rcases h with rfl | ⟨g, cur, rfl, hB, hg, ht⟩
  · simp at hi
  · have hc : cur[i]? = some vs[i] := by
      have hv := List.getElem?_eq_getElem hi
      have h2 : (cur.toList.take vs.length)[i]? = some vs[i] := by rw [ht]; exact hv
      rw [List.getElem?_take, if_pos hi] at h2
      simpa using h2
    refine ⟨g, rfl, hB, by simp [World.cell?, hg, hc], by simp [World.frozen?, hg], fun u => .inr ⟨g, cur.setIfInBounds i u, rfl, hB, by simp [World.setCell, Array.getElem?_modify, hg], ?_⟩⟩
    rw [List.length_set, Array.toList_setIfInBounds, List.take_set, ht]
end

/-- k, k+1, .. -/
def seqFrom (k : Int) : Nat → List Int
  | 0 => []
  | n + 1 => k :: seqFrom (k + 1) n
theorem seqFrom_length (k : Int) (n : Nat) : (seqFrom k n).length = n := by
  induction n generalizing k with
  | zero => rfl
  | succ n ih => simp [seqFrom, ih]
theorem seqFrom_get (k : Int) (n i : Nat) (h : i < n) : (seqFrom k n)[i]'(by rw [seqFrom_length]; exact h) = k + i := by
  induction n generalizing k i with
  | zero => omega
  | succ n ih =>
    cases i with
    | zero => simp [seqFrom]
    | succ i => simp only [seqFrom, List.getElem_cons_succ]; rw [ih (k + 1) i (by omega)]; omega

theorem seqFrom_snoc (k : Int) (n : Nat) : seqFrom k (n + 1) = seqFrom k n ++ [k + n] := by
  induction n generalizing k with
  | zero => simp [seqFrom]
  | succ n ih => rw [seqFrom, ih, seqFrom]; simp; omega
end Go.Proofs.YtfjmjlpobbjjdaaDoor

namespace Ilp
/-- The words so far, up to byte k. -/
def LineInv (L : List UInt8) (k : Nat) (ts : List T) : Prop := words L = (toks (L.length + 1 - k) k (L.drop k)).map (ts ++ ·)
theorem lineInv_start (L : List UInt8) : LineInv L 0 [] := by
  unfold LineInv words; simp
theorem lineInv_space {L : List UInt8} {k : Nat} {ts : List T} (h : LineInv L k ts) (hk : k < L.length) (hc : L[k] = 32) : LineInv L (k + 1) ts := by
  unfold LineInv at h ⊢
  rw [h, List.drop_eq_getElem_cons hk, hc, show L.length + 1 - k = (L.length + 1 - (k + 1)) + 1 by omega, toks_space]
theorem drop_ne {L : List UInt8} {k : Nat} (hk : k < L.length) : L.drop k ≠ [] := by
  intro e; have := List.drop_eq_nil_iff.1 e; omega
theorem head_drop {L : List UInt8} {k : Nat} (hk : k < L.length) (hc : L[k] ≠ 32) : (L.drop k).head? ≠ some 32 := by
  rw [List.drop_eq_getElem_cons hk, List.head?_cons]; intro e; injection e with e; exact hc e
theorem lineInv_bad {L : List UInt8} {k : Nat} {ts : List T} (h : LineInv L k ts) (hk : k < L.length) (hc : L[k] ≠ 32) (hw : tokKind ((L.drop k).take (wlen (L.drop k))) = 0) : words L = none := by
  unfold LineInv at h
  rw [h, show L.length + 1 - k = (L.length - k) + 1 by omega, toks_bad (drop_ne hk) (head_drop hk hc) hw]; rfl
theorem lineInv_word {L : List UInt8} {k : Nat} {ts : List T} (h : LineInv L k ts) (hk : k < L.length) (hc : L[k] ≠ 32) (hw : tokKind ((L.drop k).take (wlen (L.drop k))) ≠ 0) :
    LineInv L (k + wlen (L.drop k)) (ts ++ [⟨tokKind ((L.drop k).take (wlen (L.drop k))), (L.drop k).take (wlen (L.drop k)), k⟩]) := by
  have hp := wlen_pos (drop_ne hk)
  rw [List.length_drop] at hp
  unfold LineInv at h ⊢
  rw [h, show L.length + 1 - k = (L.length - k) + 1 by omega, toks_word (drop_ne hk) (head_drop hk hc) hw, List.drop_drop,
    toks_fuel (L.length - k) (L.length + 1 - (k + wlen (L.drop k))) _ _ (by rw [List.length_drop]; omega) (by rw [List.length_drop]; omega)]
  cases toks (L.length + 1 - (k + wlen (L.drop k))) (k + wlen (L.drop k)) (L.drop (k + wlen (L.drop k))) with
  | none => rfl
  | some r => simp
theorem lineInv_end {L : List UInt8} {k : Nat} {ts : List T} (h : LineInv L k ts) (hk : L.length ≤ k) (hk2 : k ≤ L.length) : words L = some ts := by
  unfold LineInv at h
  rw [h, List.drop_eq_nil_of_le hk, show L.length + 1 - k = 0 + 1 by omega, toks_nil]; simp
def cls (c : UInt8) : Nat := if isLet c = true then 1 else if isDig c = true then 2 else if isMark c = true then 3 else if c = 32 then 4 else 0
theorem runOf_at {p : UInt8 → Bool} {L : List UInt8} {k : Nat} (h : k < L.length) : runOf p (L.drop k) = if p L[k] = true then 1 + runOf p (L.drop (k + 1)) else 0 := by
  unfold runOf
  rw [List.drop_eq_getElem_cons h, List.takeWhile_cons]
  cases p L[k] <;> simp <;> omega
theorem wlen_at {L : List UInt8} {k : Nat} (h : k < L.length) : wlen (L.drop k) = if isLet L[k] = true then 1 + runOf isLet (L.drop (k + 1)) else if isDig L[k] = true then 1 + runOf isDig (L.drop (k + 1)) else 1 := by
  rw [List.drop_eq_getElem_cons h]; rfl
theorem runOf_nil (p : UInt8 → Bool) {L : List UInt8} {k : Nat} (h : L.length ≤ k) : runOf p (L.drop k) = 0 := by rw [List.drop_eq_nil_of_le h]; rfl
end Ilp
namespace Go.Proofs.YtfjmjlpobbjjdaaDoor
open Go.RowKit Ilp
set_option linter.unusedVariables false

theorem flip_same {P : Program} {f : FuncId} {args : Array Value} {w : World} {v : Value} (h : Calls P f args w fun e w' => e = .returned v ∧ w = w') : Calls P f args w fun e w' => e = .returned v ∧ w' = w := h.mono fun _ _ ⟨a, b⟩ => ⟨a, b.symm⟩
def marksB : ByteArray := ⟨#[43, 45, 42, 60, 40, 41, 58, 61]⟩
theorem index_mark : ∀ (l : List UInt8) (c : UInt8), (0 ≤ Lib.indexByte l c ↔ l.contains c = true) ∧ -1 ≤ Lib.indexByte l c
  | [], c => by simp [Lib.indexByte]
  | b :: l, c => by
    have ih := index_mark l c
    unfold Lib.indexByte
    by_cases h : b = c
    · subst h; simp
    · have hb : (b == c) = false := by simpa using h
      have hb' : (c == b) = false := by simpa using fun e => h e.symm
      simp only [hb, Bool.false_eq_true, if_false]
      rw [List.contains_cons, hb']
      by_cases h2 : Lib.indexByte l c = -1
      · rw [if_pos (by rw [h2]; rfl)]
        have : ¬ (l.contains c = true) := fun e => by have := ih.1.2 e; omega
        simp; simpa using this
      · rw [if_neg (by rw [beq_iff_eq]; exact h2)]
        have : 0 ≤ Lib.indexByte l c := by omega
        have h3 := ih.1.1 this
        simp only [Bool.false_or, h3, iff_true]; omega
theorem marks_index (c : UInt8) : isMark c = true ↔ 0 ≤ Lib.indexByte marksB.data.toList c := by
  rw [(index_mark _ c).1]; rfl


def Drew (w w' : World) : Prop := ∃ n, w' = w.drewN n
theorem Drew.below {w w' : World} (h : Drew w w') : Below w.heap.size w w' := by obtain ⟨n, rfl⟩ := h; exact drewN_below (Below.refl _ _) n

end Go.Proofs.YtfjmjlpobbjjdaaDoor

namespace Go.Proofs.YtfjmjlpobbjjdaaDoor
open Go.RowKit Ilp
set_option linter.unusedVariables false

theorem kind_is {s : List UInt8} {k : Nat} (h : ∀ j : Nat, 1 ≤ j → j < k → tokOk j s = false) (hk : k ≤ 3) (h1 : 1 ≤ k) (hb : tokOk k s = true) : tokKind s = k := by
  have := (tokOk_kind (k : Int) s).1 hb
  omega
theorem kind_none {s : List UInt8} (h : ∀ j : Nat, 1 ≤ j → j < 4 → tokOk j s = false) : tokKind s = 0 := by
  have h3 := tokKind_le s
  by_cases h0 : tokKind s = 0
  · exact h0
  · have := h (tokKind s) (by omega) (by omega)
    rw [(tokOk_kind (tokKind s : Int) s).2 ⟨rfl, h0⟩] at this
    cases this

theorem cls_let {c : UInt8} (h : isLet c = true) : cls c = 1 := by unfold cls; rw [if_pos h]
theorem cls_dig {c : UInt8} (h : isDig c = true) : cls c = 2 := by unfold cls; rw [if_neg (by rw [dig_not_let h]; simp), if_pos h]
theorem cls_rest {c : UInt8} (h : isLet c = false) (h2 : isDig c = false) : 3 ≤ cls c ∨ cls c = 0 := by
  unfold cls; rw [if_neg (by simp [h]), if_neg (by simp [h2])]
  split
  · exact .inl (by omega)
  · split
    · exact .inl (by omega)
    · exact .inr rfl

end Go.Proofs.YtfjmjlpobbjjdaaDoor
