/- Words on memory that all walks of this seat share. -/
import Derived.Test.YtfjmjlpobbjjdaaDoorProg
import Derived.WalkKit
import Derived.ProofKit
import Derived.Below
import Derived.Lib.Hide
import Derived.Deep.Draws
namespace Go.Proofs.YtfjmjlpobbjjdaaDoor
open Go.RowKit
set_option linter.unusedVariables false

/-- A slice of integers that came in: nil, or a row of 'cap' cells, the first 'len' of which are its elements. -/
def IsRow (k : IntKind) (w : World) (a : Option Addr) (len cap : Nat) (zs : List Int) : Prop :=
  (a = none ∧ len = 0 ∧ cap = 0 ∧ zs = []) ∨
  ∃ x, a = some x ∧ len ≤ cap ∧ cap ≤ maxLen ∧ zs.length = cap ∧ (∀ i, i < zs.length → w.cell? (x.add i) = some (.int k (zs.getD i 0))) ∧ ∀ n ∈ zs, (Lit.int k n).wf = true

theorem wf_i64 {a : Int} (h : (Lit.int .i64 a).wf = true) : -9223372036854775808 ≤ a ∧ a ≤ 9223372036854775807 := by
  simpa [Lit.wf, IntKind.min, IntKind.max, IntKind.signed, IntKind.bits] using h
theorem wf_u8 {a : Int} (h : (Lit.int .u8 a).wf = true) : 0 ≤ a ∧ a ≤ 255 := by
  simpa [Lit.wf, IntKind.min, IntKind.max, IntKind.signed, IntKind.bits] using h

theorem cell_lt {w : World} {p : Addr} {v : Value} (h : w.cell? p = some v) : p.block < w.heap.size := by
  rcases Nat.lt_or_ge p.block w.heap.size with h' | h'
  · exact h'
  · simp [World.cell?, Array.getElem?_eq_none h'] at h

/-- From an address on, below block B, the cells vs lie. -/
def Row (w : World) (B : Nat) (A : Option Addr) (vs : List Value) : Prop :=
  ∀ i v, vs[i]? = some v → ∃ b o, A = some ⟨b, o, none⟩ ∧ b < B ∧ w.cell? ⟨b, o + i, none⟩ = some v

section
variable {w w' : World} {B B' : Nat} {A : Option Addr} {vs : List Value}
theorem Row.nil (w : World) (B : Nat) (A : Option Addr) : Row w B A [] := fun i v h => by simp at h
theorem Row.keep (h : Row w B A vs) (hk : ∀ p : Addr, p.block < B → w'.cell? p = w.cell? p) : Row w' B A vs := fun i v hv => by
  obtain ⟨b, o, e, hb, hc⟩ := h i v hv
  exact ⟨b, o, e, hb, (hk _ hb).trans hc⟩
theorem Row.more (h : Row w B A vs) (hB : B ≤ B') : Row w B' A vs := fun i v hv => by
  obtain ⟨b, o, e, hb, hc⟩ := h i v hv
  exact ⟨b, o, e, by omega, hc⟩
theorem Row.below (h : Row w B A vs) (hb : Below B w w') : Row w' B A vs := h.keep fun _ hp => hb.cell hp
theorem Row.at_ {i : Nat} (h : Row w B A vs) (hi : i < vs.length) : ∃ b o, A = some ⟨b, o, none⟩ ∧ b < B ∧ w.cell? ⟨b, o + i, none⟩ = some vs[i] := h i _ (List.getElem?_eq_getElem hi)
theorem Row.drop (h : Row w B A vs) (k : Nat) (hk : k < vs.length) : ∃ b o, A = some ⟨b, o, none⟩ ∧ Row w B (some ⟨b, o + k, none⟩) (vs.drop k) := by
  obtain ⟨b, o, rfl, hb, hc⟩ := h.at_ hk
  refine ⟨b, o, rfl, fun i v hv => ?_⟩
  rw [List.getElem?_drop] at hv
  obtain ⟨b', o', e, hb', hc'⟩ := h _ v hv
  simp only [Option.some.injEq, Addr.mk.injEq] at e
  obtain ⟨rfl, rfl, _⟩ := e
  exact ⟨b, o + k, rfl, hb, by rw [Nat.add_assoc]; exact hc'⟩
theorem Row.take (h : Row w B A vs) (k : Nat) : Row w B A (vs.take k) := fun i v hv => h i v (by
  rw [List.getElem?_take] at hv; split at hv
  · exact hv
  · cases hv)
end

def ints (xs : List Int) : List Value := xs.map (.int .i64)
theorem ints_length (xs : List Int) : (ints xs).length = xs.length := by simp [ints]
theorem ints_get {xs : List Int} {i : Nat} (h : i < xs.length) : (ints xs)[i]? = some (.int .i64 xs[i]) := by simp [ints, h]

/-- A slice of integers that came in, as a row. -/
theorem IsRow.row {k : IntKind} {w : World} {a : Option Addr} {len cap : Nat} {zs : List Int} (h : IsRow k w a len cap zs) :
    Row w w.heap.size a ((zs.take len).map (.int k)) ∧ (zs.take len).length = len ∧ len ≤ cap ∧ (len : Int) ≤ 9223372036854775807 ∧ (cap : Int) ≤ 9223372036854775807 ∧ (∀ n ∈ zs.take len, (Lit.int k n).wf = true) := by
  rcases h with ⟨rfl, rfl, rfl, rfl⟩ | ⟨x, rfl, hl, hm, hz, hc, hw⟩
  · refine ⟨by simpa using Row.nil w w.heap.size none, by simp, by omega, by omega, by omega, by simp⟩
  · unfold maxLen at hm
    refine ⟨fun i v hv => ?_, by simp; omega, hl, by omega, by omega, fun n hn => hw n (List.mem_of_mem_take hn)⟩
    have hi : i < len ∧ i < zs.length := by
      have := (List.getElem?_eq_some_iff.1 hv).1
      simp at this; omega
    have h1 := hc i hi.2
    obtain ⟨b, o, s⟩ := x
    have hs : s = none := by
      simpa [Addr.add] using World.cell?_spot (hc 0 (by omega))
    subst hs
    have e : (Addr.mk b o none).add i = ⟨b, o + i, none⟩ := by unfold Addr.add; split <;> simp_all
    rw [e] at h1
    refine ⟨b, o, rfl, cell_lt h1, ?_⟩
    rw [h1, ← hv]
    simp [hi.1, List.getD_eq_getElem?_getD, List.getElem?_eq_getElem hi.2]

theorem isRow_below {k : IntKind} {w w' : World} {a : Option Addr} {len cap : Nat} {zs : List Int} (h : IsRow k w a len cap zs) (hb : Below w.heap.size w w') : IsRow k w' a len cap zs := by
  rcases h with h | ⟨x, hx, hl, hm, hz, hc, hw⟩
  · exact .inl h
  · exact .inr ⟨x, hx, hl, hm, hz, fun i hi => by rw [hb.cell (cell_lt (hc i hi))]; exact hc i hi, hw⟩

/-- Block g holds just these cells, and may be written. -/
def Blk (w : World) (g : Nat) (T : TypeId) (vs : List Value) : Prop := w.heap[g]? = some (.cells vs.toArray T (0, 0))

section
variable {w w' : World} {g : Nat} {T : TypeId} {vs : List Value}
theorem Blk.lt (h : Blk w g T vs) : g < w.heap.size := by
  rcases Nat.lt_or_ge g w.heap.size with h' | h'
  · exact h'
  · unfold Blk at h; rw [Array.getElem?_eq_none h'] at h; cases h
theorem Blk.cell (h : Blk w g T vs) (i : Nat) : w.cell? ⟨g, i, none⟩ = vs[i]? := by
  unfold Blk at h; simp [World.cell?, h]
theorem Blk.frozen (h : Blk w g T vs) (i : Nat) : w.frozen? ⟨g, i, none⟩ = false := by
  unfold Blk at h; simp [World.frozen?, h]
theorem Blk.alloc_ (w : World) (T : TypeId) (vs : List Value) : Blk (w.alloc (.cells vs.toArray T)) w.heap.size T vs := by
  show (w.heap.push _)[w.heap.size]? = _; simp
theorem Blk.put (h : Blk w g T vs) (i : Nat) (u : Value) : Blk (w.setCell ⟨g, i, none⟩ u) g T (vs.set i u) := by
  unfold Blk at h ⊢; simp [World.setCell, Array.getElem?_modify, h]
theorem Blk.far (h : Blk w g T vs) {p : Addr} (hp : g ≠ p.block) (u : Value) : Blk (w.setCell p u) g T vs := (Below.heap_setCell w p u g hp).trans h
theorem Blk.alloc (h : Blk w g T vs) (o : Obj) : Blk (w.alloc o) g T vs := (Below.heap_alloc w o g h.lt).trans h
theorem Blk.below {B : Nat} (h : Blk w g T vs) (hb : Below B w w') (hg : g < B) : Blk w' g T vs := (hb.block g hg).trans h
theorem Blk.row (h : Blk w g T vs) : Row w w.heap.size (some ⟨g, 0, none⟩) vs := fun i v hv => ⟨g, 0, rfl, h.lt, by rw [Nat.zero_add, h.cell]; exact hv⟩
end

/-- All but block a stands as it stood. -/
structure Keep (a : Nat) (w w' : World) : Prop where
  os : w'.os = w.os
  tape : w'.tape = w.tape
  output : w'.output = w.output
  size : w.heap.size ≤ w'.heap.size
  block : ∀ k, k < w.heap.size → k ≠ a → w'.heap[k]? = w.heap[k]?
theorem Keep.refl (a : Nat) (w : World) : Keep a w w := ⟨rfl, rfl, rfl, Nat.le_refl _, fun _ _ _ => rfl⟩
theorem Keep.trans {a : Nat} {u v w : World} (h : Keep a u v) (k : Keep a v w) : Keep a u w :=
  ⟨k.os.trans h.os, k.tape.trans h.tape, k.output.trans h.output, Nat.le_trans h.size k.size, fun i hi ha => (k.block i (Nat.lt_of_lt_of_le hi h.size) ha).trans (h.block i hi ha)⟩
theorem Keep.of {a : Nat} {w w' : World} (h : Below w.heap.size w w') : Keep a w w' := ⟨h.os, h.tape, h.output, h.size, fun k hk _ => h.block k hk⟩
theorem Keep.below {a B : Nat} {w w' : World} (h : Keep a w w') (ha : B ≤ a) (hB : B ≤ w.heap.size) : Below B w w' :=
  ⟨h.os, h.tape, h.output, h.size, fun k hk => h.block k (by omega) (by omega)⟩
theorem Keep.cell {a : Nat} {w w' : World} (h : Keep a w w') {p : Addr} (hp : p.block < w.heap.size) (ha : p.block ≠ a) : w'.cell? p = w.cell? p := World.cell?_of_block (w := w) (h.block p.block hp ha)
theorem Keep.drew {a : Nat} {u w : World} (h : Keep a u w) : Keep a u w.drew := ⟨h.os, h.tape, h.output, h.size, h.block⟩
theorem Keep.drewN {a : Nat} {u w : World} (h : Keep a u w) (n : Nat) : Keep a u (w.drewN n) := ⟨h.os, h.tape, h.output, h.size, h.block⟩
theorem Keep.set {a : Nat} {u w : World} (h : Keep a u w) (i : Nat) (x : Value) : Keep a u (w.setCell ⟨a, i, none⟩ x) :=
  h.trans ⟨rfl, rfl, rfl, by simp [World.setCell], fun k _ ha => Below.heap_setCell _ _ _ _ ha⟩
theorem Keep.row {a B : Nat} {w w' : World} {A : Option Addr} {vs : List Value} (h : Keep a w w') (hr : Row w B A vs) (hB : B ≤ w.heap.size) (ha : B ≤ a) : Row w' B A vs :=
  hr.keep fun p hp => h.cell (by omega) (by omega)
theorem Keep.blk {a g : Nat} {T : TypeId} {w w' : World} {vs : List Value} (h : Keep a w w') (hr : Blk w g T vs) (ha : g ≠ a) : Blk w' g T vs := (h.block g hr.lt ha).trans hr
theorem drewN_below {B : Nat} {a w : World} (h : Below B a w) (n : Nat) : Below B a (w.drewN n) := ⟨h.os, h.tape, h.output, h.size, h.block⟩

end Go.Proofs.YtfjmjlpobbjjdaaDoor
