/- GA: the texts Ground Find Tw in one. -/
import Derived.Test.YtfjmjlpobbjjdaaDoorProg
import Derived.WalkKit
import Derived.ProofKit
import Derived.Below
import Derived.Lib.Hide
import Derived.Deep.Draws
import Derived.Lib.Bytealg
import Derived.Lib.Strings
import Derived.Test.YtfjmjlpobbjjdaaDoorPA
import Derived.Handy

namespace Go.Proofs.YtfjmjlpobbjjdaaDoor
open Go.RowKit
set_option linter.unusedVariables false

/-- A slice of integers that came in: nil, or a row of 'cap' cells, the first 'len' of which are its elements. -/
def IsRow (k : IntKind) (w : World) (a : Option Addr) (len cap : Nat) (zs : List Int) : Prop :=
  (a = none ∧ len = 0 ∧ cap = 0 ∧ zs = []) ∨
  ∃ x, a = some x ∧ len ≤ cap ∧ cap ≤ maxLen ∧ zs.length = cap ∧ (∀ i, i < zs.length → w.cell? (x.add i) = some (.int k (zs.getD i 0))) ∧ ∀ n ∈ zs, (Lit.int k n).wf = true

theorem wf_i64 {a : Int} (h : (Lit.int .i64 a).wf = true) : -9223372036854775808 ≤ a ∧ a ≤ 9223372036854775807 := by
  simpa [Lit.wf, IntKind.min, IntKind.max, IntKind.signed, IntKind.bits] using h
theorem wf_u8 {a : Int} (h : (Lit.int .u8 a).wf = true) : 0 ≤ a ∧ a ≤ 255 := by
  simpa [Lit.wf, IntKind.min, IntKind.max, IntKind.signed, IntKind.bits] using h

theorem cell_lt {w : World} {p : Addr} {v : Value} (h : w.cell? p = some v) : p.block < w.heap.size := by
  rcases Nat.lt_or_ge p.block w.heap.size with h' | h'
  · exact h'
  · simp [World.cell?, Array.getElem?_eq_none h'] at h

/-- From an address on, below block B, the cells vs lie. -/
def Row (w : World) (B : Nat) (A : Option Addr) (vs : List Value) : Prop :=
  ∀ i v, vs[i]? = some v → ∃ b o, A = some ⟨b, o, none⟩ ∧ b < B ∧ w.cell? ⟨b, o + i, none⟩ = some v

section
variable {w w' : World} {B B' : Nat} {A : Option Addr} {vs : List Value}
theorem Row.nil (w : World) (B : Nat) (A : Option Addr) : Row w B A [] := fun i v h => by simp at h
theorem Row.keep (h : Row w B A vs) (hk : ∀ p : Addr, p.block < B → w'.cell? p = w.cell? p) : Row w' B A vs := fun i v hv => by
  obtain ⟨b, o, e, hb, hc⟩ := h i v hv
  exact ⟨b, o, e, hb, (hk _ hb).trans hc⟩
theorem Row.more (h : Row w B A vs) (hB : B ≤ B') : Row w B' A vs := fun i v hv => by
  obtain ⟨b, o, e, hb, hc⟩ := h i v hv
  exact ⟨b, o, e, by omega, hc⟩
theorem Row.below (h : Row w B A vs) (hb : Below B w w') : Row w' B A vs := h.keep fun _ hp => hb.cell hp
theorem Row.at_ {i : Nat} (h : Row w B A vs) (hi : i < vs.length) : ∃ b o, A = some ⟨b, o, none⟩ ∧ b < B ∧ w.cell? ⟨b, o + i, none⟩ = some vs[i] := h i _ (List.getElem?_eq_getElem hi)
theorem Row.drop (h : Row w B A vs) (k : Nat) (hk : k < vs.length) : ∃ b o, A = some ⟨b, o, none⟩ ∧ Row w B (some ⟨b, o + k, none⟩) (vs.drop k) := by
  obtain ⟨b, o, rfl, hb, hc⟩ := h.at_ hk
  refine ⟨b, o, rfl, fun i v hv => ?_⟩
  rw [List.getElem?_drop] at hv
  obtain ⟨b', o', e, hb', hc'⟩ := h _ v hv
  simp only [Option.some.injEq, Addr.mk.injEq] at e
  obtain ⟨rfl, rfl, _⟩ := e
  exact ⟨b, o + k, rfl, hb, by rw [Nat.add_assoc]; exact hc'⟩
theorem Row.take (h : Row w B A vs) (k : Nat) : Row w B A (vs.take k) := fun i v hv => h i v (by
  rw [List.getElem?_take] at hv; split at hv
  · exact hv
  · cases hv)
end

def ints (xs : List Int) : List Value := xs.map (.int .i64)
theorem ints_length (xs : List Int) : (ints xs).length = xs.length := by simp [ints]
theorem ints_get {xs : List Int} {i : Nat} (h : i < xs.length) : (ints xs)[i]? = some (.int .i64 xs[i]) := by simp [ints, h]

/-- A slice of integers that came in, as a row. -/
theorem IsRow.row {k : IntKind} {w : World} {a : Option Addr} {len cap : Nat} {zs : List Int} (h : IsRow k w a len cap zs) :
    Row w w.heap.size a ((zs.take len).map (.int k)) ∧ (zs.take len).length = len ∧ len ≤ cap ∧ (len : Int) ≤ 9223372036854775807 ∧ (cap : Int) ≤ 9223372036854775807 ∧ (∀ n ∈ zs.take len, (Lit.int k n).wf = true) := by
  rcases h with ⟨rfl, rfl, rfl, rfl⟩ | ⟨x, rfl, hl, hm, hz, hc, hw⟩
  · refine ⟨by simpa using Row.nil w w.heap.size none, by simp, by omega, by omega, by omega, by simp⟩
  · unfold maxLen at hm
    refine ⟨fun i v hv => ?_, by simp; omega, hl, by omega, by omega, fun n hn => hw n (List.mem_of_mem_take hn)⟩
    have hi : i < len ∧ i < zs.length := by
      have := (List.getElem?_eq_some_iff.1 hv).1
      simp at this; omega
    have h1 := hc i hi.2
    obtain ⟨b, o, s⟩ := x
    have hs : s = none := by
      simpa [Addr.add] using World.cell?_spot (hc 0 (by omega))
    subst hs
    have e : (Addr.mk b o none).add i = ⟨b, o + i, none⟩ := by unfold Addr.add; split <;> simp_all
    rw [e] at h1
    refine ⟨b, o, rfl, cell_lt h1, ?_⟩
    rw [h1, ← hv]
    simp [hi.1, List.getD_eq_getElem?_getD, List.getElem?_eq_getElem hi.2]

theorem isRow_below {k : IntKind} {w w' : World} {a : Option Addr} {len cap : Nat} {zs : List Int} (h : IsRow k w a len cap zs) (hb : Below w.heap.size w w') : IsRow k w' a len cap zs := by
  rcases h with h | ⟨x, hx, hl, hm, hz, hc, hw⟩
  · exact .inl h
  · exact .inr ⟨x, hx, hl, hm, hz, fun i hi => by rw [hb.cell (cell_lt (hc i hi))]; exact hc i hi, hw⟩

/-- Block g holds just these cells, and may be written. -/
def Blk (w : World) (g : Nat) (T : TypeId) (vs : List Value) : Prop := w.heap[g]? = some (.cells vs.toArray T (0, 0))

section
variable {w w' : World} {g : Nat} {T : TypeId} {vs : List Value}
theorem Blk.lt (h : Blk w g T vs) : g < w.heap.size := by
  rcases Nat.lt_or_ge g w.heap.size with h' | h'
  · exact h'
  · unfold Blk at h; rw [Array.getElem?_eq_none h'] at h; cases h
theorem Blk.cell (h : Blk w g T vs) (i : Nat) : w.cell? ⟨g, i, none⟩ = vs[i]? := by
  unfold Blk at h; simp [World.cell?, h]
theorem Blk.frozen (h : Blk w g T vs) (i : Nat) : w.frozen? ⟨g, i, none⟩ = false := by
  unfold Blk at h; simp [World.frozen?, h]
theorem Blk.alloc_ (w : World) (T : TypeId) (vs : List Value) : Blk (w.alloc (.cells vs.toArray T)) w.heap.size T vs := by
  show (w.heap.push _)[w.heap.size]? = _; simp
theorem Blk.put (h : Blk w g T vs) (i : Nat) (u : Value) : Blk (w.setCell ⟨g, i, none⟩ u) g T (vs.set i u) := by
  unfold Blk at h ⊢; simp [World.setCell, Array.getElem?_modify, h]
theorem Blk.far (h : Blk w g T vs) {p : Addr} (hp : g ≠ p.block) (u : Value) : Blk (w.setCell p u) g T vs := (Below.heap_setCell w p u g hp).trans h
theorem Blk.alloc (h : Blk w g T vs) (o : Obj) : Blk (w.alloc o) g T vs := (Below.heap_alloc w o g h.lt).trans h
theorem Blk.below {B : Nat} (h : Blk w g T vs) (hb : Below B w w') (hg : g < B) : Blk w' g T vs := (hb.block g hg).trans h
theorem Blk.row (h : Blk w g T vs) : Row w w.heap.size (some ⟨g, 0, none⟩) vs := fun i v hv => ⟨g, 0, rfl, h.lt, by rw [Nat.zero_add, h.cell]; exact hv⟩
end

/-- All but block a stands as it stood. -/
structure Keep (a : Nat) (w w' : World) : Prop where
  os : w'.os = w.os
  tape : w'.tape = w.tape
  output : w'.output = w.output
  size : w.heap.size ≤ w'.heap.size
  block : ∀ k, k < w.heap.size → k ≠ a → w'.heap[k]? = w.heap[k]?
theorem Keep.refl (a : Nat) (w : World) : Keep a w w := ⟨rfl, rfl, rfl, Nat.le_refl _, fun _ _ _ => rfl⟩
theorem Keep.trans {a : Nat} {u v w : World} (h : Keep a u v) (k : Keep a v w) : Keep a u w :=
  ⟨k.os.trans h.os, k.tape.trans h.tape, k.output.trans h.output, Nat.le_trans h.size k.size, fun i hi ha => (k.block i (Nat.lt_of_lt_of_le hi h.size) ha).trans (h.block i hi ha)⟩
theorem Keep.of {a : Nat} {w w' : World} (h : Below w.heap.size w w') : Keep a w w' := ⟨h.os, h.tape, h.output, h.size, fun k hk _ => h.block k hk⟩
theorem Keep.below {a B : Nat} {w w' : World} (h : Keep a w w') (ha : B ≤ a) (hB : B ≤ w.heap.size) : Below B w w' :=
  ⟨h.os, h.tape, h.output, h.size, fun k hk => h.block k (by omega) (by omega)⟩
theorem Keep.cell {a : Nat} {w w' : World} (h : Keep a w w') {p : Addr} (hp : p.block < w.heap.size) (ha : p.block ≠ a) : w'.cell? p = w.cell? p := World.cell?_of_block (w := w) (h.block p.block hp ha)
theorem Keep.drew {a : Nat} {u w : World} (h : Keep a u w) : Keep a u w.drew := ⟨h.os, h.tape, h.output, h.size, h.block⟩
theorem Keep.drewN {a : Nat} {u w : World} (h : Keep a u w) (n : Nat) : Keep a u (w.drewN n) := ⟨h.os, h.tape, h.output, h.size, h.block⟩
theorem Keep.set {a : Nat} {u w : World} (h : Keep a u w) (i : Nat) (x : Value) : Keep a u (w.setCell ⟨a, i, none⟩ x) :=
  h.trans ⟨rfl, rfl, rfl, by simp [World.setCell], fun k _ ha => Below.heap_setCell _ _ _ _ ha⟩
theorem Keep.row {a B : Nat} {w w' : World} {A : Option Addr} {vs : List Value} (h : Keep a w w') (hr : Row w B A vs) (hB : B ≤ w.heap.size) (ha : B ≤ a) : Row w' B A vs :=
  hr.keep fun p hp => h.cell (by omega) (by omega)
theorem Keep.blk {a g : Nat} {T : TypeId} {w w' : World} {vs : List Value} (h : Keep a w w') (hr : Blk w g T vs) (ha : g ≠ a) : Blk w' g T vs := (h.block g hr.lt ha).trans hr
theorem drewN_below {B : Nat} {a w : World} (h : Below B a w) (n : Nat) : Below B a (w.drewN n) := ⟨h.os, h.tape, h.output, h.size, h.block⟩

end Go.Proofs.YtfjmjlpobbjjdaaDoor

namespace Go.Proofs.YtfjmjlpobbjjdaaDoor
open Go.RowKit
set_option linter.unusedVariables false

theorem indexByte_at : ∀ (l : List UInt8) (c : UInt8) (k : Nat), (∀ i, i < k → l[i]? ≠ some c) → l[k]? = some c → Lib.indexByte l c = k := by
  intro l
  induction l with
  | nil => intro c k _ h; simp at h
  | cons b l ih =>
    intro c k h1 h2
    cases k with
    | zero => simp at h2; subst h2; simp [Lib.indexByte]
    | succ k =>
      have hb : (b == c) = false := by
        have := h1 0 (by omega); simp at this; simpa using this
      have := ih c k (fun i hi => by have := h1 (i + 1) (by omega); simpa using this) (by simpa using h2)
      simp only [Lib.indexByte, hb, this]
      rw [if_neg (by simp), if_neg (by simp)]; omega
theorem indexByte_no : ∀ (l : List UInt8) (c : UInt8), (∀ i : Nat, i < l.length → l[i]? ≠ some c) → Lib.indexByte l c = -1 := by
  intro l
  induction l with
  | nil => intro c _; rfl
  | cons b l ih =>
    intro c h1
    have hb : (b == c) = false := by
      have := h1 0 (by simp); simp at this; simpa using this
    have := ih c (fun i hi => by have := h1 (i + 1) (by simpa using hi); simpa using this)
    simp only [Lib.indexByte, hb, this]
    simp

theorem byte_get (s : ByteArray) (k : Nat) (h : k < s.size) : s.data.toList[k]? = some s[k] := by
  simp only [Array.getElem?_toList]; exact Array.getElem?_eq_getElem h
theorem byte_ne {a b : UInt8} (h : a ≠ b) : ((a.toNat : Int) == (b.toNat : Int)) = false := by
  rw [beq_eq_false_iff_ne]; intro e; exact h (UInt8.toNat_inj.1 (by omega))

end Go.Proofs.YtfjmjlpobbjjdaaDoor

namespace Go.Proofs.YtfjmjlpobbjjdaaDoor
open Go.RowKit Ilp
set_option linter.unusedVariables false

theorem all_at {p : UInt8 → Bool} {s : ByteArray} {k : Nat} (h : k < s.size) : (s.data.toList.drop k).all p = (p s[k] && (s.data.toList.drop (k + 1)).all p) := by
  rw [List.drop_eq_getElem_cons (by simpa using h), List.all_cons]; rfl
theorem byte_rng (c : UInt8) : (0 : Int) ≤ (c.toNat : Int) ∧ (c.toNat : Int) ≤ 255 := by have := c.toNat_lt; omega
theorem let_iff (c : UInt8) : isLet c = true ↔ (97 : Int) ≤ (c.toNat : Int) ∧ (c.toNat : Int) ≤ 122 := by
  unfold isLet; rw [Bool.and_eq_true, decide_eq_true_eq, decide_eq_true_eq]; omega
theorem dig_iff' (c : UInt8) : isDig c = true ↔ (48 : Int) ≤ (c.toNat : Int) ∧ (c.toNat : Int) ≤ 57 := by
  unfold isDig; rw [Bool.and_eq_true, decide_eq_true_eq, decide_eq_true_eq]; omega
theorem tokWord_bad {l : List UInt8} (h : l.all isLet = false) : tokWord l = false := by unfold tokWord; rw [h]; simp
theorem tokWord_good {l : List UInt8} (h : l.all isLet = true) : tokWord l = (decide (1 ≤ l.length) && decide (l.length ≤ 8)) := by unfold tokWord; rw [h]; simp

set_option maxHeartbeats 2000000 in
set_option maxRecDepth 20000 in
theorem specWord (s : ByteArray) (w : World) (hs : (s.size : Int) ≤ 4611686018427387904) :
    Calls Tryd.prog 109 #[.string s] w fun e w' => e = .returned (.bool (tokWord s.data.toList)) ∧ w = w' := by
  go_enter Tryd.func109, Tryd.ntmps109
  go_wp2_with fail
  go_loop [3] (fun v => ∃ k : Nat, v = .int .i64 (k : Int) ∧ k ≤ s.size ∧ Hid (s.data.toList.all isLet = (s.data.toList.drop k).all isLet)) (fun v => s.size - (intOf v).toNat)
  case atStart => exact ⟨0, rfl, Nat.zero_le _, rfl⟩
  case round =>
    obtain ⟨k, rfl, hk, hall⟩ := hrel
    by_cases hlt : k < s.size
    · have hst := all_at (p := isLet) hlt
      obtain ⟨r0, r1⟩ := byte_rng s[k]
      have hli := let_iff s[k]
      by_cases h97 : (s[k].toNat : Int) < 97
      · have H := Lib.hid (tokWord_bad (by rw [hall.out, hst, show isLet s[k] = false from Bool.eq_false_iff.2 (fun e => by have := hli.1 e; omega)]; rfl))
        clear hst hli
        go_wp2_with fail
        go_ret
        exact ⟨by rw [H.out]; rfl, rfl⟩
      · by_cases h122 : (122 : Int) < (s[k].toNat : Int)
        · have H := Lib.hid (tokWord_bad (by rw [hall.out, hst, show isLet s[k] = false from Bool.eq_false_iff.2 (fun e => by have := hli.1 e; omega)]; rfl))
          clear hst hli
          go_wp2_with fail
          go_ret
          exact ⟨by rw [H.out]; rfl, rfl⟩
        · have hall2 : Hid (s.data.toList.all isLet = (s.data.toList.drop (k + 1)).all isLet) := by unfold Hid; rw [hall.out, hst, hli.2 (by omega)]; rfl
          clear hst hli
          go_wp2_with fail
          go_round
          case rel => exact ⟨k + 1, by go_num, by omega, hall2⟩
          case measure => simp [intOf]; omega
    · obtain rfl : k = s.size := by omega
      have hg : s.data.toList.all isLet = true := by rw [hall.out, List.drop_eq_nil_of_le (by simp)]; rfl
      have hl : s.data.toList.length = s.size := by simp
      have HG := Lib.hid (tokWord_good hg)
      clear hg
      by_cases h1 : (1 : Int) ≤ (s.size : Int)
      · by_cases h8 : (s.size : Int) ≤ 8
        · have H : Hid (tokWord s.data.toList = true) := by unfold Hid; rw [HG.out, hl, decide_eq_true (by omega), decide_eq_true (by omega)]; rfl
          clear hl
          go_wp2_with fail
          go_ret
          exact ⟨by rw [H.out]; rfl, rfl⟩
        · have H : Hid (tokWord s.data.toList = false) := by unfold Hid; rw [HG.out, hl, decide_eq_false (by omega : ¬ s.size ≤ 8)]; simp
          clear hl
          go_wp2_with fail
          go_ret
          exact ⟨by rw [H.out]; rfl, rfl⟩
      · have H : Hid (tokWord s.data.toList = false) := by unfold Hid; rw [HG.out, hl, decide_eq_false (by omega : ¬ 1 ≤ s.size)]; simp
        clear hl
        go_wp2_with fail
        go_ret
        exact ⟨by rw [H.out]; rfl, rfl⟩

/-- What l12Num hands back: enough to tell which texts are numbers. -/
def NumR (l : List UInt8) (w : World) (e : Ending) (w' : World) : Prop := ∃ (n : Int) (ok : Bool), e = .returned (.tuple #[.int .i64 n, .bool ok]) ∧ (ok && decide (0 ≤ n) && decide (n ≤ 1000000)) = tokNum l ∧ (tokNum l = true → n = decVal l) ∧ -1000000000000000000 ≤ n ∧ n ≤ 1000000000000000000 ∧ w = w'
theorem tokNum_bad {l : List UInt8} (h : l.all isDig = false) : tokNum l = false := by unfold tokNum; rw [h]; simp
theorem numR_no {l : List UInt8} {w : World} (h : tokNum l = false) : NumR l w (.returned (.tuple #[.int .i64 0, .bool false])) w := ⟨0, false, rfl, by rw [h]; rfl, (fun e => by rw [h] at e; cases e), by omega, by omega, rfl⟩
theorem decFrom_lt : ∀ (t : List UInt8) (n : Nat), t.all isDig = true → decFrom n t + 1 ≤ (n + 1) * 10 ^ t.length
  | [], n, _ => by simp [decFrom]
  | c :: t, n, h => by
    simp only [List.all_cons, Bool.and_eq_true] at h
    have hc := dig_iff.1 h.1
    have := decFrom_lt t (n * 10 + (c.toNat - 48)) h.2
    rw [decFrom_cons, List.length_cons, Nat.pow_succ]
    have h2 : (n * 10 + (c.toNat - 48) + 1) * 10 ^ t.length ≤ (n * 10 + 10) * 10 ^ t.length := Nat.mul_le_mul_right _ (by omega)
    have h3 : (n * 10 + 10) * 10 ^ t.length = (n + 1) * (10 ^ t.length * 10) := by
      rw [show n * 10 + 10 = (n + 1) * 10 by omega, Nat.mul_assoc, Nat.mul_comm 10]
    omega
theorem dec_small {l : List UInt8} (h : l.all isDig = true) (hl : l.length ≤ 17) : decFrom 0 l < 100000000000000000 := by
  have h1 := decFrom_lt l 0 h
  have h2 : 10 ^ l.length ≤ 10 ^ 17 := Nat.pow_le_pow_right (by omega) hl
  have h3 : (10 : Nat) ^ 17 = 100000000000000000 := by decide
  omega
theorem dec_step {s : ByteArray} {k : Nat} (h : k < s.size) : decFrom 0 (s.data.toList.take (k + 1)) = decFrom 0 (s.data.toList.take k) * 10 + (s[k].toNat - 48) := by
  rw [List.take_succ_eq_append_getElem (by simpa using h), decFrom_snoc]; rfl
theorem all_take {p : UInt8 → Bool} {s : ByteArray} {k : Nat} (h : k < s.size) : (s.data.toList.take (k + 1)).all p = ((s.data.toList.take k).all p && p s[k]) := by
  rw [List.take_succ_eq_append_getElem (by simpa using h), List.all_append]; simp; rfl
theorem all_bad {p : UInt8 → Bool} {s : ByteArray} {k : Nat} (h : k < s.size) (hp : p s[k] = false) : s.data.toList.all p = false := by
  rw [← List.take_append_drop k s.data.toList, List.all_append, all_at h, hp]; simp
theorem numR_yes {s : ByteArray} {w : World} (h1 : 1 ≤ s.size) (h2 : s.size ≤ 17) (h3 : s.data.toList.all isDig = true) (h4 : s.size = 1 ∨ s.data.toList.head? ≠ some 48) :
    NumR s.data.toList w (.returned (.tuple #[.int .i64 (decFrom 0 s.data.toList : Int), .bool true])) w := by
  have hl : s.data.toList.length = s.size := by simp
  have hs := dec_small h3 (by omega)
  refine ⟨_, true, rfl, ?_, fun _ => rfl, by omega, by omega, rfl⟩
  rw [Bool.eq_iff_iff, tokNum_iff]
  simp only [Bool.true_and, Bool.and_eq_true, decide_eq_true_eq]
  unfold decVal
  constructor
  · intro h; exact ⟨by omega, by omega, h3, h4.imp (fun h => by omega) id, by omega⟩
  · intro h; exact ⟨by omega, by have := h.2.2.2.2; omega⟩
theorem numR_neg {s t : ByteArray} {w : World} (hb : tokNum s.data.toList = false) (h2 : t.size ≤ 17) (h1 : 1 ≤ t.size) (h3 : t.data.toList.all isDig = true) (h4 : t.data.toList.head? ≠ some 48) :
    NumR s.data.toList w (.returned (.tuple #[.int .i64 (-(decFrom 0 t.data.toList : Int)), .bool true])) w := by
  have hl : t.data.toList.length = t.size := by simp
  have hs := dec_small h3 (by omega)
  have hp := decVal_pos t.data.toList (by intro e; rw [e] at hl; simp at hl; omega) h3 h4
  unfold decVal at hp
  refine ⟨_, true, rfl, ?_, (fun e => by rw [hb] at e; cases e), by omega, by omega, rfl⟩
  rw [hb, decide_eq_false (by omega)]; rfl
theorem head_at {s : ByteArray} (h : 0 < s.size) : s.data.toList.head? = some s[0] := by
  rw [List.head?_eq_getElem?]; simp only [Array.getElem?_toList]; exact Array.getElem?_eq_getElem h
theorem minus_bad {s : ByteArray} (h : 0 < s.size) (hc : s[0] = 45) : tokNum s.data.toList = false := tokNum_bad (all_bad h (by rw [hc]; decide))

end Go.Proofs.YtfjmjlpobbjjdaaDoor
