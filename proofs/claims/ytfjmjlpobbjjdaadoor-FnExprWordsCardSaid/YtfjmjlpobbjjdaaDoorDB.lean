/- DB: the texts DrF DrG DrH in one. -/
import Derived.Test.YtfjmjlpobbjjdaaDoorDA
import Derived.Test.YtfjmjlpobbjjdaaDoorTA
import Derived.Test.YtfjmjlpobbjjdaaDoorEOkL

namespace Ilp
/-- No text in it is this one. -/
def clean : Nat → Ex → Bool
  | 0, _ => true
  | d + 1, .mk _ _ s ks => !(s == [117, 110, 117, 115, 101, 100]) && ks.all (clean d)
end Ilp
namespace Go.Proofs.YtfjmjlpobbjjdaaDoor
open Go.RowKit Ilp
set_option linter.unusedVariables false

def CleanE (t : Ex) : Prop := ∀ d, clean d t = true
theorem cleanE_leaf (k n : Int) (s : List UInt8) (h : s ≠ [117, 110, 117, 115, 101, 100]) : CleanE (.mk k n s []) := fun d => by
  cases d with
  | zero => rfl
  | succ d => simp [clean, h]
theorem cleanE_one {k n : Int} {s : List UInt8} {x : Ex} (h : s ≠ [117, 110, 117, 115, 101, 100]) (hx : CleanE x) : CleanE (.mk k n s [x]) := fun d => by
  cases d with
  | zero => rfl
  | succ d => simp [clean, h, hx d]
theorem cleanE_two {k n : Int} {s : List UInt8} {x y : Ex} (h : s ≠ [117, 110, 117, 115, 101, 100]) (hx : CleanE x) (hy : CleanE y) : CleanE (.mk k n s [x, y]) := fun d => by
  cases d with
  | zero => rfl
  | succ d => simp [clean, h, hx d, hy d]

/-- A drawn expression: its cells, made from B on. -/
def DrX (g p K M B : Nat) (w : World) (e : Ending) (w' : World) : Prop :=
  ∃ (k n : Int) (s : ByteArray) (A : Option Addr) (l c : Nat) (t : Ex) (p' : Nat), e = .returned (.agg #[.int .i64 k, .int .i64 n, .string s, .slice A l c]) ∧ IsEN B w' [.int .i64 k, .int .i64 n, .string s, .slice A l c] t ∧ wgt t ≤ M ∧ CleanE t ∧ p ≤ p' ∧ p' ≤ p + K ∧ Rd w' g p' ∧ Keep g w w'

def drNums : List Int := [0, 1, 2, 7, 30, 1000000]
def drNames : List (List UInt8) := [[120], [121], [122], [120]]
def drTypes : List (List UInt8) := [[105, 110, 116], [98, 111, 111, 108], [105, 110, 116]]
def drOps : List (List UInt8) := [[43], [45], [42], [60], [43], [42]]
theorem drNames_le : ∀ l ∈ drNames, l.length ≤ 1 ∧ l ≠ [117, 110, 117, 115, 101, 100] := by decide
theorem drTypes_le : ∀ l ∈ drTypes, l.length ≤ 4 ∧ l ≠ [117, 110, 117, 115, 101, 100] := by decide
theorem drOps_le : ∀ l ∈ drOps, l.length ≤ 1 ∧ l ≠ [117, 110, 117, 115, 101, 100] := by decide

def zero4 : List Value := [.int .i64 0, .int .i64 0, .string ⟨#[]⟩, .slice none 0 0]
theorem rd_far {w : World} {g p X : Nat} (h : Rd w g p) (hX : g < X) (i : Nat) (u : Value) : Rd (w.setCell ⟨X, i, none⟩ u) g p :=
  rd_low h fun k hk => Below.heap_setCell _ _ _ _ (by show k ≠ X; omega)
/-- The result laid into its box. -/
theorem drx_put {g p p' K M X : Nat} {w w3 : World} {k n : Int} {s : ByteArray} {A : Option Addr} {l c : Nat} {t : Ex} {T : TypeId} {vs : List Value} (hX : Blk w3 X T vs) (hK : Keep g w w3) (hR : Rd w3 g p') (h1 : p ≤ p') (h2 : p' ≤ p + K) (hlt : g < w.heap.size) (hXw : X = w.heap.size)
    (ht : IsEN (X + 1) w3 [.int .i64 k, .int .i64 n, .string s, .slice A l c] t) (hw : wgt t ≤ M) (hc : CleanE t) :
    DrX g p K M w.heap.size w (.returned (.agg #[.int .i64 k, .int .i64 n, .string s, .slice A l c])) ((((w3.setCell ⟨X, 0, none⟩ (.int .i64 k)).setCell ⟨X, 1, none⟩ (.int .i64 n)).setCell ⟨X, 2, none⟩ (.string s)).setCell ⟨X, 3, none⟩ (.slice A l c)) := by
  subst hXw
  have kX : Keep w.heap.size w3 ((((w3.setCell ⟨w.heap.size, 0, none⟩ (.int .i64 k)).setCell ⟨w.heap.size, 1, none⟩ (.int .i64 n)).setCell ⟨w.heap.size, 2, none⟩ (.string s)).setCell ⟨w.heap.size, 3, none⟩ (.slice A l c)) := ((((Keep.refl _ _).set 0 _).set 1 _).set 2 _).set 3 _
  refine ⟨k, n, s, A, l, c, t, p', rfl, (ht.keep kX (Nat.lt_succ_self _)).down (Nat.le_succ _), hw, hc, h1, h2, rd_far (rd_far (rd_far (rd_far hR hlt 0 _) hlt 1 _) hlt 2 _) hlt 3 _, ?_⟩
  exact ⟨kX.os.trans hK.os, kX.tape.trans hK.tape, kX.output.trans hK.output, Nat.le_trans hK.size kX.size, fun i hi ha => (kX.block i (Nat.lt_of_lt_of_le hi hK.size) (by omega)).trans (hK.block i hi ha)⟩

set_option maxHeartbeats 4000000 in
set_option maxRecDepth 20000 in
theorem l4Expr (d : Nat) : ∀ (D : Int) (K0 M0 g p : Nat) (w : World), Rd w g p → p + 6 * 2 ^ d ≤ 100000 → (d : Int) ≤ 10 → D = (d : Int) → 6 * 2 ^ d - 3 ≤ K0 → 10 * 2 ^ d - 6 ≤ M0 →
    Calls Tryd.prog 99 #[.pointer (some ⟨g, 0, none⟩), .int .i64 D] w (DrX g p K0 M0 w.heap.size w) := by
  induction d with
  | zero =>
    intro D K0 M0 g p w h hp hd hD hK0 hM0
    have hlt := h.lt
    have hD1 : D ≤ 1 := by omega
    have HXL := Lib.hid (Blk.alloc_ w 25 zero4)
    have HRL := Lib.hid (rd_alloc h (.cells zero4.toArray 25))
    have HKL := Lib.hid (keep_alloc (Keep.refl g w) (.cells zero4.toArray 25))
    clear hD h
    go_enter Tryd.func99, Tryd.ntmps99
    go_wp2_with fail
    refine (pick g (p) 2 _ HRL.out (by omega) (by omega) (by omega)).mono ?_
    rintro e w1 ⟨r, rfl, hr0, hr1, hR, hK, hs⟩
    have HX1 : Hid (Blk w1 w.heap.size 25 zero4) := hK.blk HXL.out (by omega)
    have HR1 := Lib.hid hR
    have HK1 : Hid (Keep g w w1) := HKL.out.trans hK
    have hl1 : g < w1.heap.size := hR.lt
    have hl2 : w.heap.size < w1.heap.size := HX1.out.lt
    clear hr0 hr1 hs hR hK
    by_cases hr : r = 0
    · subst hr
      go_wp2_with fail
      refine (numOf g (p + 1) w1.heap.size 6 6 drNums _ (by exact rd_alloc HR1.out _) (by omega) (by exact Blk.alloc_ _ _ (ints drNums)) (by unfold Hid; omega) rfl (by omega) (by omega)).mono ?_
      rintro e w3 ⟨v3, p', rfl, ⟨m, hm, rfl⟩, hp1, hp2, hR3, hK3⟩
      have HX3 : Hid (Blk w3 w.heap.size 25 zero4) := hK3.blk (HX1.out.alloc _) (by omega)
      have HK3 : Hid (Keep g w w3) := HK1.out.trans ((keep_alloc (Keep.refl _ _) _).trans hK3)
      have RES := Lib.hid (drx_put (K := K0) (M := M0) (p := p) (k := 1) (n := m) (s := ⟨#[]⟩) (A := none) (l := 0) (c := 0) HX3.out HK3.out hR3 (by omega) (by omega) hlt rfl (isEN_leaf _ _ _ _ _ (by unfold maxLen; decide)) (by simp [wgt, wgts]) (cleanE_leaf _ _ _ (by decide)))
      have x0 : (w3).cell? ⟨w.heap.size, 0, none⟩ = some (.int .i64 0) := HX3.out.cell 0
      have x1 : (w3).cell? ⟨w.heap.size, 1, none⟩ = some (.int .i64 0) := HX3.out.cell 1
      have x2 : (w3).cell? ⟨w.heap.size, 2, none⟩ = some (.string ⟨#[]⟩) := HX3.out.cell 2
      have x3 : (w3).cell? ⟨w.heap.size, 3, none⟩ = some (.slice none 0 0) := HX3.out.cell 3
      have y0 := HX3.out.frozen 0
      have y1 := HX3.out.frozen 1
      have y2 := HX3.out.frozen 2
      have y3 := HX3.out.frozen 3
      have B1 := HX3.out.put 0 (.int .i64 1)
      have B2 := B1.put 1 (.int .i64 m)
      have B3 := B2.put 2 (.string ⟨#[]⟩)
      have B4 := B3.put 3 (.slice none 0 0)
      have q0 := B1.cell 0
      have q1 := B2.cell 1
      have q2 := B3.cell 2
      have q3 := B4.cell 3
      simp only [zero4, List.set_cons_zero, List.set_cons_succ, List.getElem?_cons_zero, List.getElem?_cons_succ] at q0 q1 q2 q3
      clear B1 B2 B3 B4
      clear hm hp1 hp2 hR3 hK3 HK3
      go_wp2_with fail
      refine bodyPost_ret (v := .agg #[.int .i64 1, .int .i64 m, .string ⟨#[]⟩, .slice none 0 0]) (by simp [results, Tryd.results99, go_sem, q0, q1, q2, q3]) rfl ?_
      exact RES.out
    · have hrb : ((r : Int) == 0) = false := by rw [beq_eq_false_iff_ne]; omega
      clear hr
      go_wp2_with fail
      refine (strOf g (p + 1) w1.heap.size 4 4 drNames _ (by exact rd_alloc HR1.out _) (by omega) (by exact Blk.alloc_ _ _ (strV drNames)) (by unfold Hid; omega) rfl (by omega) (by omega)).mono ?_
      rintro e w3 ⟨v3, p', rfl, ⟨m, hm, rfl⟩, hp1, hp2, hR3, hK3⟩
      have HX3 : Hid (Blk w3 w.heap.size 25 zero4) := hK3.blk (HX1.out.alloc _) (by omega)
      have HK3 : Hid (Keep g w w3) := HK1.out.trans ((keep_alloc (Keep.refl _ _) _).trans hK3)
      have hm1 := drNames_le m hm
      have RES := Lib.hid (drx_put (K := K0) (M := M0) (p := p) (k := 2) (n := 0) (s := ⟨m.toArray⟩) (A := none) (l := 0) (c := 0) HX3.out HK3.out hR3 (by omega) (by omega) hlt rfl (isEN_leaf _ _ _ _ _ (by rw [size_mk]; unfold maxLen; omega)) (by simp [wgt, wgts]; omega) (cleanE_leaf _ _ _ (by simpa using hm1.2)))
      have x0 : (w3).cell? ⟨w.heap.size, 0, none⟩ = some (.int .i64 0) := HX3.out.cell 0
      have x1 : (w3).cell? ⟨w.heap.size, 1, none⟩ = some (.int .i64 0) := HX3.out.cell 1
      have x2 : (w3).cell? ⟨w.heap.size, 2, none⟩ = some (.string ⟨#[]⟩) := HX3.out.cell 2
      have x3 : (w3).cell? ⟨w.heap.size, 3, none⟩ = some (.slice none 0 0) := HX3.out.cell 3
      have y0 := HX3.out.frozen 0
      have y1 := HX3.out.frozen 1
      have y2 := HX3.out.frozen 2
      have y3 := HX3.out.frozen 3
      have B1 := HX3.out.put 0 (.int .i64 2)
      have B2 := B1.put 1 (.int .i64 0)
      have B3 := B2.put 2 (.string ⟨m.toArray⟩)
      have B4 := B3.put 3 (.slice none 0 0)
      have q0 := B1.cell 0
      have q1 := B2.cell 1
      have q2 := B3.cell 2
      have q3 := B4.cell 3
      simp only [zero4, List.set_cons_zero, List.set_cons_succ, List.getElem?_cons_zero, List.getElem?_cons_succ] at q0 q1 q2 q3
      clear B1 B2 B3 B4
      clear hm hp1 hp2 hR3 hK3 HK3 hm1
      go_wp2_with fail
      refine bodyPost_ret (v := .agg #[.int .i64 2, .int .i64 0, .string ⟨m.toArray⟩, .slice none 0 0]) (by simp [results, Tryd.results99, go_sem, q0, q1, q2, q3]) rfl ?_
      exact RES.out
  | succ d ih =>
    intro D K0 M0 g p w h hp hd hD hK0 hM0
    have hpow : 2 ^ (d + 1) = 2 * 2 ^ d := by rw [Nat.pow_succ]; omega
    have hpos : 1 ≤ 2 ^ d := Nat.one_le_two_pow
    have hlt := h.lt
    have IH := Lib.hid ih
    clear ih
    rw [hpow] at hK0 hM0 hp
    have HXL := Lib.hid (Blk.alloc_ w 25 zero4)
    have HRL := Lib.hid (rd_alloc h (.cells zero4.toArray 25))
    have HKL := Lib.hid (keep_alloc (Keep.refl g w) (.cells zero4.toArray 25))
    clear h hpow
    generalize 2 ^ d = q at *
    by_cases hd0 : d = 0
    · have hD1 : D ≤ 1 := by omega
      clear hD hd0 IH
      go_enter Tryd.func99, Tryd.ntmps99
      go_wp2_with fail
      refine (pick g (p) 2 _ HRL.out (by omega) (by omega) (by omega)).mono ?_
      rintro e w1 ⟨r, rfl, hr0, hr1, hR, hK, hs⟩
      have HX1 : Hid (Blk w1 w.heap.size 25 zero4) := hK.blk HXL.out (by omega)
      have HR1 := Lib.hid hR
      have HK1 : Hid (Keep g w w1) := HKL.out.trans hK
      have hl1 : g < w1.heap.size := hR.lt
      have hl2 : w.heap.size < w1.heap.size := HX1.out.lt
      clear hr0 hr1 hs hR hK
      by_cases hr : r = 0
      · subst hr
        go_wp2_with fail
        refine (numOf g (p + 1) w1.heap.size 6 6 drNums _ (by exact rd_alloc HR1.out _) (by omega) (by exact Blk.alloc_ _ _ (ints drNums)) (by unfold Hid; omega) rfl (by omega) (by omega)).mono ?_
        rintro e w3 ⟨v3, p', rfl, ⟨m, hm, rfl⟩, hp1, hp2, hR3, hK3⟩
        have HX3 : Hid (Blk w3 w.heap.size 25 zero4) := hK3.blk (HX1.out.alloc _) (by omega)
        have HK3 : Hid (Keep g w w3) := HK1.out.trans ((keep_alloc (Keep.refl _ _) _).trans hK3)
        have RES := Lib.hid (drx_put (K := K0) (M := M0) (p := p) (k := 1) (n := m) (s := ⟨#[]⟩) (A := none) (l := 0) (c := 0) HX3.out HK3.out hR3 (by omega) (by omega) hlt rfl (isEN_leaf _ _ _ _ _ (by unfold maxLen; decide)) (by simp [wgt, wgts]) (cleanE_leaf _ _ _ (by decide)))
        have x0 : (w3).cell? ⟨w.heap.size, 0, none⟩ = some (.int .i64 0) := HX3.out.cell 0
        have x1 : (w3).cell? ⟨w.heap.size, 1, none⟩ = some (.int .i64 0) := HX3.out.cell 1
        have x2 : (w3).cell? ⟨w.heap.size, 2, none⟩ = some (.string ⟨#[]⟩) := HX3.out.cell 2
        have x3 : (w3).cell? ⟨w.heap.size, 3, none⟩ = some (.slice none 0 0) := HX3.out.cell 3
        have y0 := HX3.out.frozen 0
        have y1 := HX3.out.frozen 1
        have y2 := HX3.out.frozen 2
        have y3 := HX3.out.frozen 3
        have B1 := HX3.out.put 0 (.int .i64 1)
        have B2 := B1.put 1 (.int .i64 m)
        have B3 := B2.put 2 (.string ⟨#[]⟩)
        have B4 := B3.put 3 (.slice none 0 0)
        have q0 := B1.cell 0
        have q1 := B2.cell 1
        have q2 := B3.cell 2
        have q3 := B4.cell 3
        simp only [zero4, List.set_cons_zero, List.set_cons_succ, List.getElem?_cons_zero, List.getElem?_cons_succ] at q0 q1 q2 q3
        clear B1 B2 B3 B4
        clear hm hp1 hp2 hR3 hK3 HK3
        go_wp2_with fail
        refine bodyPost_ret (v := .agg #[.int .i64 1, .int .i64 m, .string ⟨#[]⟩, .slice none 0 0]) (by simp [results, Tryd.results99, go_sem, q0, q1, q2, q3]) rfl ?_
        exact RES.out
      · have hrb : ((r : Int) == 0) = false := by rw [beq_eq_false_iff_ne]; omega
        clear hr
        go_wp2_with fail
        refine (strOf g (p + 1) w1.heap.size 4 4 drNames _ (by exact rd_alloc HR1.out _) (by omega) (by exact Blk.alloc_ _ _ (strV drNames)) (by unfold Hid; omega) rfl (by omega) (by omega)).mono ?_
        rintro e w3 ⟨v3, p', rfl, ⟨m, hm, rfl⟩, hp1, hp2, hR3, hK3⟩
        have HX3 : Hid (Blk w3 w.heap.size 25 zero4) := hK3.blk (HX1.out.alloc _) (by omega)
        have HK3 : Hid (Keep g w w3) := HK1.out.trans ((keep_alloc (Keep.refl _ _) _).trans hK3)
        have hm1 := drNames_le m hm
        have RES := Lib.hid (drx_put (K := K0) (M := M0) (p := p) (k := 2) (n := 0) (s := ⟨m.toArray⟩) (A := none) (l := 0) (c := 0) HX3.out HK3.out hR3 (by omega) (by omega) hlt rfl (isEN_leaf _ _ _ _ _ (by rw [size_mk]; unfold maxLen; omega)) (by simp [wgt, wgts]; omega) (cleanE_leaf _ _ _ (by simpa using hm1.2)))
        have x0 : (w3).cell? ⟨w.heap.size, 0, none⟩ = some (.int .i64 0) := HX3.out.cell 0
        have x1 : (w3).cell? ⟨w.heap.size, 1, none⟩ = some (.int .i64 0) := HX3.out.cell 1
        have x2 : (w3).cell? ⟨w.heap.size, 2, none⟩ = some (.string ⟨#[]⟩) := HX3.out.cell 2
        have x3 : (w3).cell? ⟨w.heap.size, 3, none⟩ = some (.slice none 0 0) := HX3.out.cell 3
        have y0 := HX3.out.frozen 0
        have y1 := HX3.out.frozen 1
        have y2 := HX3.out.frozen 2
        have y3 := HX3.out.frozen 3
        have B1 := HX3.out.put 0 (.int .i64 2)
        have B2 := B1.put 1 (.int .i64 0)
        have B3 := B2.put 2 (.string ⟨m.toArray⟩)
        have B4 := B3.put 3 (.slice none 0 0)
        have q0 := B1.cell 0
        have q1 := B2.cell 1
        have q2 := B3.cell 2
        have q3 := B4.cell 3
        simp only [zero4, List.set_cons_zero, List.set_cons_succ, List.getElem?_cons_zero, List.getElem?_cons_succ] at q0 q1 q2 q3
        clear B1 B2 B3 B4
        clear hm hp1 hp2 hR3 hK3 HK3 hm1
        go_wp2_with fail
        refine bodyPost_ret (v := .agg #[.int .i64 2, .int .i64 0, .string ⟨m.toArray⟩, .slice none 0 0]) (by simp [results, Tryd.results99, go_sem, q0, q1, q2, q3]) rfl ?_
        exact RES.out
    · have hD1 : ¬ D ≤ 1 := by omega
      have hD2 : 1 < D := by omega
      have hD3 : D ≤ 11 := by omega
      have HD : Hid (D - 1 = (d : Int)) := by unfold Hid; omega
      have hD1b : decide (D ≤ 1) = false := decide_eq_false hD1
      clear hD hD1
      go_enter Tryd.func99, Tryd.ntmps99
      go_wp2_with fail
      refine (pick g p 4 _ HRL.out (by omega) (by omega) (by omega)).mono ?_
      rintro e w0 ⟨r0, rfl, hr0, hr1, hR, hK, hs⟩
      have HX0 : Hid (Blk w0 w.heap.size 25 zero4) := hK.blk HXL.out (by omega)
      have HR0 := Lib.hid hR
      have HK0 : Hid (Keep g w w0) := HKL.out.trans hK
      clear hr0 hr1 hs hR hK HXL HRL HKL
      by_cases hr : r0 = 0
      · subst hr
        have HXL := HX0
        have HRL := HR0
        have HKL := HK0
        clear HX0 HR0 HK0
        go_wp2_with fail
        refine (pick g (p + 1) 2 _ HRL.out (by omega) (by omega) (by omega)).mono ?_
        rintro e w1 ⟨r, rfl, hr0, hr1, hR, hK, hs⟩
        have HX1 : Hid (Blk w1 w.heap.size 25 zero4) := hK.blk HXL.out (by omega)
        have HR1 := Lib.hid hR
        have HK1 : Hid (Keep g w w1) := HKL.out.trans hK
        have hl1 : g < w1.heap.size := hR.lt
        have hl2 : w.heap.size < w1.heap.size := HX1.out.lt
        clear hr0 hr1 hs hR hK
        by_cases hr : r = 0
        · subst hr
          go_wp2_with fail
          refine (numOf g (p + 1 + 1) w1.heap.size 6 6 drNums _ (by exact rd_alloc HR1.out _) (by omega) (by exact Blk.alloc_ _ _ (ints drNums)) (by unfold Hid; omega) rfl (by omega) (by omega)).mono ?_
          rintro e w3 ⟨v3, p', rfl, ⟨m, hm, rfl⟩, hp1, hp2, hR3, hK3⟩
          have HX3 : Hid (Blk w3 w.heap.size 25 zero4) := hK3.blk (HX1.out.alloc _) (by omega)
          have HK3 : Hid (Keep g w w3) := HK1.out.trans ((keep_alloc (Keep.refl _ _) _).trans hK3)
          have RES := Lib.hid (drx_put (K := K0) (M := M0) (p := p) (k := 1) (n := m) (s := ⟨#[]⟩) (A := none) (l := 0) (c := 0) HX3.out HK3.out hR3 (by omega) (by omega) hlt rfl (isEN_leaf _ _ _ _ _ (by unfold maxLen; decide)) (by simp [wgt, wgts]) (cleanE_leaf _ _ _ (by decide)))
          have x0 : (w3).cell? ⟨w.heap.size, 0, none⟩ = some (.int .i64 0) := HX3.out.cell 0
          have x1 : (w3).cell? ⟨w.heap.size, 1, none⟩ = some (.int .i64 0) := HX3.out.cell 1
          have x2 : (w3).cell? ⟨w.heap.size, 2, none⟩ = some (.string ⟨#[]⟩) := HX3.out.cell 2
          have x3 : (w3).cell? ⟨w.heap.size, 3, none⟩ = some (.slice none 0 0) := HX3.out.cell 3
          have y0 := HX3.out.frozen 0
          have y1 := HX3.out.frozen 1
          have y2 := HX3.out.frozen 2
          have y3 := HX3.out.frozen 3
          have B1 := HX3.out.put 0 (.int .i64 1)
          have B2 := B1.put 1 (.int .i64 m)
          have B3 := B2.put 2 (.string ⟨#[]⟩)
          have B4 := B3.put 3 (.slice none 0 0)
          have q0 := B1.cell 0
          have q1 := B2.cell 1
          have q2 := B3.cell 2
          have q3 := B4.cell 3
          simp only [zero4, List.set_cons_zero, List.set_cons_succ, List.getElem?_cons_zero, List.getElem?_cons_succ] at q0 q1 q2 q3
          clear B1 B2 B3 B4
          clear hm hp1 hp2 hR3 hK3 HK3
          go_wp2_with fail
          refine bodyPost_ret (v := .agg #[.int .i64 1, .int .i64 m, .string ⟨#[]⟩, .slice none 0 0]) (by simp [results, Tryd.results99, go_sem, q0, q1, q2, q3]) rfl ?_
          exact RES.out
        · have hrb : ((r : Int) == 0) = false := by rw [beq_eq_false_iff_ne]; omega
          clear hr
          go_wp2_with fail
          refine (strOf g (p + 1 + 1) w1.heap.size 4 4 drNames _ (by exact rd_alloc HR1.out _) (by omega) (by exact Blk.alloc_ _ _ (strV drNames)) (by unfold Hid; omega) rfl (by omega) (by omega)).mono ?_
          rintro e w3 ⟨v3, p', rfl, ⟨m, hm, rfl⟩, hp1, hp2, hR3, hK3⟩
          have HX3 : Hid (Blk w3 w.heap.size 25 zero4) := hK3.blk (HX1.out.alloc _) (by omega)
          have HK3 : Hid (Keep g w w3) := HK1.out.trans ((keep_alloc (Keep.refl _ _) _).trans hK3)
          have hm1 := drNames_le m hm
          have RES := Lib.hid (drx_put (K := K0) (M := M0) (p := p) (k := 2) (n := 0) (s := ⟨m.toArray⟩) (A := none) (l := 0) (c := 0) HX3.out HK3.out hR3 (by omega) (by omega) hlt rfl (isEN_leaf _ _ _ _ _ (by rw [size_mk]; unfold maxLen; omega)) (by simp [wgt, wgts]; omega) (cleanE_leaf _ _ _ (by simpa using hm1.2)))
          have x0 : (w3).cell? ⟨w.heap.size, 0, none⟩ = some (.int .i64 0) := HX3.out.cell 0
          have x1 : (w3).cell? ⟨w.heap.size, 1, none⟩ = some (.int .i64 0) := HX3.out.cell 1
          have x2 : (w3).cell? ⟨w.heap.size, 2, none⟩ = some (.string ⟨#[]⟩) := HX3.out.cell 2
          have x3 : (w3).cell? ⟨w.heap.size, 3, none⟩ = some (.slice none 0 0) := HX3.out.cell 3
          have y0 := HX3.out.frozen 0
          have y1 := HX3.out.frozen 1
          have y2 := HX3.out.frozen 2
          have y3 := HX3.out.frozen 3
          have B1 := HX3.out.put 0 (.int .i64 2)
          have B2 := B1.put 1 (.int .i64 0)
          have B3 := B2.put 2 (.string ⟨m.toArray⟩)
          have B4 := B3.put 3 (.slice none 0 0)
          have q0 := B1.cell 0
          have q1 := B2.cell 1
          have q2 := B3.cell 2
          have q3 := B4.cell 3
          simp only [zero4, List.set_cons_zero, List.set_cons_succ, List.getElem?_cons_zero, List.getElem?_cons_succ] at q0 q1 q2 q3
          clear B1 B2 B3 B4
          clear hm hp1 hp2 hR3 hK3 HK3 hm1
          go_wp2_with fail
          refine bodyPost_ret (v := .agg #[.int .i64 2, .int .i64 0, .string ⟨m.toArray⟩, .slice none 0 0]) (by simp [results, Tryd.results99, go_sem, q0, q1, q2, q3]) rfl ?_
          exact RES.out
      · have hrb : ((r0 : Int) == 0) = false := by rw [beq_eq_false_iff_ne]; omega
        clear hr
        go_wp2_with fail
        refine (pick g (p + 1) 4 _ HR0.out (by omega) (by omega) (by omega)).mono ?_
        rintro e w1 ⟨r, rfl, hr0, hr1, hR, hK, hs⟩
        have HX1 : Hid (Blk w1 w.heap.size 25 zero4) := hK.blk HX0.out (by omega)
        have HR1 := Lib.hid hR
        have HK1 : Hid (Keep g w w1) := HK0.out.trans hK
        have hl1 : g < w1.heap.size := hR.lt
        have hl2 : w.heap.size < w1.heap.size := HX1.out.lt
        clear hr0 hr1 hs hR hK hrb HX0 HR0 HK0
        by_cases hr : r = 0
        · subst hr
          go_wp2_with fail
          refine (strOf g (p + 1 + 1) w1.heap.size 3 3 drTypes _ (by exact rd_alloc HR1.out _) (by omega) (by exact Blk.alloc_ _ _ (strV drTypes)) (by unfold Hid; omega) rfl (by omega) (by omega)).mono ?_
          rintro e w2 ⟨v2, p2, rfl, ⟨m, hm, rfl⟩, hp1, hp2, hR2, hK2⟩
          have HX2 : Hid (Blk w2 w.heap.size 25 zero4) := hK2.blk (HX1.out.alloc _) (by omega)
          have HK2 : Hid (Keep g w w2) := HK1.out.trans ((keep_alloc (Keep.refl _ _) _).trans hK2)
          have HR2 := Lib.hid hR2
          have hm1 := drTypes_le m hm
          have hl3 : w.heap.size < w2.heap.size := HX2.out.lt
          clear hm hR2 hK2 HX1 HR1 HK1
          go_wp2_with fail
          refine (IH.out (D - 1) (6 * q - 3) (10 * q - 6) g p2 w2 HR2.out (by omega) (by omega) HD.out (by omega) (by omega)).mono ?_
          rintro e w3 ⟨xk, xn, xs, xA, xl, xc, x, p3, rfl, hx, hxw, hxc, hp3, hp4, hR3, hK3⟩
          have HXa : Blk w3 w.heap.size 25 zero4 := hK3.blk HX2.out (by omega)
          have hKa : Keep g w w3 := HK2.out.trans hK3
          have hba : Below w3.heap.size w3 (w3.alloc (.cells #[.int .i64 xk, .int .i64 xn, .string xs, .slice xA xl xc] 25)) := (Below.refl _ _).alloc (Nat.le_refl _) _
          have hl4 : w.heap.size < w3.heap.size := HXa.lt
          have HX3 := Lib.hid HXa
          have RES := Lib.hid (drx_put (K := K0) (M := M0) (p := p) (k := 4) (n := 0) (s := ⟨m.toArray⟩) (HX3.out.alloc _) (keep_alloc hKa _) (rd_alloc hR3 _) (by omega) (by omega) hlt rfl (isEN_one (B := w.heap.size + 1) (Blk.alloc_ w3 25 [.int .i64 xk, .int .i64 xn, .string xs, .slice xA xl xc]) (by omega) ((hx.down (by omega)).below hba) 4 0 ⟨m.toArray⟩ (by rw [size_mk]; unfold maxLen; omega)) (by simp [wgt, wgts]; omega) (cleanE_one (by simpa using hm1.2) hxc))
          rw [World.setCell_alloc_past _ _ _ _ hl4, World.setCell_alloc_past _ _ _ _ (by simp [World.setCell]; omega), World.setCell_alloc_past _ _ _ _ (by simp [World.setCell]; omega), World.setCell_alloc_past _ _ _ _ (by simp [World.setCell]; omega)] at RES
          have x0 : (w3).cell? ⟨w.heap.size, 0, none⟩ = some (.int .i64 0) := HX3.out.cell 0
          have x1 : (w3).cell? ⟨w.heap.size, 1, none⟩ = some (.int .i64 0) := HX3.out.cell 1
          have x2 : (w3).cell? ⟨w.heap.size, 2, none⟩ = some (.string ⟨#[]⟩) := HX3.out.cell 2
          have x3 : (w3).cell? ⟨w.heap.size, 3, none⟩ = some (.slice none 0 0) := HX3.out.cell 3
          have y0 := HX3.out.frozen 0
          have y1 := HX3.out.frozen 1
          have y2 := HX3.out.frozen 2
          have y3 := HX3.out.frozen 3
          have B1 := HX3.out.put 0 (.int .i64 4)
          have B2 := B1.put 1 (.int .i64 0)
          have B3 := B2.put 2 (.string ⟨m.toArray⟩)
          have B4 := B3.put 3 (.slice (some ⟨w3.heap.size, 0, none⟩) 1 1)
          have B5 := B4.alloc (.cells #[.int .i64 xk, .int .i64 xn, .string xs, .slice xA xl xc] 25)
          have q0 := B5.cell 0
          have q1 := B5.cell 1
          have q2 := B5.cell 2
          have q3 := B5.cell 3
          simp only [zero4, List.set_cons_zero, List.set_cons_succ, List.getElem?_cons_zero, List.getElem?_cons_succ] at q0 q1 q2 q3
          clear B1 B2 B3 B4 B5
          clear hx hxw hxc hp1 hp2 hp3 hp4 hR3 hK3 HXa hKa hba HX2 HK2 HR2 hm1 HX3
          go_wp2_with fail
          refine bodyPost_ret (v := .agg #[.int .i64 4, .int .i64 0, .string ⟨m.toArray⟩, .slice (some ⟨w3.heap.size, 0, none⟩) 1 1]) (by simp [results, Tryd.results99, go_sem, q0, q1, q2, q3]) rfl ?_
          exact RES.out
        · have hrb : ((r : Int) == 0) = false := by rw [beq_eq_false_iff_ne]; omega
          clear hr
          go_wp2_with fail
          refine (strOf g (p + 1 + 1) w1.heap.size 6 6 drOps _ (by exact rd_alloc HR1.out _) (by omega) (by exact Blk.alloc_ _ _ (strV drOps)) (by unfold Hid; omega) rfl (by omega) (by omega)).mono ?_
          rintro e w2 ⟨v2, p2, rfl, ⟨m, hm, rfl⟩, hp1, hp2, hR2, hK2⟩
          have HX2 : Hid (Blk w2 w.heap.size 25 zero4) := hK2.blk (HX1.out.alloc _) (by omega)
          have HK2 : Hid (Keep g w w2) := HK1.out.trans ((keep_alloc (Keep.refl _ _) _).trans hK2)
          have HR2 := Lib.hid hR2
          have hm1 := drOps_le m hm
          have hl3 : w.heap.size < w2.heap.size := HX2.out.lt
          clear hm hR2 hK2 HX1 HR1 HK1
          go_wp2_with fail
          refine (IH.out (D - 1) (6 * q - 3) (10 * q - 6) g p2 w2 HR2.out (by omega) (by omega) HD.out (by omega) (by omega)).mono ?_
          rintro e w3 ⟨xk, xn, xs, xA, xl, xc, x, p3, rfl, hx, hxw, hxc, hp3, hp4, hR3, hK3⟩
          have HX3 : Hid (Blk w3 w.heap.size 25 zero4) := hK3.blk HX2.out (by omega)
          have HK3 : Hid (Keep g w w3) := HK2.out.trans hK3
          have HR3 := Lib.hid hR3
          have HE3 : Hid (IsEN (w.heap.size + 1) w3 [.int .i64 xk, .int .i64 xn, .string xs, .slice xA xl xc] x) := hx.down (by omega)
          have HC3 := Lib.hid hxc
          have hl4 : w.heap.size < w3.heap.size := HX3.out.lt
          clear hx hxc hR3 hK3 HX2 HK2 HR2
          go_wp2_with fail
          refine (IH.out (D - 1) (6 * q - 3) (10 * q - 6) g p3 w3 HR3.out (by omega) (by omega) HD.out (by omega) (by omega)).mono ?_
          rintro e w4 ⟨yk, yn, ys, yA, yl, yc, y, p4, rfl, hy, hyw, hyc, hp5, hp6, hR4, hK4⟩
          have HXa : Blk w4 w.heap.size 25 zero4 := hK4.blk HX3.out (by omega)
          have hKa : Keep g w w4 := HK3.out.trans hK4
          have hba : Below w4.heap.size w4 (w4.alloc (.cells #[.int .i64 xk, .int .i64 xn, .string xs, .slice xA xl xc, .int .i64 yk, .int .i64 yn, .string ys, .slice yA yl yc] 25)) := (Below.refl _ _).alloc (Nat.le_refl _) _
          have hl5 : w.heap.size < w4.heap.size := HXa.lt
          have HX4 := Lib.hid HXa
          have RES := Lib.hid (drx_put (K := K0) (M := M0) (p := p) (k := 3) (n := 0) (s := ⟨m.toArray⟩) (HX4.out.alloc _) (keep_alloc hKa _) (rd_alloc hR4 _) (by omega) (by omega) hlt rfl (isEN_two (B := w.heap.size + 1) (Blk.alloc_ w4 25 [.int .i64 xk, .int .i64 xn, .string xs, .slice xA xl xc, .int .i64 yk, .int .i64 yn, .string ys, .slice yA yl yc]) (by omega) ((HE3.out.keep hK4 (by omega)).below hba) ((hy.down (by omega)).below hba) 3 0 ⟨m.toArray⟩ (by rw [size_mk]; unfold maxLen; omega)) (by simp [wgt, wgts]; omega) (cleanE_two (by simpa using hm1.2) HC3.out hyc))
          rw [World.setCell_alloc_past _ _ _ _ hl5, World.setCell_alloc_past _ _ _ _ (by simp [World.setCell]; omega), World.setCell_alloc_past _ _ _ _ (by simp [World.setCell]; omega), World.setCell_alloc_past _ _ _ _ (by simp [World.setCell]; omega)] at RES
          have x0 : (w4).cell? ⟨w.heap.size, 0, none⟩ = some (.int .i64 0) := HX4.out.cell 0
          have x1 : (w4).cell? ⟨w.heap.size, 1, none⟩ = some (.int .i64 0) := HX4.out.cell 1
          have x2 : (w4).cell? ⟨w.heap.size, 2, none⟩ = some (.string ⟨#[]⟩) := HX4.out.cell 2
          have x3 : (w4).cell? ⟨w.heap.size, 3, none⟩ = some (.slice none 0 0) := HX4.out.cell 3
          have y0 := HX4.out.frozen 0
          have y1 := HX4.out.frozen 1
          have y2 := HX4.out.frozen 2
          have y3 := HX4.out.frozen 3
          have B1 := HX4.out.put 0 (.int .i64 3)
          have B2 := B1.put 1 (.int .i64 0)
          have B3 := B2.put 2 (.string ⟨m.toArray⟩)
          have B4 := B3.put 3 (.slice (some ⟨w4.heap.size, 0, none⟩) 2 2)
          have B5 := B4.alloc (.cells #[.int .i64 xk, .int .i64 xn, .string xs, .slice xA xl xc, .int .i64 yk, .int .i64 yn, .string ys, .slice yA yl yc] 25)
          have q0 := B5.cell 0
          have q1 := B5.cell 1
          have q2 := B5.cell 2
          have q3 := B5.cell 3
          simp only [zero4, List.set_cons_zero, List.set_cons_succ, List.getElem?_cons_zero, List.getElem?_cons_succ] at q0 q1 q2 q3
          clear B1 B2 B3 B4 B5
          clear hy hyw hyc hxw hp1 hp2 hp3 hp4 hp5 hp6 hR4 hK4 HXa hKa hba HX3 HK3 HR3 hm1 HX4 HE3 HC3
          go_wp2_with fail
          refine bodyPost_ret (v := .agg #[.int .i64 3, .int .i64 0, .string ⟨m.toArray⟩, .slice (some ⟨w4.heap.size, 0, none⟩) 2 2]) (by simp [results, Tryd.results99, go_sem, q0, q1, q2, q3]) rfl ?_
          exact RES.out
end Go.Proofs.YtfjmjlpobbjjdaaDoor

namespace Go.Proofs.YtfjmjlpobbjjdaaDoor
open Go.RowKit Ilp
set_option linter.unusedVariables false

set_option maxHeartbeats 4000000 in
set_option maxRecDepth 20000 in
theorem l4Some (g p : Nat) (w : World) (h : Rd w g p) (hp : p ≤ 10000) :
    Calls Tryd.prog 73 #[.pointer (some ⟨g, 0, none⟩)] w (DrX g p 300 200 w.heap.size w) := by
  have hlt := h.lt
  have HXL := Lib.hid (Blk.alloc_ w 25 zero4)
  have HRL := Lib.hid (rd_alloc h (.cells zero4.toArray 25))
  have HKL := Lib.hid (keep_alloc (Keep.refl g w) (.cells zero4.toArray 25))
  clear h
  go_enter Tryd.func73, Tryd.ntmps73
  go_wp2_with fail
  refine (pick g p 4 _ HRL.out (by omega) (by omega) (by omega)).mono ?_
  rintro e w0 ⟨r0, rfl, hr0, hr1, hR, hK, hs⟩
  have HX0 : Hid (Blk w0 w.heap.size 25 zero4) := hK.blk HXL.out (by omega)
  have HR0 := Lib.hid hR
  have HK0 : Hid (Keep g w w0) := HKL.out.trans hK
  have hr2 : r0 ≤ 3 := by have := hr1 (by omega); omega
  have hpw : 2 ^ (1 + r0) ≤ 16 := by
    have : 2 ^ (1 + r0) ≤ 2 ^ 4 := Nat.pow_le_pow_right (by omega) (by omega)
    omega
  have HE1 := Lib.hid (l4Expr (1 + r0) (1 + (r0 : Int)) 100 160 g (p + 1) w0 hR (by omega) (by omega) (by omega) (by omega) (by omega))
  have hl2 : w.heap.size < w0.heap.size := HX0.out.lt
  clear hr0 hr1 hs hR hK HXL HRL HKL hpw
  go_wp2_with fail
  refine HE1.out.mono ?_
  rintro e w1 ⟨xk, xn, xs, xA, xl, xc, x, p1, rfl, hx, hxw, hxc, hp1, hp2, hR1, hK1⟩
  have hba : Below w1.heap.size w1 (w1.alloc (.cells #[.int .i64 xk, .int .i64 xn, .string xs, .slice xA xl xc] 25)) := (Below.refl _ _).alloc (Nat.le_refl _) _
  have HX1 : Hid (Blk (w1.alloc (.cells #[.int .i64 xk, .int .i64 xn, .string xs, .slice xA xl xc] 25)) w.heap.size 25 zero4) := (hK1.blk HX0.out (by omega)).alloc _
  have HR1 := Lib.hid (rd_alloc hR1 (.cells #[.int .i64 xk, .int .i64 xn, .string xs, .slice xA xl xc] 25))
  have HK1 := Lib.hid (keep_alloc (HK0.out.trans hK1) (.cells #[.int .i64 xk, .int .i64 xn, .string xs, .slice xA xl xc] 25))
  have HE : Hid (IsEN (w.heap.size + 1) _ [.int .i64 xk, .int .i64 xn, .string xs, .slice xA xl xc] x) := (hx.down (by omega)).below hba
  have HY1 := Lib.hid (Blk.alloc_ w1 25 [.int .i64 xk, .int .i64 xn, .string xs, .slice xA xl xc])
  have HC := Lib.hid hxc
  have HW := Lib.hid hxw
  have hl3 : w.heap.size < w1.heap.size := (hK1.blk HX0.out (by omega)).lt
  clear hx hxw hxc hR1 hK1 hba HX0 HR0 HK0 HE1
  go_upto_region 2 with (fail)
  change Hid (Blk (w1.alloc (.cells #[.int .i64 xk, .int .i64 xn, .string xs, .slice xA xl xc] 25)) w1.heap.size 25 [.int .i64 xk, .int .i64 xn, .string xs, .slice xA xl xc]) at HY1
  generalize w1.alloc (.cells #[.int .i64 xk, .int .i64 xn, .string xs, .slice xA xl xc] 25) = w2 at *
  generalize w1.heap.size = y at *
  obtain ⟨a0, a1, a2, a3⟩ := blkE_cells HY1.out
  go_wp2_with fail
  refine (specExprOk xk xn xs xA xl xc x w2 HE.out.ev (by have := HW.out; omega)).mono ?_
  rintro e w3 ⟨rfl, hb3⟩
  have HX3 := Lib.hid (HX1.out.below hb3 HX1.out.lt)
  have HR3 := Lib.hid (HR1.out.keep hb3)
  have HK3 : Hid (Keep g w w3) := HK1.out.trans (Keep.of hb3)
  have HY3 := Lib.hid (HY1.out.below hb3 HY1.out.lt)
  have HE3 := Lib.hid (HE.out.below hb3)
  clear hb3 a0 a1 a2 a3 HX1 HR1 HK1 HY1 HE
  cases exprOk x with
  | true =>
    obtain ⟨a0, a1, a2, a3⟩ := blkE_cells HY3.out
    have RES := Lib.hid (drx_put (K := 300) (M := 200) (p := p) HX3.out HK3.out HR3.out (by omega) (by omega) hlt rfl HE3.out (by have := HW.out; omega) HC.out)
    have x0 : w3.cell? ⟨w.heap.size, 0, none⟩ = some (.int .i64 0) := HX3.out.cell 0
    have x1 : w3.cell? ⟨w.heap.size, 1, none⟩ = some (.int .i64 0) := HX3.out.cell 1
    have x2 : w3.cell? ⟨w.heap.size, 2, none⟩ = some (.string ⟨#[]⟩) := HX3.out.cell 2
    have x3 : w3.cell? ⟨w.heap.size, 3, none⟩ = some (.slice none 0 0) := HX3.out.cell 3
    have y0 := HX3.out.frozen 0
    have y1 := HX3.out.frozen 1
    have y2 := HX3.out.frozen 2
    have y3 := HX3.out.frozen 3
    have B1 := HX3.out.put 0 (.int .i64 xk)
    have B2 := B1.put 1 (.int .i64 xn)
    have B3 := B2.put 2 (.string xs)
    have B4 := B3.put 3 (.slice xA xl xc)
    have q0 := B1.cell 0
    have q1 := B2.cell 1
    have q2 := B3.cell 2
    have q3 := B4.cell 3
    simp only [zero4, List.set_cons_zero, List.set_cons_succ, List.getElem?_cons_zero, List.getElem?_cons_succ] at q0 q1 q2 q3
    clear B1 B2 B3 B4
    clear HX3 HK3 HR3 HE3 HY3
    go_wp2_with fail
    refine bodyPost_ret (v := .agg #[.int .i64 xk, .int .i64 xn, .string xs, .slice xA xl xc]) (by simp [results, Tryd.results73, go_sem, q0, q1, q2, q3]) rfl ?_
    exact RES.out
  | false =>
    have HE4 := Lib.hid (l4Expr 2 2 100 160 g p1 w3 HR3.out (by omega) (by omega) (by omega) (by omega) (by omega))
    have hl5 : w.heap.size < w3.heap.size := HX3.out.lt
    clear HE3 HY3
    go_wp2_with fail
    refine HE4.out.mono ?_
    rintro e w4 ⟨zk, zn, zs, zA, zl, zc, z, p2, rfl, hz, hzw, hzc, hp3, hp4, hR4, hK4⟩
    have HX4 : Hid (Blk w4 w.heap.size 25 zero4) := hK4.blk HX3.out (by omega)
    have RES := Lib.hid (drx_put (K := 300) (M := 200) (p := p) HX4.out (HK3.out.trans hK4) hR4 (by omega) (by omega) hlt rfl (hz.down (by omega)) (by omega) hzc)
    have x0 : w4.cell? ⟨w.heap.size, 0, none⟩ = some (.int .i64 0) := HX4.out.cell 0
    have x1 : w4.cell? ⟨w.heap.size, 1, none⟩ = some (.int .i64 0) := HX4.out.cell 1
    have x2 : w4.cell? ⟨w.heap.size, 2, none⟩ = some (.string ⟨#[]⟩) := HX4.out.cell 2
    have x3 : w4.cell? ⟨w.heap.size, 3, none⟩ = some (.slice none 0 0) := HX4.out.cell 3
    have y0 := HX4.out.frozen 0
    have y1 := HX4.out.frozen 1
    have y2 := HX4.out.frozen 2
    have y3 := HX4.out.frozen 3
    have B1 := HX4.out.put 0 (.int .i64 zk)
    have B2 := B1.put 1 (.int .i64 zn)
    have B3 := B2.put 2 (.string zs)
    have B4 := B3.put 3 (.slice zA zl zc)
    have q0 := B1.cell 0
    have q1 := B2.cell 1
    have q2 := B3.cell 2
    have q3 := B4.cell 3
    simp only [zero4, List.set_cons_zero, List.set_cons_succ, List.getElem?_cons_zero, List.getElem?_cons_succ] at q0 q1 q2 q3
    clear B1 B2 B3 B4
    clear hz hzw hzc hp3 hp4 hR4 hK4 HX4 HE4 HX3 HK3 HR3
    go_wp2_with fail
    refine bodyPost_ret (v := .agg #[.int .i64 zk, .int .i64 zn, .string zs, .slice zA zl zc]) (by simp [results, Tryd.results73, go_sem, q0, q1, q2, q3]) rfl ?_
    exact RES.out
end Go.Proofs.YtfjmjlpobbjjdaaDoor

namespace Go.Proofs.YtfjmjlpobbjjdaaDoor
open Go.RowKit Ilp
set_option linter.unusedVariables false

/-- These cells are this; its parts lie in blocks from B on, none of them in block Y. -/
def IsEY (B Y : Nat) (W : World) (cs : List Value) (t : Ex) : Prop := ∃ d, ExAt W (fun b => (B ≤ b ∧ b < W.heap.size) ∧ b ≠ Y) d cs t
section
variable {B Y : Nat} {W W' : World} {cs : List Value} {t : Ex}
theorem IsEY.en (h : IsEY B Y W cs t) : IsEN B W cs t := by
  obtain ⟨d, h⟩ := h
  exact ⟨d, h.keep (fun _ _ => rfl) (fun _ hb => hb.1)⟩
theorem IsEN.ey (h : IsEN B W cs t) (hk : Below W.heap.size W W') (hY : Y = W.heap.size) : IsEY B Y W' cs t := by
  obtain ⟨d, h⟩ := h
  exact ⟨d, h.keep (fun p hp => hk.cell hp.2) (fun b hb => ⟨⟨hb.1, Nat.lt_of_lt_of_le hb.2 hk.size⟩, by have := hb.2; omega⟩)⟩
theorem IsEY.keep {g : Nat} (h : IsEY B Y W cs t) (hk : Keep g W W') (hg : g < B ∨ g = Y) : IsEY B Y W' cs t := by
  obtain ⟨d, h⟩ := h
  exact ⟨d, h.keep (fun p hp => hk.cell hp.1.2 (by have := hp.1.1; have := hp.2; omega)) (fun b hb => ⟨⟨hb.1.1, Nat.lt_of_lt_of_le hb.1.2 hk.size⟩, hb.2⟩)⟩
theorem IsEY.below (h : IsEY B Y W cs t) (hk : Below W.heap.size W W') : IsEY B Y W' cs t := by
  obtain ⟨d, h⟩ := h
  exact ⟨d, h.keep (fun p hp => hk.cell hp.1.2) (fun b hb => ⟨⟨hb.1.1, Nat.lt_of_lt_of_le hb.1.2 hk.size⟩, hb.2⟩)⟩
end
theorem isEY_one {B Y b : Nat} {W : World} {T : TypeId} {v0 v1 v2 v3 : Value} {x : Ex} (hb : Blk W b T [v0, v1, v2, v3]) (hB : B ≤ b) (hY : b ≠ Y) (hx : IsEY B Y W [v0, v1, v2, v3] x) (k n : Int) (s : ByteArray) (hs : s.size ≤ maxLen) :
    IsEY B Y W [.int .i64 k, .int .i64 n, .string s, .slice (some ⟨b, 0, none⟩) 1 1] (.mk k n s.data.toList [x]) := by
  obtain ⟨d, hx⟩ := hx
  refine ⟨d + 1, some ⟨b, 0, none⟩, 1, exC_mk k n s [x] _ 1 1 rfl, by simp [Ex.kids], by unfold maxLen; omega, hs, ?_⟩
  intro i y hy
  cases i with
  | zero =>
    simp only [Ex.kids, List.getElem?_cons_zero, Option.some.injEq] at hy; subst hy
    refine ⟨b, 0, _, rfl, ⟨⟨hB, hb.lt⟩, hY⟩, hx, fun j v hv => ?_⟩
    rw [show 0 + 0 * 4 + j = j by omega, hb.cell]; exact hv
  | succ i => simp [Ex.kids] at hy
/-- One of its cells turned. -/
theorem IsEY.bend {B Y : Nat} {W : World} {k n : Int} {s : ByteArray} {A : Option Addr} {l c : Nat} {t : Ex} (h : IsEY B Y W [.int .i64 k, .int .i64 n, .string s, .slice A l c] t) (k' n' : Int) (s' : ByteArray) (hs : s'.size ≤ maxLen) :
    IsEY B Y W [.int .i64 k', .int .i64 n', .string s', .slice A l c] (.mk k' n' s'.data.toList t.kids) := by
  obtain ⟨d, h⟩ := h
  cases d with
  | zero => exact h.elim
  | succ d =>
    obtain ⟨A', c', e, h1, h2, h3, hk⟩ := h
    simp only [exC, List.cons.injEq, Value.int.injEq, Value.string.injEq, Value.slice.injEq, true_and, and_true] at e
    obtain ⟨_, _, _, rfl, rfl, rfl⟩ := e
    exact ⟨d + 1, A, c, exC_mk k' n' s' t.kids A _ c rfl, h1, h2, hs, hk⟩
theorem cleanE_bend {t : Ex} (h : CleanE t) (k n : Int) {s : List UInt8} (hs : s ≠ [117, 110, 117, 115, 101, 100]) : CleanE (.mk k n s t.kids) := fun d => by
  cases d with
  | zero => rfl
  | succ d =>
    have := h (d + 1)
    obtain ⟨k0, n0, s0, ks⟩ := t
    simp only [clean, Bool.and_eq_true] at this ⊢
    exact ⟨by simp [hs], this.2⟩
theorem wgt_bend (t : Ex) (k n : Int) (s : List UInt8) : wgt (.mk k n s t.kids) ≤ wgt t + s.length := by
  rw [wgt_eq t]; simp [wgt]; omega
theorem IsEY.text {B Y : Nat} {W : World} {k n : Int} {s : ByteArray} {A : Option Addr} {l c : Nat} {t : Ex} (h : IsEY B Y W [.int .i64 k, .int .i64 n, .string s, .slice A l c] t) : s.data.toList = t.txt ∧ s.size ≤ maxLen := by
  obtain ⟨q1, q2, q3, q4, h5, h6, h7, _⟩ := h.en.ev.parts
  subst q3
  exact ⟨mkB_data _, by rw [mkB_size]; exact h7⟩
theorem cleanE_txt {t : Ex} (h : CleanE t) : t.txt ≠ [117, 110, 117, 115, 101, 100] := by
  have := h 1
  obtain ⟨k0, n0, s0, ks⟩ := t
  simp only [clean, Bool.and_eq_true, Bool.not_eq_true', beq_eq_false_iff_ne, ne_eq] at this
  exact this.1

/-- While one is bent: the box of the result, the box of it, the reader. -/
structure BentS (w : World) (g p : Nat) (Y : Nat) (M : Nat) (k n : Int) (s : ByteArray) (A : Option Addr) (l c : Nat) (t : Ex) (p' : Nat) (W : World) : Prop where
  bx : Blk W w.heap.size 25 zero4
  by_ : Blk W Y 25 [.int .i64 k, .int .i64 n, .string s, .slice A l c]
  ie : IsEY (w.heap.size + 1) Y W [.int .i64 k, .int .i64 n, .string s, .slice A l c] t
  wg : wgt t ≤ M
  cl : CleanE t
  rd : Rd W g p'
  kp : Keep g w W
  hp : p ≤ p'
  hq : p' ≤ p + 400
  yy : w.heap.size < Y
section
variable {w : World} {g p Y M : Nat} {k n : Int} {s : ByteArray} {A : Option Addr} {l c : Nat} {t : Ex} {p' : Nat} {W : World}
/-- One cell of it turned. -/
theorem BentS.put0 (h : BentS w g p Y M k n s A l c t p' W) (hg : g < w.heap.size) (k' : Int) : BentS w g p Y (M + M) k' n s A l c (.mk k' n s.data.toList t.kids) p' (W.setCell ⟨Y, 0, none⟩ (.int .i64 k')) := by
  have hk : Keep Y W (W.setCell ⟨Y, 0, none⟩ (.int .i64 k')) := (Keep.refl _ _).set 0 _
  have ht := h.ie.text
  have hyy := h.yy
  refine ⟨h.bx.far (by show w.heap.size ≠ Y; omega) _, h.by_.put 0 _, (h.ie.keep hk (.inr rfl)).bend k' n s ht.2, ?_, cleanE_bend h.cl k' n (by rw [ht.1]; exact cleanE_txt h.cl), rd_far h.rd (by omega) 0 _, ?_, h.hp, h.hq, hyy⟩
  · have h1 := wgt_bend t k' n s.data.toList
    have h2 := h.wg
    have h3 := wgt_eq t
    rw [ht.1] at h1 ⊢
    omega
  · exact ⟨hk.os.trans h.kp.os, hk.tape.trans h.kp.tape, hk.output.trans h.kp.output, Nat.le_trans h.kp.size hk.size, fun i hi ha => (hk.block i (Nat.lt_of_lt_of_le hi h.kp.size) (by omega)).trans (h.kp.block i hi ha)⟩
theorem BentS.put1 (h : BentS w g p Y M k n s A l c t p' W) (hg : g < w.heap.size) (n' : Int) : BentS w g p Y (M + M) k n' s A l c (.mk k n' s.data.toList t.kids) p' (W.setCell ⟨Y, 1, none⟩ (.int .i64 n')) := by
  have hk : Keep Y W (W.setCell ⟨Y, 1, none⟩ (.int .i64 n')) := (Keep.refl _ _).set 1 _
  have ht := h.ie.text
  have hyy := h.yy
  refine ⟨h.bx.far (by show w.heap.size ≠ Y; omega) _, h.by_.put 1 _, (h.ie.keep hk (.inr rfl)).bend k n' s ht.2, ?_, cleanE_bend h.cl k n' (by rw [ht.1]; exact cleanE_txt h.cl), rd_far h.rd (by omega) 1 _, ?_, h.hp, h.hq, hyy⟩
  · have h1 := wgt_bend t k n' s.data.toList
    have h2 := h.wg
    have h3 := wgt_eq t
    rw [ht.1] at h1 ⊢
    omega
  · exact ⟨hk.os.trans h.kp.os, hk.tape.trans h.kp.tape, hk.output.trans h.kp.output, Nat.le_trans h.kp.size hk.size, fun i hi ha => (hk.block i (Nat.lt_of_lt_of_le hi h.kp.size) (by omega)).trans (h.kp.block i hi ha)⟩
theorem BentS.put2 (h : BentS w g p Y M k n s A l c t p' W) (hg : g < w.heap.size) (s' : ByteArray) (hs : s'.size ≤ 10) (hs2 : s'.data.toList ≠ [117, 110, 117, 115, 101, 100]) : BentS w g p Y (M + 10) k n s' A l c (.mk k n s'.data.toList t.kids) p' (W.setCell ⟨Y, 2, none⟩ (.string s')) := by
  have hk : Keep Y W (W.setCell ⟨Y, 2, none⟩ (.string s')) := (Keep.refl _ _).set 2 _
  have hyy := h.yy
  refine ⟨h.bx.far (by show w.heap.size ≠ Y; omega) _, h.by_.put 2 _, (h.ie.keep hk (.inr rfl)).bend k n s' (by unfold maxLen; omega), ?_, cleanE_bend h.cl k n hs2, rd_far h.rd (by omega) 2 _, ?_, h.hp, h.hq, hyy⟩
  · have h1 := wgt_bend t k n s'.data.toList
    have h2 := h.wg
    have h3 : s'.data.toList.length = s'.size := Array.length_toList
    omega
  · exact ⟨hk.os.trans h.kp.os, hk.tape.trans h.kp.tape, hk.output.trans h.kp.output, Nat.le_trans h.kp.size hk.size, fun i hi ha => (hk.block i (Nat.lt_of_lt_of_le hi h.kp.size) (by omega)).trans (h.kp.block i hi ha)⟩
/-- One more cast about it. -/
theorem BentS.wrap (h : BentS w g p Y M k n s A l c t p' W) (hg : g < w.heap.size) : BentS w g p Y (M + 4) 4 0 ⟨#[105, 110, 116]⟩ (some ⟨W.heap.size, 0, none⟩) 1 1 (.mk 4 0 [105, 110, 116] [t]) p'
    (((((W.setCell ⟨Y, 0, none⟩ (.int .i64 4)).setCell ⟨Y, 1, none⟩ (.int .i64 0)).setCell ⟨Y, 2, none⟩ (.string ⟨#[105, 110, 116]⟩)).setCell ⟨Y, 3, none⟩ (.slice (some ⟨W.heap.size, 0, none⟩) 1 1)).alloc (.cells #[.int .i64 k, .int .i64 n, .string s, .slice A l c] 25)) := by
  have hyl := h.by_.lt
  have hyy := h.yy
  obtain ⟨V, hV⟩ : ∃ V, V = ((((W.setCell ⟨Y, 0, none⟩ (.int .i64 4)).setCell ⟨Y, 1, none⟩ (.int .i64 0)).setCell ⟨Y, 2, none⟩ (.string ⟨#[105, 110, 116]⟩)).setCell ⟨Y, 3, none⟩ (.slice (some ⟨W.heap.size, 0, none⟩) 1 1)) := ⟨_, rfl⟩
  have hk : Keep Y W V := by rw [hV]; exact ((((Keep.refl _ _).set 0 _).set 1 _).set 2 _).set 3 _
  have hbY : Blk V Y 25 [.int .i64 4, .int .i64 0, .string ⟨#[105, 110, 116]⟩, .slice (some ⟨W.heap.size, 0, none⟩) 1 1] := by
    rw [hV]; exact (((h.by_.put 0 _).put 1 _).put 2 _).put 3 _
  have hsz : V.heap.size = W.heap.size := by rw [hV]; simp [World.setCell]
  have hbX : Blk V w.heap.size 25 zero4 := hk.blk h.bx (by omega)
  have hR : Rd V g p' := by rw [hV]; exact rd_far (rd_far (rd_far (rd_far h.rd (by omega) 0 _) (by omega) 1 _) (by omega) 2 _) (by omega) 3 _
  rw [← hV, ← hsz]
  rw [← hsz] at hbY
  clear hV
  have hba : Below V.heap.size V (V.alloc (.cells #[.int .i64 k, .int .i64 n, .string s, .slice A l c] 25)) := (Below.refl _ _).alloc (Nat.le_refl _) _
  have hwl : w.heap.size < V.heap.size := hbX.lt
  refine ⟨hbX.alloc _, hbY.alloc _, ?_, ?_, ?_, rd_alloc hR _, keep_alloc ?_ _, h.hp, h.hq, hyy⟩
  · exact isEY_one (Blk.alloc_ V 25 [.int .i64 k, .int .i64 n, .string s, .slice A l c]) (by omega) (by omega) ((h.ie.keep hk (.inr rfl)).below hba) 4 0 ⟨#[105, 110, 116]⟩ (by unfold maxLen; decide)
  · have := h.wg
    simp [wgt, wgts]; omega
  · exact cleanE_one (by decide) h.cl
  · exact ⟨hk.os.trans h.kp.os, hk.tape.trans h.kp.tape, hk.output.trans h.kp.output, Nat.le_trans h.kp.size hk.size, fun i hi ha => (hk.block i (Nat.lt_of_lt_of_le hi h.kp.size) (by omega)).trans (h.kp.block i hi ha)⟩
/-- What it leaves in the result's box. -/
theorem BentS.res (h : BentS w g p Y M k n s A l c t p' W) (hg : g < w.heap.size) (M' : Nat) (hM : M ≤ M') : DrX g p 400 M' w.heap.size w (.returned (.agg #[.int .i64 k, .int .i64 n, .string s, .slice A l c])) ((((W.setCell ⟨w.heap.size, 0, none⟩ (.int .i64 k)).setCell ⟨w.heap.size, 1, none⟩ (.int .i64 n)).setCell ⟨w.heap.size, 2, none⟩ (.string s)).setCell ⟨w.heap.size, 3, none⟩ (.slice A l c)) :=
  drx_put h.bx h.kp h.rd h.hp h.hq hg rfl h.ie.en (by have := h.wg; omega) h.cl
theorem BentS.xs (h : BentS w g p Y M k n s A l c t p' W) : (W.cell? ⟨w.heap.size, 0, none⟩ = some (.int .i64 0) ∧ W.cell? ⟨w.heap.size, 1, none⟩ = some (.int .i64 0) ∧ W.cell? ⟨w.heap.size, 2, none⟩ = some (.string ⟨#[]⟩) ∧ W.cell? ⟨w.heap.size, 3, none⟩ = some (.slice none 0 0)) ∧
    (W.frozen? ⟨w.heap.size, 0, none⟩ = false ∧ W.frozen? ⟨w.heap.size, 1, none⟩ = false ∧ W.frozen? ⟨w.heap.size, 2, none⟩ = false ∧ W.frozen? ⟨w.heap.size, 3, none⟩ = false) ∧
    (W.cell? ⟨Y, 0, none⟩ = some (.int .i64 k) ∧ W.cell? ⟨Y, 1, none⟩ = some (.int .i64 n) ∧ W.cell? ⟨Y, 2, none⟩ = some (.string s) ∧ W.cell? ⟨Y, 3, none⟩ = some (.slice A l c)) ∧
    (W.frozen? ⟨Y, 0, none⟩ = false ∧ W.frozen? ⟨Y, 1, none⟩ = false ∧ W.frozen? ⟨Y, 2, none⟩ = false ∧ W.frozen? ⟨Y, 3, none⟩ = false) :=
  ⟨⟨h.bx.cell 0, h.bx.cell 1, h.bx.cell 2, h.bx.cell 3⟩, ⟨h.bx.frozen 0, h.bx.frozen 1, h.bx.frozen 2, h.bx.frozen 3⟩, blkE_cells h.by_, ⟨h.by_.frozen 0, h.by_.frozen 1, h.by_.frozen 2, h.by_.frozen 3⟩⟩
theorem put4_cells {W : World} {X : Nat} {T : TypeId} (h : Blk W X T zero4) (k n : Int) (s : ByteArray) (A : Option Addr) (l c : Nat) :
    (W.setCell ⟨X, 0, none⟩ (.int .i64 k)).cell? ⟨X, 0, none⟩ = some (.int .i64 k) ∧ ((W.setCell ⟨X, 0, none⟩ (.int .i64 k)).setCell ⟨X, 1, none⟩ (.int .i64 n)).cell? ⟨X, 1, none⟩ = some (.int .i64 n) ∧
    (((W.setCell ⟨X, 0, none⟩ (.int .i64 k)).setCell ⟨X, 1, none⟩ (.int .i64 n)).setCell ⟨X, 2, none⟩ (.string s)).cell? ⟨X, 2, none⟩ = some (.string s) ∧
    ((((W.setCell ⟨X, 0, none⟩ (.int .i64 k)).setCell ⟨X, 1, none⟩ (.int .i64 n)).setCell ⟨X, 2, none⟩ (.string s)).setCell ⟨X, 3, none⟩ (.slice A l c)).cell? ⟨X, 3, none⟩ = some (.slice A l c) := by
  have B1 := h.put 0 (.int .i64 k)
  have B2 := B1.put 1 (.int .i64 n)
  have B3 := B2.put 2 (.string s)
  have B4 := B3.put 3 (.slice A l c)
  exact ⟨B1.cell 0, B2.cell 1, B3.cell 2, B4.cell 3⟩
theorem BentS.keepR {W' : World} {p'' : Nat} (h : BentS w g p Y M k n s A l c t p' W) (hg : g < w.heap.size) (hk : Keep g W W') (hR : Rd W' g p'') (h1 : p' ≤ p'') (h2 : p'' ≤ p + 400) : BentS w g p Y M k n s A l c t p'' W' := by
  have hyy := h.yy
  exact ⟨hk.blk h.bx (by omega), hk.blk h.by_ (by omega), h.ie.keep hk (.inl (by omega)), h.wg, h.cl, hR, h.kp.trans hk, Nat.le_trans h.hp h1, h2, hyy⟩
end
def bentKinds : List Int := [0, 5, 3, 4]
def bentNums : List Int := [1, -1, 1000001]
def bentTexts : List (List UInt8) := [[108, 101, 116], [88], [60], [105, 110, 116], [120]]
theorem bentTexts_le : ∀ l ∈ bentTexts, l.length ≤ 3 ∧ l ≠ [117, 110, 117, 115, 101, 100] := by decide

set_option maxHeartbeats 8000000 in
set_option maxRecDepth 20000 in
theorem l4Bent (g p : Nat) (w : World) (h : Rd w g p) (hp : p ≤ 9000) :
    Calls Tryd.prog 45 #[.pointer (some ⟨g, 0, none⟩)] w (DrX g p 400 500 w.heap.size w) := by
  have hlt := h.lt
  have HXL := Lib.hid (Blk.alloc_ w 25 zero4)
  have HKL := Lib.hid (keep_alloc (Keep.refl g w) (.cells zero4.toArray 25))
  have HS := Lib.hid (l4Some g p _ (rd_alloc h (.cells zero4.toArray 25)) (by omega))
  clear h
  go_enter Tryd.func45, Tryd.ntmps45
  go_wp2_with fail
  refine HS.out.mono ?_
  rintro e w1 ⟨xk, xn, xs, xA, xl, xc, x, p1, rfl, hx, hxw, hxc, hp1, hp2, hR1, hK1⟩
  have HX1 : Hid (Blk w1 w.heap.size 25 zero4) := hK1.blk HXL.out (by omega)
  have hl3 : w.heap.size < w1.heap.size := HX1.out.lt
  have hba : Below w1.heap.size w1 (w1.alloc (.cells #[.int .i64 xk, .int .i64 xn, .string xs, .slice xA xl xc] 25)) := (Below.refl _ _).alloc (Nat.le_refl _) _
  have S1 : Hid (BentS w g p w1.heap.size 200 xk xn xs xA xl xc x p1 (w1.alloc (.cells #[.int .i64 xk, .int .i64 xn, .string xs, .slice xA xl xc] 25))) :=
    ⟨HX1.out.alloc _, Blk.alloc_ w1 25 [.int .i64 xk, .int .i64 xn, .string xs, .slice xA xl xc], (hx.down (by simp [World.size_alloc])).ey hba rfl, hxw, hxc, rd_alloc hR1 _, keep_alloc (HKL.out.trans hK1) _, hp1, by omega, hl3⟩
  clear hx hxw hxc hR1 hK1 hba HX1 HXL HKL HS
  go_upto_region 2 with (fail)
  generalize w1.alloc (.cells #[.int .i64 xk, .int .i64 xn, .string xs, .slice xA xl xc] 25) = w2 at *
  generalize w1.heap.size = Y at *
  go_wp2_with fail
  refine (pick g p1 48 w2 S1.out.rd (by omega) (by omega) (by omega)).mono ?_
  rintro e w3 ⟨r, rfl, hr0, hr1, hR3, hK3, hs3⟩
  have S3 := Lib.hid (S1.out.keepR hlt hK3 hR3 (by omega) (by omega))
  have hrn : (0 : Int) ≤ (r : Int) := by omega
  clear hr0 hr1 hs3 hR3 hK3 S1 hp1
  have hlt3 : g < w3.heap.size := S3.out.rd.lt
  have hYl : Y < w3.heap.size := S3.out.by_.lt
  have hYw : w.heap.size < Y := S3.out.yy
  by_cases r0 : r = 0
  · subst r0
    go_wp2_with fail
    refine (numOf g (p1 + 1) w3.heap.size 4 4 bentKinds _ (by exact rd_alloc S3.out.rd _) (by omega) (by exact Blk.alloc_ _ _ (ints bentKinds)) (by unfold Hid; omega) rfl (by omega) (by omega)).mono ?_
    rintro e w4 ⟨v4, p4, rfl, ⟨m, hm, rfl⟩, hp3, hp4, hR4, hK4⟩
    have S4 := Lib.hid (S3.out.keepR hlt ((keep_alloc (Keep.refl _ _) _).trans hK4) hR4 (by omega) (by omega))
    obtain ⟨_, _, ⟨z0, z1, z2, z3⟩, ⟨u0, u1, u2, u3⟩⟩ := S4.out.xs
    have S5 := Lib.hid (S4.out.put0 hlt m)
    clear hm hp3 hp4 hR4 hK4 S3 S4
    go_upto_region 14 with (fail)
    generalize w4.setCell ⟨Y, 0, none⟩ (.int .i64 m) = w5 at *
    clear z0 z1 z2 z3 u0 u1 u2 u3
    obtain ⟨⟨x0, x1, x2, x3⟩, ⟨y0, y1, y2, y3⟩, ⟨z0, z1, z2, z3⟩, _⟩ := S5.out.xs
    obtain ⟨q0, q1, q2, q3⟩ := put4_cells S5.out.bx m xn xs xA xl xc
    have RES := Lib.hid (S5.out.res hlt 500 (by omega))
    go_wp2_with fail
    refine bodyPost_ret (v := .agg #[.int .i64 m, .int .i64 xn, .string xs, .slice xA xl xc]) (by simp [results, Tryd.results45, go_sem, q0, q1, q2, q3]) rfl ?_
    exact RES.out
  by_cases r1 : r = 1
  · subst r1
    go_wp2_with fail
    refine (numOf g (p1 + 1) w3.heap.size 3 3 bentNums _ (by exact rd_alloc S3.out.rd _) (by omega) (by exact Blk.alloc_ _ _ (ints bentNums)) (by unfold Hid; omega) rfl (by omega) (by omega)).mono ?_
    rintro e w4 ⟨v4, p4, rfl, ⟨m, hm, rfl⟩, hp3, hp4, hR4, hK4⟩
    have S4 := Lib.hid (S3.out.keepR hlt ((keep_alloc (Keep.refl _ _) _).trans hK4) hR4 (by omega) (by omega))
    obtain ⟨_, _, ⟨z0, z1, z2, z3⟩, ⟨u0, u1, u2, u3⟩⟩ := S4.out.xs
    have S5 := Lib.hid (S4.out.put1 hlt m)
    clear hm hp3 hp4 hR4 hK4 S3 S4
    go_upto_region 14 with (fail)
    generalize w4.setCell ⟨Y, 1, none⟩ (.int .i64 m) = w5 at *
    clear z0 z1 z2 z3 u0 u1 u2 u3
    obtain ⟨⟨x0, x1, x2, x3⟩, ⟨y0, y1, y2, y3⟩, ⟨z0, z1, z2, z3⟩, _⟩ := S5.out.xs
    obtain ⟨q0, q1, q2, q3⟩ := put4_cells S5.out.bx xk m xs xA xl xc
    have RES := Lib.hid (S5.out.res hlt 500 (by omega))
    go_wp2_with fail
    refine bodyPost_ret (v := .agg #[.int .i64 xk, .int .i64 m, .string xs, .slice xA xl xc]) (by simp [results, Tryd.results45, go_sem, q0, q1, q2, q3]) rfl ?_
    exact RES.out
  by_cases r2 : r = 2
  · subst r2
    go_wp2_with fail
    refine (strOf g (p1 + 1) w3.heap.size 5 5 bentTexts _ (by exact rd_alloc S3.out.rd _) (by omega) (by exact Blk.alloc_ _ _ (strV bentTexts)) (by unfold Hid; omega) rfl (by omega) (by omega)).mono ?_
    rintro e w4 ⟨v4, p4, rfl, ⟨m, hm, rfl⟩, hp3, hp4, hR4, hK4⟩
    have S4 := Lib.hid (S3.out.keepR hlt ((keep_alloc (Keep.refl _ _) _).trans hK4) hR4 (by omega) (by omega))
    obtain ⟨_, _, ⟨z0, z1, z2, z3⟩, ⟨u0, u1, u2, u3⟩⟩ := S4.out.xs
    have hm1 := bentTexts_le m hm
    have S5 := Lib.hid (S4.out.put2 hlt ⟨m.toArray⟩ (by rw [size_mk]; omega) (by simpa using hm1.2))
    clear hm hp3 hp4 hR4 hK4 S3 S4 hm1
    go_upto_region 14 with (fail)
    generalize w4.setCell ⟨Y, 2, none⟩ (.string ⟨m.toArray⟩) = w5 at *
    clear z0 z1 z2 z3 u0 u1 u2 u3
    obtain ⟨⟨x0, x1, x2, x3⟩, ⟨y0, y1, y2, y3⟩, ⟨z0, z1, z2, z3⟩, _⟩ := S5.out.xs
    obtain ⟨q0, q1, q2, q3⟩ := put4_cells S5.out.bx xk xn ⟨m.toArray⟩ xA xl xc
    have RES := Lib.hid (S5.out.res hlt 500 (by omega))
    go_wp2_with fail
    refine bodyPost_ret (v := .agg #[.int .i64 xk, .int .i64 xn, .string ⟨m.toArray⟩, .slice xA xl xc]) (by simp [results, Tryd.results45, go_sem, q0, q1, q2, q3]) rfl ?_
    exact RES.out
  have b0 : ((r : Int) == 0) = false := by rw [beq_eq_false_iff_ne]; omega
  have b1 : ((r : Int) == 1) = false := by rw [beq_eq_false_iff_ne]; omega
  have b2 : ((r : Int) == 2) = false := by rw [beq_eq_false_iff_ne]; omega
  by_cases r3 : r = 3
  · subst r3
    clear r0 r1 r2 b0 b1 b2
    go_wp2_with fail
    go_loopw [4] (fun v wr => ∃ (i : Nat) (zk zn : Int) (zs : ByteArray) (zA : Option Addr) (zl zc : Nat) (z : Ex), v = .int .i64 (i : Int) ∧ i ≤ 5 ∧ BentS w g p Y (200 + 4 * i) zk zn zs zA zl zc z (p1 + 1) wr) (fun v _ => 5 - (intOf v).toNat)
    case atStart => exact ⟨0, xk, xn, xs, xA, xl, xc, x, rfl, by omega, S3.out⟩
    case round =>
      obtain ⟨i, zk, zn, zs, zA, zl, zc, z, rfl, hi, hS⟩ := hrel
      have SR := Lib.hid hS
      clear hS S3
      by_cases hi5 : i < 5
      · obtain ⟨_, _, ⟨z0, z1, z2, z3⟩, ⟨u0, u1, u2, u3⟩⟩ := SR.out.xs
        have SN := Lib.hid (SR.out.wrap hlt)
        have hyl : Y < wr.heap.size := SR.out.by_.lt
        have hi6 : (i : Int) < 5 := by omega
        clear SR
        go_wp2_with fail
        go_roundw
        case rel => exact ⟨i + 1, 4, 0, ⟨#[105, 110, 116]⟩, _, 1, 1, _, by go_num, by omega, SN.out⟩
        case measure => simp [intOf]; omega
      · have hi6 : ¬ (i : Int) < 5 := by omega
        obtain ⟨⟨x0, x1, x2, x3⟩, ⟨y0, y1, y2, y3⟩, ⟨z0, z1, z2, z3⟩, _⟩ := SR.out.xs
        obtain ⟨q0, q1, q2, q3⟩ := put4_cells SR.out.bx zk zn zs zA zl zc
        have RES := Lib.hid (SR.out.res hlt 500 (by omega))
        go_wp2_with fail
        refine bodyPost_ret (v := .agg #[.int .i64 zk, .int .i64 zn, .string zs, .slice zA zl zc]) (by simp [results, Tryd.results45, go_sem, q0, q1, q2, q3]) rfl ?_
        exact RES.out
  · have b3 : ((r : Int) == 3) = false := by rw [beq_eq_false_iff_ne]; omega
    clear r0 r1 r2 r3
    obtain ⟨⟨x0, x1, x2, x3⟩, ⟨y0, y1, y2, y3⟩, ⟨z0, z1, z2, z3⟩, _⟩ := S3.out.xs
    obtain ⟨q0, q1, q2, q3⟩ := put4_cells S3.out.bx xk xn xs xA xl xc
    have RES := Lib.hid (S3.out.res hlt 500 (by omega))
    go_wp2_with fail
    refine bodyPost_ret (v := .agg #[.int .i64 xk, .int .i64 xn, .string xs, .slice xA xl xc]) (by simp [results, Tryd.results45, go_sem, q0, q1, q2, q3]) rfl ?_
    exact RES.out

/-- A drawn one, ready to be used: its cells in memory that stands. -/
def drawExprOkR (w : World) (e : Ending) (w' : World) : Prop :=
  ∃ (k n : Int) (s : ByteArray) (A : Option Addr) (l c : Nat) (t : Ex), e = .returned (.agg #[.int .i64 k, .int .i64 n, .string s, .slice A l c]) ∧ IsEV w' [.int .i64 k, .int .i64 n, .string s, .slice A l c] t ∧ wgt t ≤ 500 ∧ CleanE t ∧ Below w.heap.size w w'
set_option maxHeartbeats 4000000 in
set_option maxRecDepth 20000 in
theorem drawExprOk (A : Option Addr) (n c : Nat) (z : List Int) (w : World) (hz : IsRow .u8 w A n c z) :
    Calls Tryd.prog 35 #[.slice A n c] w (drawExprOkR w) := by
  have hba : Below w.heap.size w (w.alloc (.cells zero4.toArray 25)) := (Below.refl _ _).alloc (Nat.le_refl _) _
  have HZ := Lib.hid (isRow_below hz hba)
  have HX := Lib.hid (Blk.alloc_ w 25 zero4)
  have HB := Lib.hid hba
  clear hz hba
  go_enter Tryd.func35, Tryd.ntmps35
  go_wp2_with fail
  refine (openIt A n c z _ HZ.out).mono ?_
  rintro e w1 ⟨rfl, hR1, hb1⟩
  have HX1 : Hid (Blk w1 w.heap.size 25 zero4) := HX.out.below hb1 (by simp)
  have HB1 : Hid (Below w.heap.size w w1) := HB.out.trans (hb1.mono (by simp))
  have hsz := hb1.size
  simp only [World.size_alloc] at hsz hR1
  have HB4 := Lib.hid (l4Bent _ 0 w1 hR1 (by omega))
  have hlt := hR1.lt
  clear hb1 hR1 HX HB HZ
  go_wp2_with fail
  refine HB4.out.mono ?_
  rintro e w2 ⟨xk, xn, xs, xA, xl, xc, x, p1, rfl, hx, hxw, hxc, hp1, hp2, hR2, hK2⟩
  have HX2 : Hid (Blk w2 w.heap.size 25 zero4) := hK2.blk HX1.out (by omega)
  have HB2 : Hid (Below w.heap.size w w2) := HB1.out.trans (hK2.below (by omega) (by omega))
  have kX : Keep w.heap.size w2 ((((w2.setCell ⟨w.heap.size, 0, none⟩ (.int .i64 xk)).setCell ⟨w.heap.size, 1, none⟩ (.int .i64 xn)).setCell ⟨w.heap.size, 2, none⟩ (.string xs)).setCell ⟨w.heap.size, 3, none⟩ (.slice xA xl xc)) := ((((Keep.refl _ _).set 0 _).set 1 _).set 2 _).set 3 _
  have RES : drawExprOkR w (.returned (.agg #[.int .i64 xk, .int .i64 xn, .string xs, .slice xA xl xc])) _ := ⟨xk, xn, xs, xA, xl, xc, x, rfl, (hx.keep kX (by omega)).ev, hxw, hxc, HB2.out.trans (kX.below (Nat.le_refl _) HB2.out.size)⟩
  have HRES := Lib.hid RES
  have x0 : w2.cell? ⟨w.heap.size, 0, none⟩ = some (.int .i64 0) := HX2.out.cell 0
  have x1 : w2.cell? ⟨w.heap.size, 1, none⟩ = some (.int .i64 0) := HX2.out.cell 1
  have x2 : w2.cell? ⟨w.heap.size, 2, none⟩ = some (.string ⟨#[]⟩) := HX2.out.cell 2
  have x3 : w2.cell? ⟨w.heap.size, 3, none⟩ = some (.slice none 0 0) := HX2.out.cell 3
  have y0 := HX2.out.frozen 0
  have y1 := HX2.out.frozen 1
  have y2 := HX2.out.frozen 2
  have y3 := HX2.out.frozen 3
  obtain ⟨q0, q1, q2, q3⟩ := put4_cells HX2.out xk xn xs xA xl xc
  clear hx hxw hxc hp1 hp2 hR2 hK2 kX RES HX1 HB1 HB4
  go_wp2_with fail
  refine bodyPost_ret (v := .agg #[.int .i64 xk, .int .i64 xn, .string xs, .slice xA xl xc]) (by simp [results, Tryd.results35, go_sem, q0, q1, q2, q3]) rfl ?_
  exact HRES.out

/-- A drawn one, ready to be used: its cells in memory that stands. -/
def drawExprWordsR (w : World) (e : Ending) (w' : World) : Prop :=
  ∃ (k n : Int) (s : ByteArray) (A : Option Addr) (l c : Nat) (t : Ex), e = .returned (.agg #[.int .i64 k, .int .i64 n, .string s, .slice A l c]) ∧ IsEV w' [.int .i64 k, .int .i64 n, .string s, .slice A l c] t ∧ wgt t ≤ 500 ∧ CleanE t ∧ Below w.heap.size w w'
set_option maxHeartbeats 4000000 in
set_option maxRecDepth 20000 in
theorem drawExprWords (A : Option Addr) (n c : Nat) (z : List Int) (w : World) (hz : IsRow .u8 w A n c z) :
    Calls Tryd.prog 26 #[.slice A n c] w (drawExprWordsR w) := by
  have hba : Below w.heap.size w (w.alloc (.cells zero4.toArray 25)) := (Below.refl _ _).alloc (Nat.le_refl _) _
  have HZ := Lib.hid (isRow_below hz hba)
  have HX := Lib.hid (Blk.alloc_ w 25 zero4)
  have HB := Lib.hid hba
  clear hz hba
  go_enter Tryd.func26, Tryd.ntmps26
  go_wp2_with fail
  refine (openIt A n c z _ HZ.out).mono ?_
  rintro e w1 ⟨rfl, hR1, hb1⟩
  have HX1 : Hid (Blk w1 w.heap.size 25 zero4) := HX.out.below hb1 (by simp)
  have HB1 : Hid (Below w.heap.size w w1) := HB.out.trans (hb1.mono (by simp))
  have hsz := hb1.size
  simp only [World.size_alloc] at hsz hR1
  have HB4 := Lib.hid (l4Bent _ 0 w1 hR1 (by omega))
  have hlt := hR1.lt
  clear hb1 hR1 HX HB HZ
  go_wp2_with fail
  refine HB4.out.mono ?_
  rintro e w2 ⟨xk, xn, xs, xA, xl, xc, x, p1, rfl, hx, hxw, hxc, hp1, hp2, hR2, hK2⟩
  have HX2 : Hid (Blk w2 w.heap.size 25 zero4) := hK2.blk HX1.out (by omega)
  have HB2 : Hid (Below w.heap.size w w2) := HB1.out.trans (hK2.below (by omega) (by omega))
  have kX : Keep w.heap.size w2 ((((w2.setCell ⟨w.heap.size, 0, none⟩ (.int .i64 xk)).setCell ⟨w.heap.size, 1, none⟩ (.int .i64 xn)).setCell ⟨w.heap.size, 2, none⟩ (.string xs)).setCell ⟨w.heap.size, 3, none⟩ (.slice xA xl xc)) := ((((Keep.refl _ _).set 0 _).set 1 _).set 2 _).set 3 _
  have RES : drawExprWordsR w (.returned (.agg #[.int .i64 xk, .int .i64 xn, .string xs, .slice xA xl xc])) _ := ⟨xk, xn, xs, xA, xl, xc, x, rfl, (hx.keep kX (by omega)).ev, hxw, hxc, HB2.out.trans (kX.below (Nat.le_refl _) HB2.out.size)⟩
  have HRES := Lib.hid RES
  have x0 : w2.cell? ⟨w.heap.size, 0, none⟩ = some (.int .i64 0) := HX2.out.cell 0
  have x1 : w2.cell? ⟨w.heap.size, 1, none⟩ = some (.int .i64 0) := HX2.out.cell 1
  have x2 : w2.cell? ⟨w.heap.size, 2, none⟩ = some (.string ⟨#[]⟩) := HX2.out.cell 2
  have x3 : w2.cell? ⟨w.heap.size, 3, none⟩ = some (.slice none 0 0) := HX2.out.cell 3
  have y0 := HX2.out.frozen 0
  have y1 := HX2.out.frozen 1
  have y2 := HX2.out.frozen 2
  have y3 := HX2.out.frozen 3
  obtain ⟨q0, q1, q2, q3⟩ := put4_cells HX2.out xk xn xs xA xl xc
  clear hx hxw hxc hp1 hp2 hR2 hK2 kX RES HX1 HB1 HB4
  go_wp2_with fail
  refine bodyPost_ret (v := .agg #[.int .i64 xk, .int .i64 xn, .string xs, .slice xA xl xc]) (by simp [results, Tryd.results26, go_sem, q0, q1, q2, q3]) rfl ?_
  exact HRES.out
end Go.Proofs.YtfjmjlpobbjjdaaDoor
