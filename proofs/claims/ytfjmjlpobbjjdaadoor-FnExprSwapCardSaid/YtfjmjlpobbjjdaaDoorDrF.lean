/- Draws: l4Expr. -/
import Derived.Test.YtfjmjlpobbjjdaaDoorDrE
import Derived.Test.YtfjmjlpobbjjdaaDoorOwn
import Derived.Test.YtfjmjlpobbjjdaaDoorStr
namespace Ilp
/-- No text in it is this one. -/
def clean : Nat → Ex → Bool
  | 0, _ => true
  | d + 1, .mk _ _ s ks => !(s == [117, 110, 117, 115, 101, 100]) && ks.all (clean d)
end Ilp
namespace Go.Proofs.YtfjmjlpobbjjdaaDoor
open Go.RowKit Ilp
set_option linter.unusedVariables false

def CleanE (t : Ex) : Prop := ∀ d, clean d t = true
theorem cleanE_leaf (k n : Int) (s : List UInt8) (h : s ≠ [117, 110, 117, 115, 101, 100]) : CleanE (.mk k n s []) := fun d => by
  cases d with
  | zero => rfl
  | succ d => simp [clean, h]
theorem cleanE_one {k n : Int} {s : List UInt8} {x : Ex} (h : s ≠ [117, 110, 117, 115, 101, 100]) (hx : CleanE x) : CleanE (.mk k n s [x]) := fun d => by
  cases d with
  | zero => rfl
  | succ d => simp [clean, h, hx d]
theorem cleanE_two {k n : Int} {s : List UInt8} {x y : Ex} (h : s ≠ [117, 110, 117, 115, 101, 100]) (hx : CleanE x) (hy : CleanE y) : CleanE (.mk k n s [x, y]) := fun d => by
  cases d with
  | zero => rfl
  | succ d => simp [clean, h, hx d, hy d]

/-- A drawn expression: its cells, made from B on. -/
def DrX (g p K M B : Nat) (w : World) (e : Ending) (w' : World) : Prop :=
  ∃ (k n : Int) (s : ByteArray) (A : Option Addr) (l c : Nat) (t : Ex) (p' : Nat), e = .returned (.agg #[.int .i64 k, .int .i64 n, .string s, .slice A l c]) ∧ IsEN B w' [.int .i64 k, .int .i64 n, .string s, .slice A l c] t ∧ wgt t ≤ M ∧ CleanE t ∧ p ≤ p' ∧ p' ≤ p + K ∧ Rd w' g p' ∧ Keep g w w'

def drNums : List Int := [0, 1, 2, 7, 30, 1000000]
def drNames : List (List UInt8) := [[120], [121], [122], [120]]
def drTypes : List (List UInt8) := [[105, 110, 116], [98, 111, 111, 108], [105, 110, 116]]
def drOps : List (List UInt8) := [[43], [45], [42], [60], [43], [42]]
theorem drNames_le : ∀ l ∈ drNames, l.length ≤ 1 ∧ l ≠ [117, 110, 117, 115, 101, 100] := by decide
theorem drTypes_le : ∀ l ∈ drTypes, l.length ≤ 4 ∧ l ≠ [117, 110, 117, 115, 101, 100] := by decide
theorem drOps_le : ∀ l ∈ drOps, l.length ≤ 1 ∧ l ≠ [117, 110, 117, 115, 101, 100] := by decide

def zero4 : List Value := [.int .i64 0, .int .i64 0, .string ⟨#[]⟩, .slice none 0 0]
theorem rd_far {w : World} {g p X : Nat} (h : Rd w g p) (hX : g < X) (i : Nat) (u : Value) : Rd (w.setCell ⟨X, i, none⟩ u) g p :=
  rd_low h fun k hk => Below.heap_setCell _ _ _ _ (by show k ≠ X; omega)
/-- The result laid into its box. -/
theorem drx_put {g p p' K M X : Nat} {w w3 : World} {k n : Int} {s : ByteArray} {A : Option Addr} {l c : Nat} {t : Ex} {T : TypeId} {vs : List Value} (hX : Blk w3 X T vs) (hK : Keep g w w3) (hR : Rd w3 g p') (h1 : p ≤ p') (h2 : p' ≤ p + K) (hlt : g < w.heap.size) (hXw : X = w.heap.size)
    (ht : IsEN (X + 1) w3 [.int .i64 k, .int .i64 n, .string s, .slice A l c] t) (hw : wgt t ≤ M) (hc : CleanE t) :
    DrX g p K M w.heap.size w (.returned (.agg #[.int .i64 k, .int .i64 n, .string s, .slice A l c])) ((((w3.setCell ⟨X, 0, none⟩ (.int .i64 k)).setCell ⟨X, 1, none⟩ (.int .i64 n)).setCell ⟨X, 2, none⟩ (.string s)).setCell ⟨X, 3, none⟩ (.slice A l c)) := by
  subst hXw
  have kX : Keep w.heap.size w3 ((((w3.setCell ⟨w.heap.size, 0, none⟩ (.int .i64 k)).setCell ⟨w.heap.size, 1, none⟩ (.int .i64 n)).setCell ⟨w.heap.size, 2, none⟩ (.string s)).setCell ⟨w.heap.size, 3, none⟩ (.slice A l c)) := ((((Keep.refl _ _).set 0 _).set 1 _).set 2 _).set 3 _
  refine ⟨k, n, s, A, l, c, t, p', rfl, (ht.keep kX (Nat.lt_succ_self _)).down (Nat.le_succ _), hw, hc, h1, h2, rd_far (rd_far (rd_far (rd_far hR hlt 0 _) hlt 1 _) hlt 2 _) hlt 3 _, ?_⟩
  exact ⟨kX.os.trans hK.os, kX.tape.trans hK.tape, kX.output.trans hK.output, Nat.le_trans hK.size kX.size, fun i hi ha => (kX.block i (Nat.lt_of_lt_of_le hi hK.size) (by omega)).trans (hK.block i hi ha)⟩

set_option maxHeartbeats 4000000 in
set_option maxRecDepth 20000 in
theorem l4Expr (d : Nat) : ∀ (D : Int) (K0 M0 g p : Nat) (w : World), Rd w g p → p + 6 * 2 ^ d ≤ 100000 → (d : Int) ≤ 10 → D = (d : Int) → 6 * 2 ^ d - 3 ≤ K0 → 10 * 2 ^ d - 6 ≤ M0 →
    Calls Tryd.prog 99 #[.pointer (some ⟨g, 0, none⟩), .int .i64 D] w (DrX g p K0 M0 w.heap.size w) := by
  induction d with
  | zero =>
    intro D K0 M0 g p w h hp hd hD hK0 hM0
    have hlt := h.lt
    have hD1 : D ≤ 1 := by omega
    have HXL := Lib.hid (Blk.alloc_ w 25 zero4)
    have HRL := Lib.hid (rd_alloc h (.cells zero4.toArray 25))
    have HKL := Lib.hid (keep_alloc (Keep.refl g w) (.cells zero4.toArray 25))
    clear hD h
    go_enter Tryd.func99, Tryd.ntmps99
    go_wp2_with fail
    refine (pick g (p) 2 _ HRL.out (by omega) (by omega) (by omega)).mono ?_
    rintro e w1 ⟨r, rfl, hr0, hr1, hR, hK, hs⟩
    have HX1 : Hid (Blk w1 w.heap.size 25 zero4) := hK.blk HXL.out (by omega)
    have HR1 := Lib.hid hR
    have HK1 : Hid (Keep g w w1) := HKL.out.trans hK
    have hl1 : g < w1.heap.size := hR.lt
    have hl2 : w.heap.size < w1.heap.size := HX1.out.lt
    clear hr0 hr1 hs hR hK
    by_cases hr : r = 0
    · subst hr
      go_wp2_with fail
      refine (numOf g (p + 1) w1.heap.size 6 6 drNums _ (by exact rd_alloc HR1.out _) (by omega) (by exact Blk.alloc_ _ _ (ints drNums)) (by unfold Hid; omega) rfl (by omega) (by omega)).mono ?_
      rintro e w3 ⟨v3, p', rfl, ⟨m, hm, rfl⟩, hp1, hp2, hR3, hK3⟩
      have HX3 : Hid (Blk w3 w.heap.size 25 zero4) := hK3.blk (HX1.out.alloc _) (by omega)
      have HK3 : Hid (Keep g w w3) := HK1.out.trans ((keep_alloc (Keep.refl _ _) _).trans hK3)
      have RES := Lib.hid (drx_put (K := K0) (M := M0) (p := p) (k := 1) (n := m) (s := ⟨#[]⟩) (A := none) (l := 0) (c := 0) HX3.out HK3.out hR3 (by omega) (by omega) hlt rfl (isEN_leaf _ _ _ _ _ (by unfold maxLen; decide)) (by simp [wgt, wgts]) (cleanE_leaf _ _ _ (by decide)))
      have x0 : (w3).cell? ⟨w.heap.size, 0, none⟩ = some (.int .i64 0) := HX3.out.cell 0
      have x1 : (w3).cell? ⟨w.heap.size, 1, none⟩ = some (.int .i64 0) := HX3.out.cell 1
      have x2 : (w3).cell? ⟨w.heap.size, 2, none⟩ = some (.string ⟨#[]⟩) := HX3.out.cell 2
      have x3 : (w3).cell? ⟨w.heap.size, 3, none⟩ = some (.slice none 0 0) := HX3.out.cell 3
      have y0 := HX3.out.frozen 0
      have y1 := HX3.out.frozen 1
      have y2 := HX3.out.frozen 2
      have y3 := HX3.out.frozen 3
      have B1 := HX3.out.put 0 (.int .i64 1)
      have B2 := B1.put 1 (.int .i64 m)
      have B3 := B2.put 2 (.string ⟨#[]⟩)
      have B4 := B3.put 3 (.slice none 0 0)
      have q0 := B1.cell 0
      have q1 := B2.cell 1
      have q2 := B3.cell 2
      have q3 := B4.cell 3
      simp only [zero4, List.set_cons_zero, List.set_cons_succ, List.getElem?_cons_zero, List.getElem?_cons_succ] at q0 q1 q2 q3
      clear B1 B2 B3 B4
      clear hm hp1 hp2 hR3 hK3 HK3
      go_wp2_with fail
      refine bodyPost_ret (v := .agg #[.int .i64 1, .int .i64 m, .string ⟨#[]⟩, .slice none 0 0]) (by simp [results, Tryd.results99, go_sem, q0, q1, q2, q3]) rfl ?_
      exact RES.out
    · have hrb : ((r : Int) == 0) = false := by rw [beq_eq_false_iff_ne]; omega
      clear hr
      go_wp2_with fail
      refine (strOf g (p + 1) w1.heap.size 4 4 drNames _ (by exact rd_alloc HR1.out _) (by omega) (by exact Blk.alloc_ _ _ (strV drNames)) (by unfold Hid; omega) rfl (by omega) (by omega)).mono ?_
      rintro e w3 ⟨v3, p', rfl, ⟨m, hm, rfl⟩, hp1, hp2, hR3, hK3⟩
      have HX3 : Hid (Blk w3 w.heap.size 25 zero4) := hK3.blk (HX1.out.alloc _) (by omega)
      have HK3 : Hid (Keep g w w3) := HK1.out.trans ((keep_alloc (Keep.refl _ _) _).trans hK3)
      have hm1 := drNames_le m hm
      have RES := Lib.hid (drx_put (K := K0) (M := M0) (p := p) (k := 2) (n := 0) (s := ⟨m.toArray⟩) (A := none) (l := 0) (c := 0) HX3.out HK3.out hR3 (by omega) (by omega) hlt rfl (isEN_leaf _ _ _ _ _ (by rw [size_mk]; unfold maxLen; omega)) (by simp [wgt, wgts]; omega) (cleanE_leaf _ _ _ (by simpa using hm1.2)))
      have x0 : (w3).cell? ⟨w.heap.size, 0, none⟩ = some (.int .i64 0) := HX3.out.cell 0
      have x1 : (w3).cell? ⟨w.heap.size, 1, none⟩ = some (.int .i64 0) := HX3.out.cell 1
      have x2 : (w3).cell? ⟨w.heap.size, 2, none⟩ = some (.string ⟨#[]⟩) := HX3.out.cell 2
      have x3 : (w3).cell? ⟨w.heap.size, 3, none⟩ = some (.slice none 0 0) := HX3.out.cell 3
      have y0 := HX3.out.frozen 0
      have y1 := HX3.out.frozen 1
      have y2 := HX3.out.frozen 2
      have y3 := HX3.out.frozen 3
      have B1 := HX3.out.put 0 (.int .i64 2)
      have B2 := B1.put 1 (.int .i64 0)
      have B3 := B2.put 2 (.string ⟨m.toArray⟩)
      have B4 := B3.put 3 (.slice none 0 0)
      have q0 := B1.cell 0
      have q1 := B2.cell 1
      have q2 := B3.cell 2
      have q3 := B4.cell 3
      simp only [zero4, List.set_cons_zero, List.set_cons_succ, List.getElem?_cons_zero, List.getElem?_cons_succ] at q0 q1 q2 q3
      clear B1 B2 B3 B4
      clear hm hp1 hp2 hR3 hK3 HK3 hm1
      go_wp2_with fail
      refine bodyPost_ret (v := .agg #[.int .i64 2, .int .i64 0, .string ⟨m.toArray⟩, .slice none 0 0]) (by simp [results, Tryd.results99, go_sem, q0, q1, q2, q3]) rfl ?_
      exact RES.out
  | succ d ih =>
    intro D K0 M0 g p w h hp hd hD hK0 hM0
    have hpow : 2 ^ (d + 1) = 2 * 2 ^ d := by rw [Nat.pow_succ]; omega
    have hpos : 1 ≤ 2 ^ d := Nat.one_le_two_pow
    have hlt := h.lt
    have IH := Lib.hid ih
    clear ih
    rw [hpow] at hK0 hM0 hp
    have HXL := Lib.hid (Blk.alloc_ w 25 zero4)
    have HRL := Lib.hid (rd_alloc h (.cells zero4.toArray 25))
    have HKL := Lib.hid (keep_alloc (Keep.refl g w) (.cells zero4.toArray 25))
    clear h hpow
    generalize 2 ^ d = q at *
    by_cases hd0 : d = 0
    · have hD1 : D ≤ 1 := by omega
      clear hD hd0 IH
      go_enter Tryd.func99, Tryd.ntmps99
      go_wp2_with fail
      refine (pick g (p) 2 _ HRL.out (by omega) (by omega) (by omega)).mono ?_
      rintro e w1 ⟨r, rfl, hr0, hr1, hR, hK, hs⟩
      have HX1 : Hid (Blk w1 w.heap.size 25 zero4) := hK.blk HXL.out (by omega)
      have HR1 := Lib.hid hR
      have HK1 : Hid (Keep g w w1) := HKL.out.trans hK
      have hl1 : g < w1.heap.size := hR.lt
      have hl2 : w.heap.size < w1.heap.size := HX1.out.lt
      clear hr0 hr1 hs hR hK
      by_cases hr : r = 0
      · subst hr
        go_wp2_with fail
        refine (numOf g (p + 1) w1.heap.size 6 6 drNums _ (by exact rd_alloc HR1.out _) (by omega) (by exact Blk.alloc_ _ _ (ints drNums)) (by unfold Hid; omega) rfl (by omega) (by omega)).mono ?_
        rintro e w3 ⟨v3, p', rfl, ⟨m, hm, rfl⟩, hp1, hp2, hR3, hK3⟩
        have HX3 : Hid (Blk w3 w.heap.size 25 zero4) := hK3.blk (HX1.out.alloc _) (by omega)
        have HK3 : Hid (Keep g w w3) := HK1.out.trans ((keep_alloc (Keep.refl _ _) _).trans hK3)
        have RES := Lib.hid (drx_put (K := K0) (M := M0) (p := p) (k := 1) (n := m) (s := ⟨#[]⟩) (A := none) (l := 0) (c := 0) HX3.out HK3.out hR3 (by omega) (by omega) hlt rfl (isEN_leaf _ _ _ _ _ (by unfold maxLen; decide)) (by simp [wgt, wgts]) (cleanE_leaf _ _ _ (by decide)))
        have x0 : (w3).cell? ⟨w.heap.size, 0, none⟩ = some (.int .i64 0) := HX3.out.cell 0
        have x1 : (w3).cell? ⟨w.heap.size, 1, none⟩ = some (.int .i64 0) := HX3.out.cell 1
        have x2 : (w3).cell? ⟨w.heap.size, 2, none⟩ = some (.string ⟨#[]⟩) := HX3.out.cell 2
        have x3 : (w3).cell? ⟨w.heap.size, 3, none⟩ = some (.slice none 0 0) := HX3.out.cell 3
        have y0 := HX3.out.frozen 0
        have y1 := HX3.out.frozen 1
        have y2 := HX3.out.frozen 2
        have y3 := HX3.out.frozen 3
        have B1 := HX3.out.put 0 (.int .i64 1)
        have B2 := B1.put 1 (.int .i64 m)
        have B3 := B2.put 2 (.string ⟨#[]⟩)
        have B4 := B3.put 3 (.slice none 0 0)
        have q0 := B1.cell 0
        have q1 := B2.cell 1
        have q2 := B3.cell 2
        have q3 := B4.cell 3
        simp only [zero4, List.set_cons_zero, List.set_cons_succ, List.getElem?_cons_zero, List.getElem?_cons_succ] at q0 q1 q2 q3
        clear B1 B2 B3 B4
        clear hm hp1 hp2 hR3 hK3 HK3
        go_wp2_with fail
        refine bodyPost_ret (v := .agg #[.int .i64 1, .int .i64 m, .string ⟨#[]⟩, .slice none 0 0]) (by simp [results, Tryd.results99, go_sem, q0, q1, q2, q3]) rfl ?_
        exact RES.out
      · have hrb : ((r : Int) == 0) = false := by rw [beq_eq_false_iff_ne]; omega
        clear hr
        go_wp2_with fail
        refine (strOf g (p + 1) w1.heap.size 4 4 drNames _ (by exact rd_alloc HR1.out _) (by omega) (by exact Blk.alloc_ _ _ (strV drNames)) (by unfold Hid; omega) rfl (by omega) (by omega)).mono ?_
        rintro e w3 ⟨v3, p', rfl, ⟨m, hm, rfl⟩, hp1, hp2, hR3, hK3⟩
        have HX3 : Hid (Blk w3 w.heap.size 25 zero4) := hK3.blk (HX1.out.alloc _) (by omega)
        have HK3 : Hid (Keep g w w3) := HK1.out.trans ((keep_alloc (Keep.refl _ _) _).trans hK3)
        have hm1 := drNames_le m hm
        have RES := Lib.hid (drx_put (K := K0) (M := M0) (p := p) (k := 2) (n := 0) (s := ⟨m.toArray⟩) (A := none) (l := 0) (c := 0) HX3.out HK3.out hR3 (by omega) (by omega) hlt rfl (isEN_leaf _ _ _ _ _ (by rw [size_mk]; unfold maxLen; omega)) (by simp [wgt, wgts]; omega) (cleanE_leaf _ _ _ (by simpa using hm1.2)))
        have x0 : (w3).cell? ⟨w.heap.size, 0, none⟩ = some (.int .i64 0) := HX3.out.cell 0
        have x1 : (w3).cell? ⟨w.heap.size, 1, none⟩ = some (.int .i64 0) := HX3.out.cell 1
        have x2 : (w3).cell? ⟨w.heap.size, 2, none⟩ = some (.string ⟨#[]⟩) := HX3.out.cell 2
        have x3 : (w3).cell? ⟨w.heap.size, 3, none⟩ = some (.slice none 0 0) := HX3.out.cell 3
        have y0 := HX3.out.frozen 0
        have y1 := HX3.out.frozen 1
        have y2 := HX3.out.frozen 2
        have y3 := HX3.out.frozen 3
        have B1 := HX3.out.put 0 (.int .i64 2)
        have B2 := B1.put 1 (.int .i64 0)
        have B3 := B2.put 2 (.string ⟨m.toArray⟩)
        have B4 := B3.put 3 (.slice none 0 0)
        have q0 := B1.cell 0
        have q1 := B2.cell 1
        have q2 := B3.cell 2
        have q3 := B4.cell 3
        simp only [zero4, List.set_cons_zero, List.set_cons_succ, List.getElem?_cons_zero, List.getElem?_cons_succ] at q0 q1 q2 q3
        clear B1 B2 B3 B4
        clear hm hp1 hp2 hR3 hK3 HK3 hm1
        go_wp2_with fail
        refine bodyPost_ret (v := .agg #[.int .i64 2, .int .i64 0, .string ⟨m.toArray⟩, .slice none 0 0]) (by simp [results, Tryd.results99, go_sem, q0, q1, q2, q3]) rfl ?_
        exact RES.out
    · have hD1 : ¬ D ≤ 1 := by omega
      have hD2 : 1 < D := by omega
      have hD3 : D ≤ 11 := by omega
      have HD : Hid (D - 1 = (d : Int)) := by unfold Hid; omega
      have hD1b : decide (D ≤ 1) = false := decide_eq_false hD1
      clear hD hD1
      go_enter Tryd.func99, Tryd.ntmps99
      go_wp2_with fail
      refine (pick g p 4 _ HRL.out (by omega) (by omega) (by omega)).mono ?_
      rintro e w0 ⟨r0, rfl, hr0, hr1, hR, hK, hs⟩
      have HX0 : Hid (Blk w0 w.heap.size 25 zero4) := hK.blk HXL.out (by omega)
      have HR0 := Lib.hid hR
      have HK0 : Hid (Keep g w w0) := HKL.out.trans hK
      clear hr0 hr1 hs hR hK HXL HRL HKL
      by_cases hr : r0 = 0
      · subst hr
        have HXL := HX0
        have HRL := HR0
        have HKL := HK0
        clear HX0 HR0 HK0
        go_wp2_with fail
        refine (pick g (p + 1) 2 _ HRL.out (by omega) (by omega) (by omega)).mono ?_
        rintro e w1 ⟨r, rfl, hr0, hr1, hR, hK, hs⟩
        have HX1 : Hid (Blk w1 w.heap.size 25 zero4) := hK.blk HXL.out (by omega)
        have HR1 := Lib.hid hR
        have HK1 : Hid (Keep g w w1) := HKL.out.trans hK
        have hl1 : g < w1.heap.size := hR.lt
        have hl2 : w.heap.size < w1.heap.size := HX1.out.lt
        clear hr0 hr1 hs hR hK
        by_cases hr : r = 0
        · subst hr
          go_wp2_with fail
          refine (numOf g (p + 1 + 1) w1.heap.size 6 6 drNums _ (by exact rd_alloc HR1.out _) (by omega) (by exact Blk.alloc_ _ _ (ints drNums)) (by unfold Hid; omega) rfl (by omega) (by omega)).mono ?_
          rintro e w3 ⟨v3, p', rfl, ⟨m, hm, rfl⟩, hp1, hp2, hR3, hK3⟩
          have HX3 : Hid (Blk w3 w.heap.size 25 zero4) := hK3.blk (HX1.out.alloc _) (by omega)
          have HK3 : Hid (Keep g w w3) := HK1.out.trans ((keep_alloc (Keep.refl _ _) _).trans hK3)
          have RES := Lib.hid (drx_put (K := K0) (M := M0) (p := p) (k := 1) (n := m) (s := ⟨#[]⟩) (A := none) (l := 0) (c := 0) HX3.out HK3.out hR3 (by omega) (by omega) hlt rfl (isEN_leaf _ _ _ _ _ (by unfold maxLen; decide)) (by simp [wgt, wgts]) (cleanE_leaf _ _ _ (by decide)))
          have x0 : (w3).cell? ⟨w.heap.size, 0, none⟩ = some (.int .i64 0) := HX3.out.cell 0
          have x1 : (w3).cell? ⟨w.heap.size, 1, none⟩ = some (.int .i64 0) := HX3.out.cell 1
          have x2 : (w3).cell? ⟨w.heap.size, 2, none⟩ = some (.string ⟨#[]⟩) := HX3.out.cell 2
          have x3 : (w3).cell? ⟨w.heap.size, 3, none⟩ = some (.slice none 0 0) := HX3.out.cell 3
          have y0 := HX3.out.frozen 0
          have y1 := HX3.out.frozen 1
          have y2 := HX3.out.frozen 2
          have y3 := HX3.out.frozen 3
          have B1 := HX3.out.put 0 (.int .i64 1)
          have B2 := B1.put 1 (.int .i64 m)
          have B3 := B2.put 2 (.string ⟨#[]⟩)
          have B4 := B3.put 3 (.slice none 0 0)
          have q0 := B1.cell 0
          have q1 := B2.cell 1
          have q2 := B3.cell 2
          have q3 := B4.cell 3
          simp only [zero4, List.set_cons_zero, List.set_cons_succ, List.getElem?_cons_zero, List.getElem?_cons_succ] at q0 q1 q2 q3
          clear B1 B2 B3 B4
          clear hm hp1 hp2 hR3 hK3 HK3
          go_wp2_with fail
          refine bodyPost_ret (v := .agg #[.int .i64 1, .int .i64 m, .string ⟨#[]⟩, .slice none 0 0]) (by simp [results, Tryd.results99, go_sem, q0, q1, q2, q3]) rfl ?_
          exact RES.out
        · have hrb : ((r : Int) == 0) = false := by rw [beq_eq_false_iff_ne]; omega
          clear hr
          go_wp2_with fail
          refine (strOf g (p + 1 + 1) w1.heap.size 4 4 drNames _ (by exact rd_alloc HR1.out _) (by omega) (by exact Blk.alloc_ _ _ (strV drNames)) (by unfold Hid; omega) rfl (by omega) (by omega)).mono ?_
          rintro e w3 ⟨v3, p', rfl, ⟨m, hm, rfl⟩, hp1, hp2, hR3, hK3⟩
          have HX3 : Hid (Blk w3 w.heap.size 25 zero4) := hK3.blk (HX1.out.alloc _) (by omega)
          have HK3 : Hid (Keep g w w3) := HK1.out.trans ((keep_alloc (Keep.refl _ _) _).trans hK3)
          have hm1 := drNames_le m hm
          have RES := Lib.hid (drx_put (K := K0) (M := M0) (p := p) (k := 2) (n := 0) (s := ⟨m.toArray⟩) (A := none) (l := 0) (c := 0) HX3.out HK3.out hR3 (by omega) (by omega) hlt rfl (isEN_leaf _ _ _ _ _ (by rw [size_mk]; unfold maxLen; omega)) (by simp [wgt, wgts]; omega) (cleanE_leaf _ _ _ (by simpa using hm1.2)))
          have x0 : (w3).cell? ⟨w.heap.size, 0, none⟩ = some (.int .i64 0) := HX3.out.cell 0
          have x1 : (w3).cell? ⟨w.heap.size, 1, none⟩ = some (.int .i64 0) := HX3.out.cell 1
          have x2 : (w3).cell? ⟨w.heap.size, 2, none⟩ = some (.string ⟨#[]⟩) := HX3.out.cell 2
          have x3 : (w3).cell? ⟨w.heap.size, 3, none⟩ = some (.slice none 0 0) := HX3.out.cell 3
          have y0 := HX3.out.frozen 0
          have y1 := HX3.out.frozen 1
          have y2 := HX3.out.frozen 2
          have y3 := HX3.out.frozen 3
          have B1 := HX3.out.put 0 (.int .i64 2)
          have B2 := B1.put 1 (.int .i64 0)
          have B3 := B2.put 2 (.string ⟨m.toArray⟩)
          have B4 := B3.put 3 (.slice none 0 0)
          have q0 := B1.cell 0
          have q1 := B2.cell 1
          have q2 := B3.cell 2
          have q3 := B4.cell 3
          simp only [zero4, List.set_cons_zero, List.set_cons_succ, List.getElem?_cons_zero, List.getElem?_cons_succ] at q0 q1 q2 q3
          clear B1 B2 B3 B4
          clear hm hp1 hp2 hR3 hK3 HK3 hm1
          go_wp2_with fail
          refine bodyPost_ret (v := .agg #[.int .i64 2, .int .i64 0, .string ⟨m.toArray⟩, .slice none 0 0]) (by simp [results, Tryd.results99, go_sem, q0, q1, q2, q3]) rfl ?_
          exact RES.out
      · have hrb : ((r0 : Int) == 0) = false := by rw [beq_eq_false_iff_ne]; omega
        clear hr
        go_wp2_with fail
        refine (pick g (p + 1) 4 _ HR0.out (by omega) (by omega) (by omega)).mono ?_
        rintro e w1 ⟨r, rfl, hr0, hr1, hR, hK, hs⟩
        have HX1 : Hid (Blk w1 w.heap.size 25 zero4) := hK.blk HX0.out (by omega)
        have HR1 := Lib.hid hR
        have HK1 : Hid (Keep g w w1) := HK0.out.trans hK
        have hl1 : g < w1.heap.size := hR.lt
        have hl2 : w.heap.size < w1.heap.size := HX1.out.lt
        clear hr0 hr1 hs hR hK hrb HX0 HR0 HK0
        by_cases hr : r = 0
        · subst hr
          go_wp2_with fail
          refine (strOf g (p + 1 + 1) w1.heap.size 3 3 drTypes _ (by exact rd_alloc HR1.out _) (by omega) (by exact Blk.alloc_ _ _ (strV drTypes)) (by unfold Hid; omega) rfl (by omega) (by omega)).mono ?_
          rintro e w2 ⟨v2, p2, rfl, ⟨m, hm, rfl⟩, hp1, hp2, hR2, hK2⟩
          have HX2 : Hid (Blk w2 w.heap.size 25 zero4) := hK2.blk (HX1.out.alloc _) (by omega)
          have HK2 : Hid (Keep g w w2) := HK1.out.trans ((keep_alloc (Keep.refl _ _) _).trans hK2)
          have HR2 := Lib.hid hR2
          have hm1 := drTypes_le m hm
          have hl3 : w.heap.size < w2.heap.size := HX2.out.lt
          clear hm hR2 hK2 HX1 HR1 HK1
          go_wp2_with fail
          refine (IH.out (D - 1) (6 * q - 3) (10 * q - 6) g p2 w2 HR2.out (by omega) (by omega) HD.out (by omega) (by omega)).mono ?_
          rintro e w3 ⟨xk, xn, xs, xA, xl, xc, x, p3, rfl, hx, hxw, hxc, hp3, hp4, hR3, hK3⟩
          have HXa : Blk w3 w.heap.size 25 zero4 := hK3.blk HX2.out (by omega)
          have hKa : Keep g w w3 := HK2.out.trans hK3
          have hba : Below w3.heap.size w3 (w3.alloc (.cells #[.int .i64 xk, .int .i64 xn, .string xs, .slice xA xl xc] 25)) := (Below.refl _ _).alloc (Nat.le_refl _) _
          have hl4 : w.heap.size < w3.heap.size := HXa.lt
          have HX3 := Lib.hid HXa
          have RES := Lib.hid (drx_put (K := K0) (M := M0) (p := p) (k := 4) (n := 0) (s := ⟨m.toArray⟩) (HX3.out.alloc _) (keep_alloc hKa _) (rd_alloc hR3 _) (by omega) (by omega) hlt rfl (isEN_one (B := w.heap.size + 1) (Blk.alloc_ w3 25 [.int .i64 xk, .int .i64 xn, .string xs, .slice xA xl xc]) (by omega) ((hx.down (by omega)).below hba) 4 0 ⟨m.toArray⟩ (by rw [size_mk]; unfold maxLen; omega)) (by simp [wgt, wgts]; omega) (cleanE_one (by simpa using hm1.2) hxc))
          rw [World.setCell_alloc_past _ _ _ _ hl4, World.setCell_alloc_past _ _ _ _ (by simp [World.setCell]; omega), World.setCell_alloc_past _ _ _ _ (by simp [World.setCell]; omega), World.setCell_alloc_past _ _ _ _ (by simp [World.setCell]; omega)] at RES
          have x0 : (w3).cell? ⟨w.heap.size, 0, none⟩ = some (.int .i64 0) := HX3.out.cell 0
          have x1 : (w3).cell? ⟨w.heap.size, 1, none⟩ = some (.int .i64 0) := HX3.out.cell 1
          have x2 : (w3).cell? ⟨w.heap.size, 2, none⟩ = some (.string ⟨#[]⟩) := HX3.out.cell 2
          have x3 : (w3).cell? ⟨w.heap.size, 3, none⟩ = some (.slice none 0 0) := HX3.out.cell 3
          have y0 := HX3.out.frozen 0
          have y1 := HX3.out.frozen 1
          have y2 := HX3.out.frozen 2
          have y3 := HX3.out.frozen 3
          have B1 := HX3.out.put 0 (.int .i64 4)
          have B2 := B1.put 1 (.int .i64 0)
          have B3 := B2.put 2 (.string ⟨m.toArray⟩)
          have B4 := B3.put 3 (.slice (some ⟨w3.heap.size, 0, none⟩) 1 1)
          have B5 := B4.alloc (.cells #[.int .i64 xk, .int .i64 xn, .string xs, .slice xA xl xc] 25)
          have q0 := B5.cell 0
          have q1 := B5.cell 1
          have q2 := B5.cell 2
          have q3 := B5.cell 3
          simp only [zero4, List.set_cons_zero, List.set_cons_succ, List.getElem?_cons_zero, List.getElem?_cons_succ] at q0 q1 q2 q3
          clear B1 B2 B3 B4 B5
          clear hx hxw hxc hp1 hp2 hp3 hp4 hR3 hK3 HXa hKa hba HX2 HK2 HR2 hm1 HX3
          go_wp2_with fail
          refine bodyPost_ret (v := .agg #[.int .i64 4, .int .i64 0, .string ⟨m.toArray⟩, .slice (some ⟨w3.heap.size, 0, none⟩) 1 1]) (by simp [results, Tryd.results99, go_sem, q0, q1, q2, q3]) rfl ?_
          exact RES.out
        · have hrb : ((r : Int) == 0) = false := by rw [beq_eq_false_iff_ne]; omega
          clear hr
          go_wp2_with fail
          refine (strOf g (p + 1 + 1) w1.heap.size 6 6 drOps _ (by exact rd_alloc HR1.out _) (by omega) (by exact Blk.alloc_ _ _ (strV drOps)) (by unfold Hid; omega) rfl (by omega) (by omega)).mono ?_
          rintro e w2 ⟨v2, p2, rfl, ⟨m, hm, rfl⟩, hp1, hp2, hR2, hK2⟩
          have HX2 : Hid (Blk w2 w.heap.size 25 zero4) := hK2.blk (HX1.out.alloc _) (by omega)
          have HK2 : Hid (Keep g w w2) := HK1.out.trans ((keep_alloc (Keep.refl _ _) _).trans hK2)
          have HR2 := Lib.hid hR2
          have hm1 := drOps_le m hm
          have hl3 : w.heap.size < w2.heap.size := HX2.out.lt
          clear hm hR2 hK2 HX1 HR1 HK1
          go_wp2_with fail
          refine (IH.out (D - 1) (6 * q - 3) (10 * q - 6) g p2 w2 HR2.out (by omega) (by omega) HD.out (by omega) (by omega)).mono ?_
          rintro e w3 ⟨xk, xn, xs, xA, xl, xc, x, p3, rfl, hx, hxw, hxc, hp3, hp4, hR3, hK3⟩
          have HX3 : Hid (Blk w3 w.heap.size 25 zero4) := hK3.blk HX2.out (by omega)
          have HK3 : Hid (Keep g w w3) := HK2.out.trans hK3
          have HR3 := Lib.hid hR3
          have HE3 : Hid (IsEN (w.heap.size + 1) w3 [.int .i64 xk, .int .i64 xn, .string xs, .slice xA xl xc] x) := hx.down (by omega)
          have HC3 := Lib.hid hxc
          have hl4 : w.heap.size < w3.heap.size := HX3.out.lt
          clear hx hxc hR3 hK3 HX2 HK2 HR2
          go_wp2_with fail
          refine (IH.out (D - 1) (6 * q - 3) (10 * q - 6) g p3 w3 HR3.out (by omega) (by omega) HD.out (by omega) (by omega)).mono ?_
          rintro e w4 ⟨yk, yn, ys, yA, yl, yc, y, p4, rfl, hy, hyw, hyc, hp5, hp6, hR4, hK4⟩
          have HXa : Blk w4 w.heap.size 25 zero4 := hK4.blk HX3.out (by omega)
          have hKa : Keep g w w4 := HK3.out.trans hK4
          have hba : Below w4.heap.size w4 (w4.alloc (.cells #[.int .i64 xk, .int .i64 xn, .string xs, .slice xA xl xc, .int .i64 yk, .int .i64 yn, .string ys, .slice yA yl yc] 25)) := (Below.refl _ _).alloc (Nat.le_refl _) _
          have hl5 : w.heap.size < w4.heap.size := HXa.lt
          have HX4 := Lib.hid HXa
          have RES := Lib.hid (drx_put (K := K0) (M := M0) (p := p) (k := 3) (n := 0) (s := ⟨m.toArray⟩) (HX4.out.alloc _) (keep_alloc hKa _) (rd_alloc hR4 _) (by omega) (by omega) hlt rfl (isEN_two (B := w.heap.size + 1) (Blk.alloc_ w4 25 [.int .i64 xk, .int .i64 xn, .string xs, .slice xA xl xc, .int .i64 yk, .int .i64 yn, .string ys, .slice yA yl yc]) (by omega) ((HE3.out.keep hK4 (by omega)).below hba) ((hy.down (by omega)).below hba) 3 0 ⟨m.toArray⟩ (by rw [size_mk]; unfold maxLen; omega)) (by simp [wgt, wgts]; omega) (cleanE_two (by simpa using hm1.2) HC3.out hyc))
          rw [World.setCell_alloc_past _ _ _ _ hl5, World.setCell_alloc_past _ _ _ _ (by simp [World.setCell]; omega), World.setCell_alloc_past _ _ _ _ (by simp [World.setCell]; omega), World.setCell_alloc_past _ _ _ _ (by simp [World.setCell]; omega)] at RES
          have x0 : (w4).cell? ⟨w.heap.size, 0, none⟩ = some (.int .i64 0) := HX4.out.cell 0
          have x1 : (w4).cell? ⟨w.heap.size, 1, none⟩ = some (.int .i64 0) := HX4.out.cell 1
          have x2 : (w4).cell? ⟨w.heap.size, 2, none⟩ = some (.string ⟨#[]⟩) := HX4.out.cell 2
          have x3 : (w4).cell? ⟨w.heap.size, 3, none⟩ = some (.slice none 0 0) := HX4.out.cell 3
          have y0 := HX4.out.frozen 0
          have y1 := HX4.out.frozen 1
          have y2 := HX4.out.frozen 2
          have y3 := HX4.out.frozen 3
          have B1 := HX4.out.put 0 (.int .i64 3)
          have B2 := B1.put 1 (.int .i64 0)
          have B3 := B2.put 2 (.string ⟨m.toArray⟩)
          have B4 := B3.put 3 (.slice (some ⟨w4.heap.size, 0, none⟩) 2 2)
          have B5 := B4.alloc (.cells #[.int .i64 xk, .int .i64 xn, .string xs, .slice xA xl xc, .int .i64 yk, .int .i64 yn, .string ys, .slice yA yl yc] 25)
          have q0 := B5.cell 0
          have q1 := B5.cell 1
          have q2 := B5.cell 2
          have q3 := B5.cell 3
          simp only [zero4, List.set_cons_zero, List.set_cons_succ, List.getElem?_cons_zero, List.getElem?_cons_succ] at q0 q1 q2 q3
          clear B1 B2 B3 B4 B5
          clear hy hyw hyc hxw hp1 hp2 hp3 hp4 hp5 hp6 hR4 hK4 HXa hKa hba HX3 HK3 HR3 hm1 HX4 HE3 HC3
          go_wp2_with fail
          refine bodyPost_ret (v := .agg #[.int .i64 3, .int .i64 0, .string ⟨m.toArray⟩, .slice (some ⟨w4.heap.size, 0, none⟩) 2 2]) (by simp [results, Tryd.results99, go_sem, q0, q1, q2, q3]) rfl ?_
          exact RES.out
end Go.Proofs.YtfjmjlpobbjjdaaDoor
