/- Draws: l4Bent; DrawExprOk, DrawExprWords. -/
import Derived.Test.YtfjmjlpobbjjdaaDoorDrG
namespace Go.Proofs.YtfjmjlpobbjjdaaDoor
open Go.RowKit Ilp
set_option linter.unusedVariables false

/-- These cells are this; its parts lie in blocks from B on, none of them in block Y. -/
def IsEY (B Y : Nat) (W : World) (cs : List Value) (t : Ex) : Prop := ∃ d, ExAt W (fun b => (B ≤ b ∧ b < W.heap.size) ∧ b ≠ Y) d cs t
section
variable {B Y : Nat} {W W' : World} {cs : List Value} {t : Ex}
theorem IsEY.en (h : IsEY B Y W cs t) : IsEN B W cs t := by
  obtain ⟨d, h⟩ := h
  exact ⟨d, h.keep (fun _ _ => rfl) (fun _ hb => hb.1)⟩
theorem IsEN.ey (h : IsEN B W cs t) (hk : Below W.heap.size W W') (hY : Y = W.heap.size) : IsEY B Y W' cs t := by
  obtain ⟨d, h⟩ := h
  exact ⟨d, h.keep (fun p hp => hk.cell hp.2) (fun b hb => ⟨⟨hb.1, Nat.lt_of_lt_of_le hb.2 hk.size⟩, by have := hb.2; omega⟩)⟩
theorem IsEY.keep {g : Nat} (h : IsEY B Y W cs t) (hk : Keep g W W') (hg : g < B ∨ g = Y) : IsEY B Y W' cs t := by
  obtain ⟨d, h⟩ := h
  exact ⟨d, h.keep (fun p hp => hk.cell hp.1.2 (by have := hp.1.1; have := hp.2; omega)) (fun b hb => ⟨⟨hb.1.1, Nat.lt_of_lt_of_le hb.1.2 hk.size⟩, hb.2⟩)⟩
theorem IsEY.below (h : IsEY B Y W cs t) (hk : Below W.heap.size W W') : IsEY B Y W' cs t := by
  obtain ⟨d, h⟩ := h
  exact ⟨d, h.keep (fun p hp => hk.cell hp.1.2) (fun b hb => ⟨⟨hb.1.1, Nat.lt_of_lt_of_le hb.1.2 hk.size⟩, hb.2⟩)⟩
end
theorem isEY_one {B Y b : Nat} {W : World} {T : TypeId} {v0 v1 v2 v3 : Value} {x : Ex} (hb : Blk W b T [v0, v1, v2, v3]) (hB : B ≤ b) (hY : b ≠ Y) (hx : IsEY B Y W [v0, v1, v2, v3] x) (k n : Int) (s : ByteArray) (hs : s.size ≤ maxLen) :
    IsEY B Y W [.int .i64 k, .int .i64 n, .string s, .slice (some ⟨b, 0, none⟩) 1 1] (.mk k n s.data.toList [x]) := by
  obtain ⟨d, hx⟩ := hx
  refine ⟨d + 1, some ⟨b, 0, none⟩, 1, exC_mk k n s [x] _ 1 1 rfl, by simp [Ex.kids], by unfold maxLen; omega, hs, ?_⟩
  intro i y hy
  cases i with
  | zero =>
    simp only [Ex.kids, List.getElem?_cons_zero, Option.some.injEq] at hy; subst hy
    refine ⟨b, 0, _, rfl, ⟨⟨hB, hb.lt⟩, hY⟩, hx, fun j v hv => ?_⟩
    rw [show 0 + 0 * 4 + j = j by omega, hb.cell]; exact hv
  | succ i => simp [Ex.kids] at hy
/-- One of its cells turned. -/
theorem IsEY.bend {B Y : Nat} {W : World} {k n : Int} {s : ByteArray} {A : Option Addr} {l c : Nat} {t : Ex} (h : IsEY B Y W [.int .i64 k, .int .i64 n, .string s, .slice A l c] t) (k' n' : Int) (s' : ByteArray) (hs : s'.size ≤ maxLen) :
    IsEY B Y W [.int .i64 k', .int .i64 n', .string s', .slice A l c] (.mk k' n' s'.data.toList t.kids) := by
  obtain ⟨d, h⟩ := h
  cases d with
  | zero => exact h.elim
  | succ d =>
    obtain ⟨A', c', e, h1, h2, h3, hk⟩ := h
    simp only [exC, List.cons.injEq, Value.int.injEq, Value.string.injEq, Value.slice.injEq, true_and, and_true] at e
    obtain ⟨_, _, _, rfl, rfl, rfl⟩ := e
    exact ⟨d + 1, A, c, exC_mk k' n' s' t.kids A _ c rfl, h1, h2, hs, hk⟩
theorem cleanE_bend {t : Ex} (h : CleanE t) (k n : Int) {s : List UInt8} (hs : s ≠ [117, 110, 117, 115, 101, 100]) : CleanE (.mk k n s t.kids) := fun d => by
  cases d with
  | zero => rfl
  | succ d =>
    have := h (d + 1)
    obtain ⟨k0, n0, s0, ks⟩ := t
    simp only [clean, Bool.and_eq_true] at this ⊢
    exact ⟨by simp [hs], this.2⟩
theorem wgt_bend (t : Ex) (k n : Int) (s : List UInt8) : wgt (.mk k n s t.kids) ≤ wgt t + s.length := by
  rw [wgt_eq t]; simp [wgt]; omega
theorem IsEY.text {B Y : Nat} {W : World} {k n : Int} {s : ByteArray} {A : Option Addr} {l c : Nat} {t : Ex} (h : IsEY B Y W [.int .i64 k, .int .i64 n, .string s, .slice A l c] t) : s.data.toList = t.txt ∧ s.size ≤ maxLen := by
  obtain ⟨q1, q2, q3, q4, h5, h6, h7, _⟩ := h.en.ev.parts
  subst q3
  exact ⟨mkB_data _, by rw [mkB_size]; exact h7⟩
theorem cleanE_txt {t : Ex} (h : CleanE t) : t.txt ≠ [117, 110, 117, 115, 101, 100] := by
  have := h 1
  obtain ⟨k0, n0, s0, ks⟩ := t
  simp only [clean, Bool.and_eq_true, Bool.not_eq_true', beq_eq_false_iff_ne, ne_eq] at this
  exact this.1

/-- While one is bent: the box of the result, the box of it, the reader. -/
structure BentS (w : World) (g p : Nat) (Y : Nat) (M : Nat) (k n : Int) (s : ByteArray) (A : Option Addr) (l c : Nat) (t : Ex) (p' : Nat) (W : World) : Prop where
  bx : Blk W w.heap.size 25 zero4
  by_ : Blk W Y 25 [.int .i64 k, .int .i64 n, .string s, .slice A l c]
  ie : IsEY (w.heap.size + 1) Y W [.int .i64 k, .int .i64 n, .string s, .slice A l c] t
  wg : wgt t ≤ M
  cl : CleanE t
  rd : Rd W g p'
  kp : Keep g w W
  hp : p ≤ p'
  hq : p' ≤ p + 400
  yy : w.heap.size < Y
section
variable {w : World} {g p Y M : Nat} {k n : Int} {s : ByteArray} {A : Option Addr} {l c : Nat} {t : Ex} {p' : Nat} {W : World}
/-- One cell of it turned. -/
theorem BentS.put0 (h : BentS w g p Y M k n s A l c t p' W) (hg : g < w.heap.size) (k' : Int) : BentS w g p Y (M + M) k' n s A l c (.mk k' n s.data.toList t.kids) p' (W.setCell ⟨Y, 0, none⟩ (.int .i64 k')) := by
  have hk : Keep Y W (W.setCell ⟨Y, 0, none⟩ (.int .i64 k')) := (Keep.refl _ _).set 0 _
  have ht := h.ie.text
  have hyy := h.yy
  refine ⟨h.bx.far (by show w.heap.size ≠ Y; omega) _, h.by_.put 0 _, (h.ie.keep hk (.inr rfl)).bend k' n s ht.2, ?_, cleanE_bend h.cl k' n (by rw [ht.1]; exact cleanE_txt h.cl), rd_far h.rd (by omega) 0 _, ?_, h.hp, h.hq, hyy⟩
  · have h1 := wgt_bend t k' n s.data.toList
    have h2 := h.wg
    have h3 := wgt_eq t
    rw [ht.1] at h1 ⊢
    omega
  · exact ⟨hk.os.trans h.kp.os, hk.tape.trans h.kp.tape, hk.output.trans h.kp.output, Nat.le_trans h.kp.size hk.size, fun i hi ha => (hk.block i (Nat.lt_of_lt_of_le hi h.kp.size) (by omega)).trans (h.kp.block i hi ha)⟩
theorem BentS.put1 (h : BentS w g p Y M k n s A l c t p' W) (hg : g < w.heap.size) (n' : Int) : BentS w g p Y (M + M) k n' s A l c (.mk k n' s.data.toList t.kids) p' (W.setCell ⟨Y, 1, none⟩ (.int .i64 n')) := by
  have hk : Keep Y W (W.setCell ⟨Y, 1, none⟩ (.int .i64 n')) := (Keep.refl _ _).set 1 _
  have ht := h.ie.text
  have hyy := h.yy
  refine ⟨h.bx.far (by show w.heap.size ≠ Y; omega) _, h.by_.put 1 _, (h.ie.keep hk (.inr rfl)).bend k n' s ht.2, ?_, cleanE_bend h.cl k n' (by rw [ht.1]; exact cleanE_txt h.cl), rd_far h.rd (by omega) 1 _, ?_, h.hp, h.hq, hyy⟩
  · have h1 := wgt_bend t k n' s.data.toList
    have h2 := h.wg
    have h3 := wgt_eq t
    rw [ht.1] at h1 ⊢
    omega
  · exact ⟨hk.os.trans h.kp.os, hk.tape.trans h.kp.tape, hk.output.trans h.kp.output, Nat.le_trans h.kp.size hk.size, fun i hi ha => (hk.block i (Nat.lt_of_lt_of_le hi h.kp.size) (by omega)).trans (h.kp.block i hi ha)⟩
theorem BentS.put2 (h : BentS w g p Y M k n s A l c t p' W) (hg : g < w.heap.size) (s' : ByteArray) (hs : s'.size ≤ 10) (hs2 : s'.data.toList ≠ [117, 110, 117, 115, 101, 100]) : BentS w g p Y (M + 10) k n s' A l c (.mk k n s'.data.toList t.kids) p' (W.setCell ⟨Y, 2, none⟩ (.string s')) := by
  have hk : Keep Y W (W.setCell ⟨Y, 2, none⟩ (.string s')) := (Keep.refl _ _).set 2 _
  have hyy := h.yy
  refine ⟨h.bx.far (by show w.heap.size ≠ Y; omega) _, h.by_.put 2 _, (h.ie.keep hk (.inr rfl)).bend k n s' (by unfold maxLen; omega), ?_, cleanE_bend h.cl k n hs2, rd_far h.rd (by omega) 2 _, ?_, h.hp, h.hq, hyy⟩
  · have h1 := wgt_bend t k n s'.data.toList
    have h2 := h.wg
    have h3 : s'.data.toList.length = s'.size := Array.length_toList
    omega
  · exact ⟨hk.os.trans h.kp.os, hk.tape.trans h.kp.tape, hk.output.trans h.kp.output, Nat.le_trans h.kp.size hk.size, fun i hi ha => (hk.block i (Nat.lt_of_lt_of_le hi h.kp.size) (by omega)).trans (h.kp.block i hi ha)⟩
/-- One more cast about it. -/
theorem BentS.wrap (h : BentS w g p Y M k n s A l c t p' W) (hg : g < w.heap.size) : BentS w g p Y (M + 4) 4 0 ⟨#[105, 110, 116]⟩ (some ⟨W.heap.size, 0, none⟩) 1 1 (.mk 4 0 [105, 110, 116] [t]) p'
    (((((W.setCell ⟨Y, 0, none⟩ (.int .i64 4)).setCell ⟨Y, 1, none⟩ (.int .i64 0)).setCell ⟨Y, 2, none⟩ (.string ⟨#[105, 110, 116]⟩)).setCell ⟨Y, 3, none⟩ (.slice (some ⟨W.heap.size, 0, none⟩) 1 1)).alloc (.cells #[.int .i64 k, .int .i64 n, .string s, .slice A l c] 25)) := by
  have hyl := h.by_.lt
  have hyy := h.yy
  obtain ⟨V, hV⟩ : ∃ V, V = ((((W.setCell ⟨Y, 0, none⟩ (.int .i64 4)).setCell ⟨Y, 1, none⟩ (.int .i64 0)).setCell ⟨Y, 2, none⟩ (.string ⟨#[105, 110, 116]⟩)).setCell ⟨Y, 3, none⟩ (.slice (some ⟨W.heap.size, 0, none⟩) 1 1)) := ⟨_, rfl⟩
  have hk : Keep Y W V := by rw [hV]; exact ((((Keep.refl _ _).set 0 _).set 1 _).set 2 _).set 3 _
  have hbY : Blk V Y 25 [.int .i64 4, .int .i64 0, .string ⟨#[105, 110, 116]⟩, .slice (some ⟨W.heap.size, 0, none⟩) 1 1] := by
    rw [hV]; exact (((h.by_.put 0 _).put 1 _).put 2 _).put 3 _
  have hsz : V.heap.size = W.heap.size := by rw [hV]; simp [World.setCell]
  have hbX : Blk V w.heap.size 25 zero4 := hk.blk h.bx (by omega)
  have hR : Rd V g p' := by rw [hV]; exact rd_far (rd_far (rd_far (rd_far h.rd (by omega) 0 _) (by omega) 1 _) (by omega) 2 _) (by omega) 3 _
  rw [← hV, ← hsz]
  rw [← hsz] at hbY
  clear hV
  have hba : Below V.heap.size V (V.alloc (.cells #[.int .i64 k, .int .i64 n, .string s, .slice A l c] 25)) := (Below.refl _ _).alloc (Nat.le_refl _) _
  have hwl : w.heap.size < V.heap.size := hbX.lt
  refine ⟨hbX.alloc _, hbY.alloc _, ?_, ?_, ?_, rd_alloc hR _, keep_alloc ?_ _, h.hp, h.hq, hyy⟩
  · exact isEY_one (Blk.alloc_ V 25 [.int .i64 k, .int .i64 n, .string s, .slice A l c]) (by omega) (by omega) ((h.ie.keep hk (.inr rfl)).below hba) 4 0 ⟨#[105, 110, 116]⟩ (by unfold maxLen; decide)
  · have := h.wg
    simp [wgt, wgts]; omega
  · exact cleanE_one (by decide) h.cl
  · exact ⟨hk.os.trans h.kp.os, hk.tape.trans h.kp.tape, hk.output.trans h.kp.output, Nat.le_trans h.kp.size hk.size, fun i hi ha => (hk.block i (Nat.lt_of_lt_of_le hi h.kp.size) (by omega)).trans (h.kp.block i hi ha)⟩
/-- What it leaves in the result's box. -/
theorem BentS.res (h : BentS w g p Y M k n s A l c t p' W) (hg : g < w.heap.size) (M' : Nat) (hM : M ≤ M') : DrX g p 400 M' w.heap.size w (.returned (.agg #[.int .i64 k, .int .i64 n, .string s, .slice A l c])) ((((W.setCell ⟨w.heap.size, 0, none⟩ (.int .i64 k)).setCell ⟨w.heap.size, 1, none⟩ (.int .i64 n)).setCell ⟨w.heap.size, 2, none⟩ (.string s)).setCell ⟨w.heap.size, 3, none⟩ (.slice A l c)) :=
  drx_put h.bx h.kp h.rd h.hp h.hq hg rfl h.ie.en (by have := h.wg; omega) h.cl
theorem BentS.xs (h : BentS w g p Y M k n s A l c t p' W) : (W.cell? ⟨w.heap.size, 0, none⟩ = some (.int .i64 0) ∧ W.cell? ⟨w.heap.size, 1, none⟩ = some (.int .i64 0) ∧ W.cell? ⟨w.heap.size, 2, none⟩ = some (.string ⟨#[]⟩) ∧ W.cell? ⟨w.heap.size, 3, none⟩ = some (.slice none 0 0)) ∧
    (W.frozen? ⟨w.heap.size, 0, none⟩ = false ∧ W.frozen? ⟨w.heap.size, 1, none⟩ = false ∧ W.frozen? ⟨w.heap.size, 2, none⟩ = false ∧ W.frozen? ⟨w.heap.size, 3, none⟩ = false) ∧
    (W.cell? ⟨Y, 0, none⟩ = some (.int .i64 k) ∧ W.cell? ⟨Y, 1, none⟩ = some (.int .i64 n) ∧ W.cell? ⟨Y, 2, none⟩ = some (.string s) ∧ W.cell? ⟨Y, 3, none⟩ = some (.slice A l c)) ∧
    (W.frozen? ⟨Y, 0, none⟩ = false ∧ W.frozen? ⟨Y, 1, none⟩ = false ∧ W.frozen? ⟨Y, 2, none⟩ = false ∧ W.frozen? ⟨Y, 3, none⟩ = false) :=
  ⟨⟨h.bx.cell 0, h.bx.cell 1, h.bx.cell 2, h.bx.cell 3⟩, ⟨h.bx.frozen 0, h.bx.frozen 1, h.bx.frozen 2, h.bx.frozen 3⟩, blkE_cells h.by_, ⟨h.by_.frozen 0, h.by_.frozen 1, h.by_.frozen 2, h.by_.frozen 3⟩⟩
theorem put4_cells {W : World} {X : Nat} {T : TypeId} (h : Blk W X T zero4) (k n : Int) (s : ByteArray) (A : Option Addr) (l c : Nat) :
    (W.setCell ⟨X, 0, none⟩ (.int .i64 k)).cell? ⟨X, 0, none⟩ = some (.int .i64 k) ∧ ((W.setCell ⟨X, 0, none⟩ (.int .i64 k)).setCell ⟨X, 1, none⟩ (.int .i64 n)).cell? ⟨X, 1, none⟩ = some (.int .i64 n) ∧
    (((W.setCell ⟨X, 0, none⟩ (.int .i64 k)).setCell ⟨X, 1, none⟩ (.int .i64 n)).setCell ⟨X, 2, none⟩ (.string s)).cell? ⟨X, 2, none⟩ = some (.string s) ∧
    ((((W.setCell ⟨X, 0, none⟩ (.int .i64 k)).setCell ⟨X, 1, none⟩ (.int .i64 n)).setCell ⟨X, 2, none⟩ (.string s)).setCell ⟨X, 3, none⟩ (.slice A l c)).cell? ⟨X, 3, none⟩ = some (.slice A l c) := by
  have B1 := h.put 0 (.int .i64 k)
  have B2 := B1.put 1 (.int .i64 n)
  have B3 := B2.put 2 (.string s)
  have B4 := B3.put 3 (.slice A l c)
  exact ⟨B1.cell 0, B2.cell 1, B3.cell 2, B4.cell 3⟩
theorem BentS.keepR {W' : World} {p'' : Nat} (h : BentS w g p Y M k n s A l c t p' W) (hg : g < w.heap.size) (hk : Keep g W W') (hR : Rd W' g p'') (h1 : p' ≤ p'') (h2 : p'' ≤ p + 400) : BentS w g p Y M k n s A l c t p'' W' := by
  have hyy := h.yy
  exact ⟨hk.blk h.bx (by omega), hk.blk h.by_ (by omega), h.ie.keep hk (.inl (by omega)), h.wg, h.cl, hR, h.kp.trans hk, Nat.le_trans h.hp h1, h2, hyy⟩
end
def bentKinds : List Int := [0, 5, 3, 4]
def bentNums : List Int := [1, -1, 1000001]
def bentTexts : List (List UInt8) := [[108, 101, 116], [88], [60], [105, 110, 116], [120]]
theorem bentTexts_le : ∀ l ∈ bentTexts, l.length ≤ 3 ∧ l ≠ [117, 110, 117, 115, 101, 100] := by decide

set_option maxHeartbeats 8000000 in
set_option maxRecDepth 20000 in
theorem l4Bent (g p : Nat) (w : World) (h : Rd w g p) (hp : p ≤ 9000) :
    Calls Tryd.prog 45 #[.pointer (some ⟨g, 0, none⟩)] w (DrX g p 400 500 w.heap.size w) := by
  have hlt := h.lt
  have HXL := Lib.hid (Blk.alloc_ w 25 zero4)
  have HKL := Lib.hid (keep_alloc (Keep.refl g w) (.cells zero4.toArray 25))
  have HS := Lib.hid (l4Some g p _ (rd_alloc h (.cells zero4.toArray 25)) (by omega))
  clear h
  go_enter Tryd.func45, Tryd.ntmps45
  go_wp2_with fail
  refine HS.out.mono ?_
  rintro e w1 ⟨xk, xn, xs, xA, xl, xc, x, p1, rfl, hx, hxw, hxc, hp1, hp2, hR1, hK1⟩
  have HX1 : Hid (Blk w1 w.heap.size 25 zero4) := hK1.blk HXL.out (by omega)
  have hl3 : w.heap.size < w1.heap.size := HX1.out.lt
  have hba : Below w1.heap.size w1 (w1.alloc (.cells #[.int .i64 xk, .int .i64 xn, .string xs, .slice xA xl xc] 25)) := (Below.refl _ _).alloc (Nat.le_refl _) _
  have S1 : Hid (BentS w g p w1.heap.size 200 xk xn xs xA xl xc x p1 (w1.alloc (.cells #[.int .i64 xk, .int .i64 xn, .string xs, .slice xA xl xc] 25))) :=
    ⟨HX1.out.alloc _, Blk.alloc_ w1 25 [.int .i64 xk, .int .i64 xn, .string xs, .slice xA xl xc], (hx.down (by simp [World.size_alloc])).ey hba rfl, hxw, hxc, rd_alloc hR1 _, keep_alloc (HKL.out.trans hK1) _, hp1, by omega, hl3⟩
  clear hx hxw hxc hR1 hK1 hba HX1 HXL HKL HS
  go_upto_region 2 with (fail)
  generalize w1.alloc (.cells #[.int .i64 xk, .int .i64 xn, .string xs, .slice xA xl xc] 25) = w2 at *
  generalize w1.heap.size = Y at *
  go_wp2_with fail
  refine (pick g p1 48 w2 S1.out.rd (by omega) (by omega) (by omega)).mono ?_
  rintro e w3 ⟨r, rfl, hr0, hr1, hR3, hK3, hs3⟩
  have S3 := Lib.hid (S1.out.keepR hlt hK3 hR3 (by omega) (by omega))
  have hrn : (0 : Int) ≤ (r : Int) := by omega
  clear hr0 hr1 hs3 hR3 hK3 S1 hp1
  have hlt3 : g < w3.heap.size := S3.out.rd.lt
  have hYl : Y < w3.heap.size := S3.out.by_.lt
  have hYw : w.heap.size < Y := S3.out.yy
  by_cases r0 : r = 0
  · subst r0
    go_wp2_with fail
    refine (numOf g (p1 + 1) w3.heap.size 4 4 bentKinds _ (by exact rd_alloc S3.out.rd _) (by omega) (by exact Blk.alloc_ _ _ (ints bentKinds)) (by unfold Hid; omega) rfl (by omega) (by omega)).mono ?_
    rintro e w4 ⟨v4, p4, rfl, ⟨m, hm, rfl⟩, hp3, hp4, hR4, hK4⟩
    have S4 := Lib.hid (S3.out.keepR hlt ((keep_alloc (Keep.refl _ _) _).trans hK4) hR4 (by omega) (by omega))
    obtain ⟨_, _, ⟨z0, z1, z2, z3⟩, ⟨u0, u1, u2, u3⟩⟩ := S4.out.xs
    have S5 := Lib.hid (S4.out.put0 hlt m)
    clear hm hp3 hp4 hR4 hK4 S3 S4
    go_upto_region 14 with (fail)
    generalize w4.setCell ⟨Y, 0, none⟩ (.int .i64 m) = w5 at *
    clear z0 z1 z2 z3 u0 u1 u2 u3
    obtain ⟨⟨x0, x1, x2, x3⟩, ⟨y0, y1, y2, y3⟩, ⟨z0, z1, z2, z3⟩, _⟩ := S5.out.xs
    obtain ⟨q0, q1, q2, q3⟩ := put4_cells S5.out.bx m xn xs xA xl xc
    have RES := Lib.hid (S5.out.res hlt 500 (by omega))
    go_wp2_with fail
    refine bodyPost_ret (v := .agg #[.int .i64 m, .int .i64 xn, .string xs, .slice xA xl xc]) (by simp [results, Tryd.results45, go_sem, q0, q1, q2, q3]) rfl ?_
    exact RES.out
  by_cases r1 : r = 1
  · subst r1
    go_wp2_with fail
    refine (numOf g (p1 + 1) w3.heap.size 3 3 bentNums _ (by exact rd_alloc S3.out.rd _) (by omega) (by exact Blk.alloc_ _ _ (ints bentNums)) (by unfold Hid; omega) rfl (by omega) (by omega)).mono ?_
    rintro e w4 ⟨v4, p4, rfl, ⟨m, hm, rfl⟩, hp3, hp4, hR4, hK4⟩
    have S4 := Lib.hid (S3.out.keepR hlt ((keep_alloc (Keep.refl _ _) _).trans hK4) hR4 (by omega) (by omega))
    obtain ⟨_, _, ⟨z0, z1, z2, z3⟩, ⟨u0, u1, u2, u3⟩⟩ := S4.out.xs
    have S5 := Lib.hid (S4.out.put1 hlt m)
    clear hm hp3 hp4 hR4 hK4 S3 S4
    go_upto_region 14 with (fail)
    generalize w4.setCell ⟨Y, 1, none⟩ (.int .i64 m) = w5 at *
    clear z0 z1 z2 z3 u0 u1 u2 u3
    obtain ⟨⟨x0, x1, x2, x3⟩, ⟨y0, y1, y2, y3⟩, ⟨z0, z1, z2, z3⟩, _⟩ := S5.out.xs
    obtain ⟨q0, q1, q2, q3⟩ := put4_cells S5.out.bx xk m xs xA xl xc
    have RES := Lib.hid (S5.out.res hlt 500 (by omega))
    go_wp2_with fail
    refine bodyPost_ret (v := .agg #[.int .i64 xk, .int .i64 m, .string xs, .slice xA xl xc]) (by simp [results, Tryd.results45, go_sem, q0, q1, q2, q3]) rfl ?_
    exact RES.out
  by_cases r2 : r = 2
  · subst r2
    go_wp2_with fail
    refine (strOf g (p1 + 1) w3.heap.size 5 5 bentTexts _ (by exact rd_alloc S3.out.rd _) (by omega) (by exact Blk.alloc_ _ _ (strV bentTexts)) (by unfold Hid; omega) rfl (by omega) (by omega)).mono ?_
    rintro e w4 ⟨v4, p4, rfl, ⟨m, hm, rfl⟩, hp3, hp4, hR4, hK4⟩
    have S4 := Lib.hid (S3.out.keepR hlt ((keep_alloc (Keep.refl _ _) _).trans hK4) hR4 (by omega) (by omega))
    obtain ⟨_, _, ⟨z0, z1, z2, z3⟩, ⟨u0, u1, u2, u3⟩⟩ := S4.out.xs
    have hm1 := bentTexts_le m hm
    have S5 := Lib.hid (S4.out.put2 hlt ⟨m.toArray⟩ (by rw [size_mk]; omega) (by simpa using hm1.2))
    clear hm hp3 hp4 hR4 hK4 S3 S4 hm1
    go_upto_region 14 with (fail)
    generalize w4.setCell ⟨Y, 2, none⟩ (.string ⟨m.toArray⟩) = w5 at *
    clear z0 z1 z2 z3 u0 u1 u2 u3
    obtain ⟨⟨x0, x1, x2, x3⟩, ⟨y0, y1, y2, y3⟩, ⟨z0, z1, z2, z3⟩, _⟩ := S5.out.xs
    obtain ⟨q0, q1, q2, q3⟩ := put4_cells S5.out.bx xk xn ⟨m.toArray⟩ xA xl xc
    have RES := Lib.hid (S5.out.res hlt 500 (by omega))
    go_wp2_with fail
    refine bodyPost_ret (v := .agg #[.int .i64 xk, .int .i64 xn, .string ⟨m.toArray⟩, .slice xA xl xc]) (by simp [results, Tryd.results45, go_sem, q0, q1, q2, q3]) rfl ?_
    exact RES.out
  have b0 : ((r : Int) == 0) = false := by rw [beq_eq_false_iff_ne]; omega
  have b1 : ((r : Int) == 1) = false := by rw [beq_eq_false_iff_ne]; omega
  have b2 : ((r : Int) == 2) = false := by rw [beq_eq_false_iff_ne]; omega
  by_cases r3 : r = 3
  · subst r3
    clear r0 r1 r2 b0 b1 b2
    go_wp2_with fail
    go_loopw [4] (fun v wr => ∃ (i : Nat) (zk zn : Int) (zs : ByteArray) (zA : Option Addr) (zl zc : Nat) (z : Ex), v = .int .i64 (i : Int) ∧ i ≤ 5 ∧ BentS w g p Y (200 + 4 * i) zk zn zs zA zl zc z (p1 + 1) wr) (fun v _ => 5 - (intOf v).toNat)
    case atStart => exact ⟨0, xk, xn, xs, xA, xl, xc, x, rfl, by omega, S3.out⟩
    case round =>
      obtain ⟨i, zk, zn, zs, zA, zl, zc, z, rfl, hi, hS⟩ := hrel
      have SR := Lib.hid hS
      clear hS S3
      by_cases hi5 : i < 5
      · obtain ⟨_, _, ⟨z0, z1, z2, z3⟩, ⟨u0, u1, u2, u3⟩⟩ := SR.out.xs
        have SN := Lib.hid (SR.out.wrap hlt)
        have hyl : Y < wr.heap.size := SR.out.by_.lt
        have hi6 : (i : Int) < 5 := by omega
        clear SR
        go_wp2_with fail
        go_roundw
        case rel => exact ⟨i + 1, 4, 0, ⟨#[105, 110, 116]⟩, _, 1, 1, _, by go_num, by omega, SN.out⟩
        case measure => simp [intOf]; omega
      · have hi6 : ¬ (i : Int) < 5 := by omega
        obtain ⟨⟨x0, x1, x2, x3⟩, ⟨y0, y1, y2, y3⟩, ⟨z0, z1, z2, z3⟩, _⟩ := SR.out.xs
        obtain ⟨q0, q1, q2, q3⟩ := put4_cells SR.out.bx zk zn zs zA zl zc
        have RES := Lib.hid (SR.out.res hlt 500 (by omega))
        go_wp2_with fail
        refine bodyPost_ret (v := .agg #[.int .i64 zk, .int .i64 zn, .string zs, .slice zA zl zc]) (by simp [results, Tryd.results45, go_sem, q0, q1, q2, q3]) rfl ?_
        exact RES.out
  · have b3 : ((r : Int) == 3) = false := by rw [beq_eq_false_iff_ne]; omega
    clear r0 r1 r2 r3
    obtain ⟨⟨x0, x1, x2, x3⟩, ⟨y0, y1, y2, y3⟩, ⟨z0, z1, z2, z3⟩, _⟩ := S3.out.xs
    obtain ⟨q0, q1, q2, q3⟩ := put4_cells S3.out.bx xk xn xs xA xl xc
    have RES := Lib.hid (S3.out.res hlt 500 (by omega))
    go_wp2_with fail
    refine bodyPost_ret (v := .agg #[.int .i64 xk, .int .i64 xn, .string xs, .slice xA xl xc]) (by simp [results, Tryd.results45, go_sem, q0, q1, q2, q3]) rfl ?_
    exact RES.out

/-- A drawn one, ready to be used: its cells in memory that stands. -/
def drawExprOkR (w : World) (e : Ending) (w' : World) : Prop :=
  ∃ (k n : Int) (s : ByteArray) (A : Option Addr) (l c : Nat) (t : Ex), e = .returned (.agg #[.int .i64 k, .int .i64 n, .string s, .slice A l c]) ∧ IsEV w' [.int .i64 k, .int .i64 n, .string s, .slice A l c] t ∧ wgt t ≤ 500 ∧ CleanE t ∧ Below w.heap.size w w'
set_option maxHeartbeats 4000000 in
set_option maxRecDepth 20000 in
theorem drawExprOk (A : Option Addr) (n c : Nat) (z : List Int) (w : World) (hz : IsRow .u8 w A n c z) :
    Calls Tryd.prog 35 #[.slice A n c] w (drawExprOkR w) := by
  have hba : Below w.heap.size w (w.alloc (.cells zero4.toArray 25)) := (Below.refl _ _).alloc (Nat.le_refl _) _
  have HZ := Lib.hid (isRow_below hz hba)
  have HX := Lib.hid (Blk.alloc_ w 25 zero4)
  have HB := Lib.hid hba
  clear hz hba
  go_enter Tryd.func35, Tryd.ntmps35
  go_wp2_with fail
  refine (openIt A n c z _ HZ.out).mono ?_
  rintro e w1 ⟨rfl, hR1, hb1⟩
  have HX1 : Hid (Blk w1 w.heap.size 25 zero4) := HX.out.below hb1 (by simp)
  have HB1 : Hid (Below w.heap.size w w1) := HB.out.trans (hb1.mono (by simp))
  have hsz := hb1.size
  simp only [World.size_alloc] at hsz hR1
  have HB4 := Lib.hid (l4Bent _ 0 w1 hR1 (by omega))
  have hlt := hR1.lt
  clear hb1 hR1 HX HB HZ
  go_wp2_with fail
  refine HB4.out.mono ?_
  rintro e w2 ⟨xk, xn, xs, xA, xl, xc, x, p1, rfl, hx, hxw, hxc, hp1, hp2, hR2, hK2⟩
  have HX2 : Hid (Blk w2 w.heap.size 25 zero4) := hK2.blk HX1.out (by omega)
  have HB2 : Hid (Below w.heap.size w w2) := HB1.out.trans (hK2.below (by omega) (by omega))
  have kX : Keep w.heap.size w2 ((((w2.setCell ⟨w.heap.size, 0, none⟩ (.int .i64 xk)).setCell ⟨w.heap.size, 1, none⟩ (.int .i64 xn)).setCell ⟨w.heap.size, 2, none⟩ (.string xs)).setCell ⟨w.heap.size, 3, none⟩ (.slice xA xl xc)) := ((((Keep.refl _ _).set 0 _).set 1 _).set 2 _).set 3 _
  have RES : drawExprOkR w (.returned (.agg #[.int .i64 xk, .int .i64 xn, .string xs, .slice xA xl xc])) _ := ⟨xk, xn, xs, xA, xl, xc, x, rfl, (hx.keep kX (by omega)).ev, hxw, hxc, HB2.out.trans (kX.below (Nat.le_refl _) HB2.out.size)⟩
  have HRES := Lib.hid RES
  have x0 : w2.cell? ⟨w.heap.size, 0, none⟩ = some (.int .i64 0) := HX2.out.cell 0
  have x1 : w2.cell? ⟨w.heap.size, 1, none⟩ = some (.int .i64 0) := HX2.out.cell 1
  have x2 : w2.cell? ⟨w.heap.size, 2, none⟩ = some (.string ⟨#[]⟩) := HX2.out.cell 2
  have x3 : w2.cell? ⟨w.heap.size, 3, none⟩ = some (.slice none 0 0) := HX2.out.cell 3
  have y0 := HX2.out.frozen 0
  have y1 := HX2.out.frozen 1
  have y2 := HX2.out.frozen 2
  have y3 := HX2.out.frozen 3
  obtain ⟨q0, q1, q2, q3⟩ := put4_cells HX2.out xk xn xs xA xl xc
  clear hx hxw hxc hp1 hp2 hR2 hK2 kX RES HX1 HB1 HB4
  go_wp2_with fail
  refine bodyPost_ret (v := .agg #[.int .i64 xk, .int .i64 xn, .string xs, .slice xA xl xc]) (by simp [results, Tryd.results35, go_sem, q0, q1, q2, q3]) rfl ?_
  exact HRES.out

/-- A drawn one, ready to be used: its cells in memory that stands. -/
def drawExprWordsR (w : World) (e : Ending) (w' : World) : Prop :=
  ∃ (k n : Int) (s : ByteArray) (A : Option Addr) (l c : Nat) (t : Ex), e = .returned (.agg #[.int .i64 k, .int .i64 n, .string s, .slice A l c]) ∧ IsEV w' [.int .i64 k, .int .i64 n, .string s, .slice A l c] t ∧ wgt t ≤ 500 ∧ CleanE t ∧ Below w.heap.size w w'
set_option maxHeartbeats 4000000 in
set_option maxRecDepth 20000 in
theorem drawExprWords (A : Option Addr) (n c : Nat) (z : List Int) (w : World) (hz : IsRow .u8 w A n c z) :
    Calls Tryd.prog 26 #[.slice A n c] w (drawExprWordsR w) := by
  have hba : Below w.heap.size w (w.alloc (.cells zero4.toArray 25)) := (Below.refl _ _).alloc (Nat.le_refl _) _
  have HZ := Lib.hid (isRow_below hz hba)
  have HX := Lib.hid (Blk.alloc_ w 25 zero4)
  have HB := Lib.hid hba
  clear hz hba
  go_enter Tryd.func26, Tryd.ntmps26
  go_wp2_with fail
  refine (openIt A n c z _ HZ.out).mono ?_
  rintro e w1 ⟨rfl, hR1, hb1⟩
  have HX1 : Hid (Blk w1 w.heap.size 25 zero4) := HX.out.below hb1 (by simp)
  have HB1 : Hid (Below w.heap.size w w1) := HB.out.trans (hb1.mono (by simp))
  have hsz := hb1.size
  simp only [World.size_alloc] at hsz hR1
  have HB4 := Lib.hid (l4Bent _ 0 w1 hR1 (by omega))
  have hlt := hR1.lt
  clear hb1 hR1 HX HB HZ
  go_wp2_with fail
  refine HB4.out.mono ?_
  rintro e w2 ⟨xk, xn, xs, xA, xl, xc, x, p1, rfl, hx, hxw, hxc, hp1, hp2, hR2, hK2⟩
  have HX2 : Hid (Blk w2 w.heap.size 25 zero4) := hK2.blk HX1.out (by omega)
  have HB2 : Hid (Below w.heap.size w w2) := HB1.out.trans (hK2.below (by omega) (by omega))
  have kX : Keep w.heap.size w2 ((((w2.setCell ⟨w.heap.size, 0, none⟩ (.int .i64 xk)).setCell ⟨w.heap.size, 1, none⟩ (.int .i64 xn)).setCell ⟨w.heap.size, 2, none⟩ (.string xs)).setCell ⟨w.heap.size, 3, none⟩ (.slice xA xl xc)) := ((((Keep.refl _ _).set 0 _).set 1 _).set 2 _).set 3 _
  have RES : drawExprWordsR w (.returned (.agg #[.int .i64 xk, .int .i64 xn, .string xs, .slice xA xl xc])) _ := ⟨xk, xn, xs, xA, xl, xc, x, rfl, (hx.keep kX (by omega)).ev, hxw, hxc, HB2.out.trans (kX.below (Nat.le_refl _) HB2.out.size)⟩
  have HRES := Lib.hid RES
  have x0 : w2.cell? ⟨w.heap.size, 0, none⟩ = some (.int .i64 0) := HX2.out.cell 0
  have x1 : w2.cell? ⟨w.heap.size, 1, none⟩ = some (.int .i64 0) := HX2.out.cell 1
  have x2 : w2.cell? ⟨w.heap.size, 2, none⟩ = some (.string ⟨#[]⟩) := HX2.out.cell 2
  have x3 : w2.cell? ⟨w.heap.size, 3, none⟩ = some (.slice none 0 0) := HX2.out.cell 3
  have y0 := HX2.out.frozen 0
  have y1 := HX2.out.frozen 1
  have y2 := HX2.out.frozen 2
  have y3 := HX2.out.frozen 3
  obtain ⟨q0, q1, q2, q3⟩ := put4_cells HX2.out xk xn xs xA xl xc
  clear hx hxw hxc hp1 hp2 hR2 hK2 kX RES HX1 HB1 HB4
  go_wp2_with fail
  refine bodyPost_ret (v := .agg #[.int .i64 xk, .int .i64 xn, .string xs, .slice xA xl xc]) (by simp [results, Tryd.results26, go_sem, q0, q1, q2, q3]) rfl ?_
  exact HRES.out
end Go.Proofs.YtfjmjlpobbjjdaaDoor
