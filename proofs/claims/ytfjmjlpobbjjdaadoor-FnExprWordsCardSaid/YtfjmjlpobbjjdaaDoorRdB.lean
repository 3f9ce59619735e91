/- The program's reader of words: level. -/
import Derived.Test.YtfjmjlpobbjjdaaDoorRdA
namespace Go.Proofs.YtfjmjlpobbjjdaaDoor
open Go.RowKit Ilp
set_option linter.unusedVariables false
set_option linter.unusedSimpArgs false

/-- What is read: a tree in new blocks, and what is left. -/
def TreeR (V : World) (R : Nat) (xs : List ByteArray) (W : World) (e : Ending) (w' : World) : Prop :=
  ∃ (k n : Int) (s : ByteArray) (A : Option Addr) (l c : Nat) (t : Ex) (xs' : List ByteArray) (bad' : Bool) (dp' : Int) (A' : Option Addr) (m' c' : Nat), e = .returned (.agg #[.int .i64 k, .int .i64 n, .string s, .slice A l c]) ∧ IsEN W.heap.size w' [.int .i64 k, .int .i64 n, .string s, .slice A l c] t ∧ RdS V R xs' bad' dp' A' m' c' w' ∧ Keep R W w' ∧ xs'.length ≤ xs.length ∧ wgt t ≤ 10 * (xs.length - xs'.length)
theorem keep_far {R X : Nat} {W w w' : World} (h : Keep R W w) (hk : Keep X w w') (hX : W.heap.size ≤ X) : Keep R W w' :=
  ⟨hk.os.trans h.os, hk.tape.trans h.tape, hk.output.trans h.output, Nat.le_trans h.size hk.size, fun k hl hne => (hk.block k (Nat.lt_of_lt_of_le hl h.size) (by omega)).trans (h.block k hl hne)⟩
theorem isEN_ey {B B' Y : Nat} {W : World} {cs : List Value} {t : Ex} (h : IsEN B' W cs t) (hB : B ≤ B') (hY : Y < B') : IsEY B Y W cs t := by
  obtain ⟨d, h⟩ := h
  exact ⟨d, h.keep (fun _ _ => rfl) (fun b hb => ⟨⟨Nat.le_trans hB hb.1, hb.2⟩, by have := hb.1; omega⟩)⟩
theorem isEY_two {B Y b : Nat} {W : World} {T : TypeId} {v0 v1 v2 v3 u0 u1 u2 u3 : Value} {x y : Ex} (hb : Blk W b T [v0, v1, v2, v3, u0, u1, u2, u3]) (hB : B ≤ b) (hY : b ≠ Y) (hx : IsEY B Y W [v0, v1, v2, v3] x) (hy : IsEY B Y W [u0, u1, u2, u3] y) (k n : Int) (s : ByteArray) (hs : s.size ≤ maxLen) :
    IsEY B Y W [.int .i64 k, .int .i64 n, .string s, .slice (some ⟨b, 0, none⟩) 2 2] (.mk k n s.data.toList [x, y]) := by
  obtain ⟨d, hx⟩ := hx
  obtain ⟨d', hy⟩ := hy
  refine ⟨max d d' + 1, some ⟨b, 0, none⟩, 2, exC_mk k n s [x, y] _ 2 2 rfl, by simp [Ex.kids], by unfold maxLen; omega, hs, ?_⟩
  intro i z hz
  match i with
  | 0 =>
    simp only [Ex.kids, List.getElem?_cons_zero, Option.some.injEq] at hz; subst hz
    refine ⟨b, 0, _, rfl, ⟨⟨hB, hb.lt⟩, hY⟩, hx.deep (Nat.le_max_left _ _), fun j v hv => ?_⟩
    rw [show 0 + 0 * 4 + j = j by omega, hb.cell]
    have hj := (List.getElem?_eq_some_iff.1 hv).1
    simp only [List.length_cons, List.length_nil] at hj
    match j with
    | 0 => exact hv
    | 1 => exact hv
    | 2 => exact hv
    | 3 => exact hv
  | 1 =>
    simp only [Ex.kids, List.getElem?_cons_zero, List.getElem?_cons_succ, Option.some.injEq] at hz; subst hz
    refine ⟨b, 0, _, rfl, ⟨⟨hB, hb.lt⟩, hY⟩, hy.deep (Nat.le_max_right _ _), fun j v hv => ?_⟩
    rw [show 0 + 1 * 4 + j = j + 4 by omega, hb.cell]
    simpa using hv
/-- How many words are left. -/
def rdLeft (R : Nat) (w : World) : Nat := match w.cell? ⟨R, 0, none⟩ with
  | some (.slice _ n _) => n
  | _ => 0
theorem rdLeft_eq {V : World} {R : Nat} {xs : List ByteArray} {bad : Bool} {dp : Int} {A : Option Addr} {m c : Nat} {W : World} (h : RdS V R xs bad dp A m c W) : rdLeft R W = xs.length := by
  unfold rdLeft; rw [h.cells.1]; exact h.ln.symm
def HldQ (N : Nat) : Prop := ∀ (V : World) (R : Nat) (xs : List ByteArray) (bad : Bool) (dp : Int) (A : Option Addr) (m c : Nat) (W : World), xs.length ≤ N → RdS V R xs bad dp A m c W → Tabs V →
  Calls Tryd.prog 92 #[.pointer (some ⟨R, 0, none⟩)] W (TreeR V R xs W)
def LvlQ (N t : Nat) : Prop := ∀ (V : World) (R : Nat) (xs : List ByteArray) (bad : Bool) (dp : Int) (A : Option Addr) (m c : Nat) (W : World), xs.length ≤ N → RdS V R xs bad dp A m c W → Tabs V →
  Calls Tryd.prog 62 #[.pointer (some ⟨R, 0, none⟩), .int .i64 (t : Int)] W (TreeR V R xs W)
set_option maxHeartbeats 2000000 in
set_option maxRecDepth 20000 in
theorem level4 (N : Nat) (hh : HldQ N) : LvlQ N 4 := by
  intro V R xs bad dp A m c W hN h hT
  have hb1 : Below W.heap.size W (W.alloc (.cells zero4.toArray 25)) := (Below.refl _ _).alloc (Nat.le_refl _) _
  have C := Lib.hid (hh V R xs bad dp A m c _ hN (h.below hb1) hT)
  have HX := Lib.hid (Blk.alloc_ W 25 zero4)
  have hRW : R < W.heap.size := h.bk.lt
  have hVR := h.vr
  clear h hT hh hb1
  go_enter Tryd.func62, Tryd.ntmps62
  go_wp2_with fail
  refine C.out.mono ?_
  rintro e w2 ⟨k, n, s, A1, l, c1, t, ys, b2, d2, A2, m2, c2, rfl, ht, hR, hK, hlen, hwg⟩
  have HX2 : Hid (Blk w2 W.heap.size 25 zero4) := hK.blk HX.out (by omega)
  have kX := put4_keep w2 W.heap.size k n s A1 l c1
  have RES : TreeR V R xs W (.returned (.agg #[.int .i64 k, .int .i64 n, .string s, .slice A1 l c1])) (put4 w2 W.heap.size k n s A1 l c1) :=
    ⟨k, n, s, A1, l, c1, t, ys, b2, d2, A2, m2, c2, rfl, (ht.keep kX (by simp)).down (by simp), hR.keep kX (by omega) (by omega), keep_far (keep_far (Keep.of ((Below.refl _ _).alloc (Nat.le_refl _) _)) (Keep.refl _ _) (Nat.le_refl _) |>.trans hK) kX (Nat.le_refl _), hlen, hwg⟩
  have HRES := Lib.hid RES
  have x0 : w2.cell? ⟨W.heap.size, 0, none⟩ = some (.int .i64 0) := HX2.out.cell 0
  have x1 : w2.cell? ⟨W.heap.size, 1, none⟩ = some (.int .i64 0) := HX2.out.cell 1
  have x2 : w2.cell? ⟨W.heap.size, 2, none⟩ = some (.string ⟨#[]⟩) := HX2.out.cell 2
  have x3 : w2.cell? ⟨W.heap.size, 3, none⟩ = some (.slice none 0 0) := HX2.out.cell 3
  have y0 := HX2.out.frozen 0
  have y1 := HX2.out.frozen 1
  have y2 := HX2.out.frozen 2
  have y3 := HX2.out.frozen 3
  obtain ⟨q0, q1, q2, q3⟩ := put4_cells HX2.out k n s A1 l c1
  clear ht hR hK kX RES C HX
  go_wp2_with fail
  refine bodyPost_ret (v := .agg #[.int .i64 k, .int .i64 n, .string s, .slice A1 l c1]) (by simp [results, Tryd.results62, go_sem, q0, q1, q2, q3]) rfl ?_
  exact HRES.out
/-- The loop's: the result's cell, what is read so far, what is left. -/
def LvR (V : World) (R X4 X5 : Nat) (xs : List ByteArray) (W : World) (M : Nat) (wr : World) : Prop :=
  ∃ (k n : Int) (s : ByteArray) (A : Option Addr) (l c : Nat) (u : Ex) (ys : List ByteArray) (bd : Bool) (dp : Int) (A' : Option Addr) (m' c' : Nat), Blk wr X4 25 zero4 ∧ Blk wr X5 25 [.int .i64 k, .int .i64 n, .string s, .slice A l c] ∧ IsEY (W.heap.size + 1) X5 wr [.int .i64 k, .int .i64 n, .string s, .slice A l c] u ∧
    RdS V R ys bd dp A' m' c' wr ∧ Keep R W wr ∧ ys.length ≤ xs.length ∧ ys.length ≤ M ∧ wgt u ≤ 10 * (xs.length - ys.length)
/-- Behind the call. -/
def LvT5 (V : World) (R X4 X5 : Nat) (e : List Value) (u : Ex) (zs : List ByteArray) (W : World) (v : Value) (wr : World) : Prop :=
  ∃ (k n : Int) (s : ByteArray) (A : Option Addr) (l c : Nat) (t : Ex) (us : List ByteArray) (bd : Bool) (dp : Int) (A' : Option Addr) (m' c' : Nat), v = .agg #[.int .i64 k, .int .i64 n, .string s, .slice A l c] ∧ IsEY (W.heap.size + 1) X5 wr [.int .i64 k, .int .i64 n, .string s, .slice A l c] t ∧ IsEY (W.heap.size + 1) X5 wr e u ∧ Blk wr X4 25 zero4 ∧ Blk wr X5 25 e ∧
    RdS V R us bd dp A' m' c' wr ∧ Keep R W wr ∧ us.length ≤ zs.length ∧ wgt t ≤ 10 * (zs.length - us.length)
/-- Behind the list of two. -/
def LvT6 (V : World) (R X4 X5 : Nat) (e : List Value) (mk : ByteArray) (xs zs : List ByteArray) (W : World) (v : Value) (wr : World) : Prop :=
  ∃ (g : Nat) (t : Ex) (us : List ByteArray) (bd : Bool) (dp : Int) (A' : Option Addr) (m' c' : Nat), v = .slice (some ⟨g, 0, none⟩) 2 2 ∧ IsEY (W.heap.size + 1) X5 wr [.int .i64 3, .int .i64 0, .string mk, .slice (some ⟨g, 0, none⟩) 2 2] t ∧ Blk wr X4 25 zero4 ∧ Blk wr X5 25 e ∧
    RdS V R us bd dp A' m' c' wr ∧ Keep R W wr ∧ us.length ≤ zs.length ∧ wgt t ≤ 10 * (xs.length - us.length)
/-- What holds all the way through the region that reads the second part. -/
structure LvK (C : Nat → Value) (wd : World) (T5 T6 : Value → World → Prop) (ag : Value → Value) (F : World → Prop) (listed : Array Bool) (f : Nat → Value) (W : World) : Prop where
  cv : ∀ j, j < 5 → got listed j → f j = C j
  w5 : ¬ got listed 5 → W = wd
  t5 : got listed 5 → ¬ got listed 6 → T5 (f 5) W
  t6 : got listed 6 → ¬ got listed 8 → T6 (f 6) W
  t7 : got listed 7 → f 7 = ag (f 6)
  fin : got listed 8 → F W
  o6 : got listed 6 → got listed 5
  o61 : got listed 6 → got listed 1
  o7 : got listed 7 → got listed 6
  o8 : got listed 8 → ∀ j, j < 8 → got listed j
section
variable {C : Nat → Value} {wd : World} {T5 T6 : Value → World → Prop} {ag : Value → Value} {F : World → Prop} {listed : Array Bool} {f : Nat → Value} {W W' : World}
theorem got_ne {i j : Nat} (h : got (listed.setIfInBounds i true) j) (hij : j ≠ i) : got listed j := by
  rcases got_set h with e | e
  · exact e
  · exact absurd e hij
theorem LvK.con (h : LvK C wd T5 T6 ag F listed f W) {i : Nat} (hi : i < 5) (hn : ¬ got listed i) : LvK C wd T5 T6 ag F (listed.setIfInBounds i true) (upd f i (C i)) W := by
  have hk : ∀ j, 5 ≤ j → upd f i (C i) j = f j := fun j hj => upd_ne f _ (by omega)
  refine ⟨fun j hj hg => ?_, fun e => h.w5 (fun g => e (got_keep g)), fun g g' => ?_, fun g g' => ?_, fun g => ?_, fun g => h.fin (got_ne g (by omega)), fun g => got_keep (h.o6 (got_ne g (by omega))), fun g => got_keep (h.o61 (got_ne g (by omega))), fun g => got_keep (h.o7 (got_ne g (by omega))), fun g j hj => got_keep (h.o8 (got_ne g (by omega)) j hj)⟩
  · by_cases e : i = j
    · subst e; rw [upd_self]
    · rw [upd_ne f _ e]; exact h.cv j hj (got_ne hg (fun e2 => e e2.symm))
  · rw [hk 5 (by omega)]; exact h.t5 (got_ne g (by omega)) (fun e => g' (got_keep e))
  · rw [hk 6 (by omega)]; exact h.t6 (got_ne g (by omega)) (fun e => g' (got_keep e))
  · rw [hk 7 (by omega), hk 6 (by omega)]; exact h.t7 (got_ne g (by omega))
theorem LvK.s5 (h : LvK C wd T5 T6 ag F listed f W) (hn : ¬ got listed 5) {v : Value} (hv : T5 v W') (hs : 5 < listed.size) : LvK C wd T5 T6 ag F (listed.setIfInBounds 5 true) (upd f 5 v) W' := by
  have n6 : ¬ got listed 6 := fun g => hn (h.o6 g)
  have n7 : ¬ got listed 7 := fun g => n6 (h.o7 g)
  have n8 : ¬ got listed 8 := fun g => hn (h.o8 g 5 (by omega))
  refine ⟨fun j hj hg => ?_, fun e => absurd (got_set_self hs) e, fun _ _ => by rw [upd_self]; exact hv, fun g => absurd (got_ne g (by omega)) n6, fun g => absurd (got_ne g (by omega)) n7, fun g => absurd (got_ne g (by omega)) n8, fun g => absurd (got_ne g (by omega)) n6, fun g => absurd (got_ne g (by omega)) n6, fun g => absurd (got_ne g (by omega)) n7, fun g => absurd (got_ne g (by omega)) n8⟩
  rw [upd_ne f _ (by omega)]; exact h.cv j hj (got_ne hg (by omega))
theorem LvK.s6 (h : LvK C wd T5 T6 ag F listed f W) (hn : ¬ got listed 6) (g1 : got listed 1) (g5 : got listed 5) {v : Value} (hv : T6 v W') (hs : 6 < listed.size) : LvK C wd T5 T6 ag F (listed.setIfInBounds 6 true) (upd f 6 v) W' := by
  have n7 : ¬ got listed 7 := fun g => hn (h.o7 g)
  have n8 : ¬ got listed 8 := fun g => hn (h.o8 g 6 (by omega))
  refine ⟨fun j hj hg => ?_, fun e => absurd (got_keep g5) e, fun _ g => absurd (got_set_self hs) g, fun _ _ => by rw [upd_self]; exact hv, fun g => absurd (got_ne g (by omega)) n7, fun g => absurd (got_ne g (by omega)) n8, fun _ => got_keep g5, fun _ => got_keep g1, fun g => absurd (got_ne g (by omega)) n7, fun g => absurd (got_ne g (by omega)) n8⟩
  rw [upd_ne f _ (by omega)]; exact h.cv j hj (got_ne hg (by omega))
theorem LvK.s7 (h : LvK C wd T5 T6 ag F listed f W) (hn : ¬ got listed 7) (g6 : got listed 6) (hs : 7 < listed.size) : LvK C wd T5 T6 ag F (listed.setIfInBounds 7 true) (upd f 7 (ag (f 6))) W := by
  have n8 : ¬ got listed 8 := fun g => hn (h.o8 g 7 (by omega))
  have g5 := h.o6 g6
  have g1 := h.o61 g6
  refine ⟨fun j hj hg => ?_, fun e => absurd (got_keep g5) e, fun _ g => absurd (got_keep g6) g, fun _ _ => by rw [upd_ne f _ (by omega)]; exact h.t6 g6 n8, fun _ => by rw [upd_self, upd_ne f _ (by omega)], fun g => absurd (got_ne g (by omega)) n8, fun _ => got_keep g5, fun _ => got_keep g1, fun _ => got_keep g6, fun g => absurd (got_ne g (by omega)) n8⟩
  rw [upd_ne f _ (by omega)]; exact h.cv j hj (got_ne hg (by omega))
theorem LvK.s8 (h : LvK C wd T5 T6 ag F listed f W) (hall : ∀ j, j < 8 → got listed j) (hv : F W') (hs : 8 < listed.size) : LvK C wd T5 T6 ag F (listed.setIfInBounds 8 true) f W' :=
  ⟨fun j hj hg => h.cv j hj (hall j (by omega)), fun e => absurd (got_keep (hall 5 (by omega))) e, fun _ g => absurd (got_keep (hall 6 (by omega))) g, fun _ g => absurd (got_set_self hs) g, fun _ => h.t7 (hall 7 (by omega)), fun _ => hv, fun _ => got_keep (hall 5 (by omega)), fun _ => got_keep (hall 1 (by omega)), fun _ => got_keep (hall 6 (by omega)), fun _ j hj => got_keep (hall j hj)⟩
end
end Go.Proofs.YtfjmjlpobbjjdaaDoor
