/- Draws: DrawExprOf. -/
import Derived.Test.YtfjmjlpobbjjdaaDoorDrI
import Derived.Test.YtfjmjlpobbjjdaaDoorInv
namespace Go.Proofs.YtfjmjlpobbjjdaaDoor
open Go.RowKit Ilp
set_option linter.unusedVariables false
set_option linter.unusedSimpArgs false

/-- A drawn one, names, numbers. -/
def DrOf (w : World) (e : Ending) (w' : World) : Prop :=
  ∃ (k n : Int) (s : ByteArray) (A : Option Addr) (l c : Nat) (t : Ex) (gn gt nn mt : Nat) (ns : List ByteArray) (xs : List Int), e = .returned (.tuple #[.agg #[.int .i64 k, .int .i64 n, .string s, .slice A l c], .slice (some ⟨gn, 0, none⟩) nn nn, .slice (some ⟨gt, 0, none⟩) mt mt]) ∧ IsEV w' [.int .i64 k, .int .i64 n, .string s, .slice A l c] t ∧ wgt t ≤ 500 ∧ CleanE t ∧
    Blk w' gn 9 (strB ns) ∧ Blk w' gt 3 (ints xs) ∧ ns.length = nn ∧ xs.length = mt ∧ nn ≤ 10 ∧ mt ≤ 10 ∧ Below w.heap.size w w'
theorem drOf_put {w : World} {Y : Nat} {k n : Int} {s : ByteArray} {A : Option Addr} {l c : Nat} {t : Ex} {p : Nat} {W : World} (h : DoS w Y 500 k n s A l c t p W) {gn gt nn mt : Nat} {ns : List ByteArray} {ts : List Int} (hn : Blk W gn 9 (strB ns)) (ht : Blk W gt 3 (ints ts)) (ln : ns.length = nn) (lt : ts.length = mt) (hnn : nn ≤ 10) (hmt : mt ≤ 10) (gn1 : w.heap.size < gn) (gt1 : w.heap.size < gt) :
    DrOf w (.returned (.tuple #[.agg #[.int .i64 k, .int .i64 n, .string s, .slice A l c], .slice (some ⟨gn, 0, none⟩) nn nn, .slice (some ⟨gt, 0, none⟩) mt mt])) (put4 W w.heap.size k n s A l c) := by
  have kX := put4_keep W w.heap.size k n s A l c
  exact ⟨k, n, s, A, l, c, t, gn, gt, nn, mt, ns, ts, rfl, (h.ie.keep kX (by omega)).ev, h.wg, h.cl, kX.blk hn (by omega), kX.blk ht (by omega), ln, lt, hnn, hmt, h.be.trans (kX.below (Nat.le_refl _) h.be.size)⟩
theorem drResO {tmps : Array Value} {W : World} {X : Nat} {T : TypeId} {k n : Int} {s : ByteArray} {A : Option Addr} {l c : Nat} {sn st : Value} (h2 : tmps.getD 2 undef = .pointer (some ⟨X, 0, none⟩)) (h3 : tmps.getD 3 undef = sn) (h4 : tmps.getD 4 undef = st) (hB : Blk W X T [.int .i64 k, .int .i64 n, .string s, .slice A l c]) :
    (results Tryd.f14 tmps).run Tryd.prog W = .ok (.tuple #[.agg #[.int .i64 k, .int .i64 n, .string s, .slice A l c], sn, st]) W := by
  obtain ⟨q0, q1, q2, q3⟩ := blkE_cells hB
  simp only [Array.getD_eq_getD_getElem?] at h2 h3 h4
  simp [results, Tryd.results14, go_sem, q0, q1, q2, q3, h2, h3, h4]

/-- What holds of the memory all the way. -/
structure OgW (w : World) (Y p1 : Nat) (k n : Int) (s : ByteArray) (A : Option Addr) (l c : Nat) (t : Ex) (st c4 c7 c10 : Bool) (W : World) : Prop where
  bx : Blk W w.heap.size 25 (if st = true then [.int .i64 k, .int .i64 n, .string s, .slice A l c] else zero4)
  by_ : Blk W Y 25 [.int .i64 k, .int .i64 n, .string s, .slice A l c]
  ie : IsEN (w.heap.size + 2) W [.int .i64 k, .int .i64 n, .string s, .slice A l c] t
  rd : c10 = false → ∃ p, Rd W (w.heap.size + 1) p ∧ p ≤ p1 + 3 ∧ (c4 = false → p ≤ p1 + 1) ∧ (c7 = false → p ≤ p1 + 2)
  be : Below w.heap.size w W
  yy : w.heap.size + 1 < Y
/-- What stays of another block. -/
def Stays (X g : Nat) (W W' : World) : Prop := ∀ (b : Nat) (T : TypeId) (vs : List Value), b ≠ X → b ≠ g → Blk W b T vs → Blk W' b T vs
def SlB (X : Nat) (T : TypeId) (n : Nat) (vs : List Value) (v : Value) (W : World) : Prop := ∃ b, v = .slice (some ⟨b, 0, none⟩) n n ∧ X + 1 < b ∧ Blk W b T vs
theorem SlB.stays {X T n : Nat} {vs : List Value} {v : Value} {W W' : World} (h : SlB X T n vs v W) (hs : Stays X (X + 1) W W') : SlB X T n vs v W' := by
  obtain ⟨b, e, hb, hB⟩ := h
  exact ⟨b, e, hb, hs b T vs (by omega) (by omega) hB⟩
/-- What each operation leaves in its slot. -/
def OgC (X : Nat) (k n : Int) (s : ByteArray) (A : Option Addr) (l c : Nat) : Nat → Value → World → Prop
  | 0, v, _ => v = .agg #[.int .i64 k, .int .i64 n, .string s, .slice A l c]
  | 1, v, W => SlB X 9 4 (strB tyNames) v W
  | 2, v, _ => v = .pointer (some ⟨X + 1, 0, none⟩)
  | 3, v, W => SlB X 3 3 (ints [0, 1, -5]) v W
  | 4, v, _ => ∃ x, v = .int .i64 x
  | 5, v, _ => v = .pointer (some ⟨X + 1, 0, none⟩)
  | 6, v, W => SlB X 3 2 (ints [2, 1000]) v W
  | 7, v, _ => ∃ x, v = .int .i64 x
  | 8, v, _ => v = .pointer (some ⟨X + 1, 0, none⟩)
  | 9, v, W => SlB X 3 3 (ints [1, 4, 9999999]) v W
  | 10, v, _ => ∃ x, v = .int .i64 x
  | 11, v, W => ∃ x y z, SlB X 3 4 (ints [9, x, y, z]) v W
  | _, _, _ => True
theorem OgC.stays {X : Nat} {k n : Int} {s : ByteArray} {A : Option Addr} {l c : Nat} {W W' : World} (hs : Stays X (X + 1) W W') : ∀ (j : Nat) (v : Value), OgC X k n s A l c j v W → OgC X k n s A l c j v W' := by
  intro j v h
  match j with
  | 0 => exact h
  | 1 => exact SlB.stays h hs
  | 2 => exact h
  | 3 => exact SlB.stays h hs
  | 4 => exact h
  | 5 => exact h
  | 6 => exact SlB.stays h hs
  | 7 => exact h
  | 8 => exact h
  | 9 => exact SlB.stays h hs
  | 10 => exact h
  | 11 => obtain ⟨x, y, z, h⟩ := h; exact ⟨x, y, z, SlB.stays h hs⟩
  | j + 12 => trivial
def upd (f : Nat → Value) (i : Nat) (v : Value) : Nat → Value := fun j => if j = i then v else f j
/-- The frame: what came before, the slots of the operations. -/
def ofAct (v0 v10 : Value) (X Y : Nat) (r : Nat) (v3 v4 : Value) (f : Nat → Value) : Act :=
  { tmps := #[v0, undef, .pointer (some ⟨X, 0, none⟩), v3, v4, .pointer (some ⟨X + 1, 0, none⟩), .pointer (some ⟨Y, 0, none⟩), v0, .pointer (some ⟨X + 1, 0, none⟩), .pointer (some ⟨X + 1, 0, none⟩), v10, .pointer (some ⟨X + 1, 0, none⟩), .int .i64 (r : Int), .bool false, .bool false, undef, undef, undef, .bool false, .bool false, undef, undef, undef, f 0, f 1, f 2, f 3, f 4, f 5, f 6, f 7, f 8, f 9, f 10, f 11], defers := [] }
def got (listed : Array Bool) (j : Nat) : Prop := listed.getD j false = true
theorem got_set {listed : Array Bool} {i j : Nat} (h : got (listed.setIfInBounds i true) j) : got listed j ∨ j = i := by
  unfold got at h ⊢
  by_cases e : i = j
  · exact .inr e.symm
  · rw [getD_set_ne false e] at h; exact .inl h
theorem got_keep {listed : Array Bool} {i j : Nat} (h : got listed j) : got (listed.setIfInBounds i true) j := getD_set_true h
theorem getD_set_same {listed : Array Bool} {i j : Nat} (e : i ≠ j) : (listed.setIfInBounds i true).getD j false = listed.getD j false := getD_set_ne false e
/-- What holds all the way. -/
structure OgI (w : World) (v0 v10 : Value) (Y p1 r : Nat) (k n : Int) (s : ByteArray) (A : Option Addr) (l c : Nat) (t : Ex) (listed : Array Bool) (v3 v4 : Value) (f : Nat → Value) (W : World) : Prop where
  ow : OgW w Y p1 k n s A l c t (listed.getD 12 false) (listed.getD 4 false) (listed.getD 7 false) (listed.getD 10 false) W
  oc : ∀ j, j < 12 → got listed j → OgC w.heap.size k n s A l c j (f j) W
  o3 : got listed 13 → got listed 1 ∧ v3 = f 1
  o4 : got listed 14 → got listed 11 ∧ v4 = f 11
  o7 : got listed 7 → got listed 4
  o10 : got listed 10 → got listed 7
section
variable {w : World} {v0 v10 : Value} {Y p1 r : Nat} {k n : Int} {s : ByteArray} {A : Option Addr} {l c : Nat} {t : Ex} {listed : Array Bool} {v3 v4 : Value} {f : Nat → Value} {W W' : World}
/-- One of the twelve has come. -/
theorem OgI.step (h : OgI w v0 v10 Y p1 r k n s A l c t listed v3 v4 f W) {i : Nat} (hi : i < 12) (hn : ¬ got listed i) {v : Value} (hst : Stays w.heap.size (w.heap.size + 1) W W') (hv : OgC w.heap.size k n s A l c i v W') (h7 : i = 7 → got listed 4) (h10 : i = 10 → got listed 7)
    (hw : OgW w Y p1 k n s A l c t (listed.getD 12 false) ((listed.setIfInBounds i true).getD 4 false) ((listed.setIfInBounds i true).getD 7 false) ((listed.setIfInBounds i true).getD 10 false) W') : OgI w v0 v10 Y p1 r k n s A l c t (listed.setIfInBounds i true) v3 v4 (upd f i v) W' := by
  refine ⟨?_, fun j hj hg => ?_, fun hg => ?_, fun hg => ?_, fun hg => ?_, fun hg => ?_⟩
  · rw [getD_set_same (by omega : i ≠ 12)]; exact hw
  · by_cases e : j = i
    · subst e; unfold upd; rw [if_pos rfl]; exact hv
    · rcases got_set hg with hg | hg
      · unfold upd; rw [if_neg e]; exact OgC.stays hst j _ (h.oc j hj hg)
      · exact absurd hg e
  · rcases got_set hg with hg | hg
    · obtain ⟨h1, h2⟩ := h.o3 hg
      have : (1 : Nat) ≠ i := by rintro rfl; exact hn h1
      refine ⟨got_keep h1, ?_⟩
      unfold upd; rw [if_neg this]; exact h2
    · omega
  · rcases got_set hg with hg | hg
    · obtain ⟨h1, h2⟩ := h.o4 hg
      have : (11 : Nat) ≠ i := by rintro rfl; exact hn h1
      refine ⟨got_keep h1, ?_⟩
      unfold upd; rw [if_neg this]; exact h2
    · omega
  · rcases got_set hg with hg | hg
    · exact got_keep (h.o7 hg)
    · exact got_keep (h7 hg.symm)
  · rcases got_set hg with hg | hg
    · exact got_keep (h.o10 hg)
    · exact got_keep (h10 hg.symm)
theorem ngot {i : Nat} (h : listed.getD i true = false) : ¬ got listed i := by
  unfold got
  rw [Array.getD_eq_getD_getElem?] at h ⊢
  cases e : listed[i]? with
  | none => simp
  | some b => rw [e] at h; simp at h ⊢; exact h
theorem ngot_false {i : Nat} (h : ¬ got listed i) : listed.getD i false = false := by unfold got at h; simpa using h
theorem OgI.step0 (h : OgI w v0 v10 Y p1 r k n s A l c t listed v3 v4 f W) {i : Nat} (hi : i < 12) (hn : listed.getD i true = false) {v : Value} (hst : Stays w.heap.size (w.heap.size + 1) W W') (hv : OgC w.heap.size k n s A l c i v W') (h4 : i ≠ 4) (h7 : i ≠ 7) (h10 : i ≠ 10)
    (hw : OgW w Y p1 k n s A l c t (listed.getD 12 false) (listed.getD 4 false) (listed.getD 7 false) (listed.getD 10 false) W') : OgI w v0 v10 Y p1 r k n s A l c t (listed.setIfInBounds i true) v3 v4 (upd f i v) W' :=
  h.step hi (ngot hn) hst hv (fun e => absurd e h7) (fun e => absurd e h10) (by rw [getD_set_same h4, getD_set_same h7, getD_set_same h10]; exact hw)
theorem OgW.alloc {a b d e : Bool} (h : OgW w Y p1 k n s A l c t a b d e W) (o : Obj) : OgW w Y p1 k n s A l c t a b d e (W.alloc o) := by
  have hb : Below W.heap.size W (W.alloc o) := (Below.refl _ _).alloc (Nat.le_refl _) _
  exact ⟨h.bx.alloc _, h.by_.alloc _, h.ie.below hb, fun he => by obtain ⟨p, hr, h1⟩ := h.rd he; exact ⟨p, rd_alloc hr _, h1⟩, h.be.trans (hb.mono h.be.size), h.yy⟩
theorem stays_alloc (X g : Nat) (W : World) (o : Obj) : Stays X g W (W.alloc o) := fun b T vs _ _ h => h.alloc o
theorem stays_refl (X g : Nat) (W : World) : Stays X g W W := fun b T vs _ _ h => h
theorem stays_keep {X g : Nat} {W W' : World} (h : Keep g W W') : Stays X g W W' := fun b T vs _ hg hB => h.blk hB hg
theorem stays_put {X g : Nat} {W W' : World} (h : Keep X W W') : Stays X g W W' := fun b T vs hX _ hB => h.blk hB hX
theorem OgW.keep {a b d e b' d' e' : Bool} (h : OgW w Y p1 k n s A l c t a b d e W) (hk : Keep (w.heap.size + 1) W W') (hr : e' = false → ∃ p, Rd W' (w.heap.size + 1) p ∧ p ≤ p1 + 3 ∧ (b' = false → p ≤ p1 + 1) ∧ (d' = false → p ≤ p1 + 2)) : OgW w Y p1 k n s A l c t a b' d' e' W' := by
  have hyy := h.yy
  exact ⟨hk.blk h.bx (by omega), hk.blk h.by_ (by omega), h.ie.keep hk (by omega), hr, h.be.trans (hk.below (Nat.le_succ _) h.be.size), hyy⟩
theorem OgW.put {b d : Bool} (h : OgW w Y p1 k n s A l c t false b d true W) : OgW w Y p1 k n s A l c t true b d true (put4 W w.heap.size k n s A l c) := by
  have hyy := h.yy
  have kX := put4_keep W w.heap.size k n s A l c
  exact ⟨put4_blk h.bx k n s A l c, kX.blk h.by_ (by omega), h.ie.keep kX (by omega), (fun he => by cases he), h.be.trans (kX.below (Nat.le_refl _) h.be.size), hyy⟩
theorem got_set_self {i : Nat} (h : i < listed.size) : (listed.setIfInBounds i true).getD i false = true := by
  rw [Array.getD_eq_getD_getElem?, Array.getElem?_setIfInBounds_self_of_lt h]; rfl
theorem OgI.step12 (h : OgI w v0 v10 Y p1 r k n s A l c t listed v3 v4 f W) (hs : listed.size = 15) (hn : listed.getD 12 true = false) (g10 : got listed 10) : OgI w v0 v10 Y p1 r k n s A l c t (listed.setIfInBounds 12 true) v3 v4 f (put4 W w.heap.size k n s A l c) := by
  have hst : Stays w.heap.size (w.heap.size + 1) W (put4 W w.heap.size k n s A l c) := stays_put (put4_keep W w.heap.size k n s A l c)
  have ho := h.ow
  rw [ngot_false (ngot hn), show listed.getD 10 false = true from g10] at ho
  refine ⟨?_, fun j hj hg => ?_, fun hg => ?_, fun hg => ?_, fun hg => ?_, fun hg => ?_⟩
  · rw [got_set_self (by omega), getD_set_same (by omega : 12 ≠ 4), getD_set_same (by omega : 12 ≠ 7), getD_set_same (by omega : 12 ≠ 10), show listed.getD 10 false = true from g10]
    exact ho.put
  · rcases got_set hg with hg | hg
    · exact OgC.stays hst j _ (h.oc j hj hg)
    · omega
  · rcases got_set hg with hg | hg
    · exact ⟨got_keep (h.o3 hg).1, (h.o3 hg).2⟩
    · omega
  · rcases got_set hg with hg | hg
    · exact ⟨got_keep (h.o4 hg).1, (h.o4 hg).2⟩
    · omega
  · rcases got_set hg with hg | hg
    · exact got_keep (h.o7 hg)
    · omega
  · rcases got_set hg with hg | hg
    · exact got_keep (h.o10 hg)
    · omega
theorem OgI.stepA (h : OgI w v0 v10 Y p1 r k n s A l c t listed v3 v4 f W) {i : Nat} (hi : i = 13 ∨ i = 14) {v3' v4' : Value} (h3 : i = 13 → got listed 1 ∧ v3' = f 1) (h3' : i ≠ 13 → v3' = v3) (h4 : i = 14 → got listed 11 ∧ v4' = f 11) (h4' : i ≠ 14 → v4' = v4) : OgI w v0 v10 Y p1 r k n s A l c t (listed.setIfInBounds i true) v3' v4' f W := by
  refine ⟨?_, fun j hj hg => ?_, fun hg => ?_, fun hg => ?_, fun hg => ?_, fun hg => ?_⟩
  · rw [getD_set_same (by omega : i ≠ 12), getD_set_same (by omega : i ≠ 4), getD_set_same (by omega : i ≠ 7), getD_set_same (by omega : i ≠ 10)]; exact h.ow
  · rcases got_set hg with hg | hg
    · exact h.oc j hj hg
    · omega
  · rcases got_set hg with hg | hg
    · obtain ⟨a1, a2⟩ := h.o3 hg
      refine ⟨got_keep a1, ?_⟩
      by_cases e : i = 13
      · exact (h3 e).2
      · rw [h3' e]; exact a2
    · exact ⟨got_keep (h3 hg.symm).1, (h3 hg.symm).2⟩
  · rcases got_set hg with hg | hg
    · obtain ⟨a1, a2⟩ := h.o4 hg
      refine ⟨got_keep a1, ?_⟩
      by_cases e : i = 14
      · exact (h4 e).2
      · rw [h4' e]; exact a2
    · exact ⟨got_keep (h4 hg.symm).1, (h4 hg.symm).2⟩
  · rcases got_set hg with hg | hg
    · exact got_keep (h.o7 hg)
    · omega
  · rcases got_set hg with hg | hg
    · exact got_keep (h.o10 hg)
    · omega
/-- What holds all the way, of the frame and the memory. -/
def OgK (w : World) (v0 v10 : Value) (Y p1 r : Nat) (k n : Int) (s : ByteArray) (A : Option Addr) (l c : Nat) (t : Ex) (listed : Array Bool) (a : Act) (W : World) : Prop := listed.size = 15 ∧ ∃ v3 v4 f, a = ofAct v0 v10 w.heap.size Y r v3 v4 f ∧ OgI w v0 v10 Y p1 r k n s A l c t listed v3 v4 f W
/-- A list laid: its slot. -/
theorem slB_new {X n : Nat} {T : TypeId} {W : World} (vs : List Value) (h : X + 1 < W.heap.size) : SlB X T n vs (.slice (some ⟨W.heap.size, 0, none⟩) n n) (W.alloc (.cells vs.toArray T)) := ⟨W.heap.size, rfl, h, Blk.alloc_ W T vs⟩
theorem OgW.lt {a b d e : Bool} (h : OgW w Y p1 k n s A l c t a b d e W) : w.heap.size + 1 < W.heap.size := by have := h.by_.lt; have := h.yy; omega
end
/-- What is ready to be handed back. -/
def DrOP (w : World) (k n : Int) (s : ByteArray) (A : Option Addr) (l c : Nat) (sn st : Value) (W : World) : Prop := DrOf w (.returned (.tuple #[.agg #[.int .i64 k, .int .i64 n, .string s, .slice A l c], sn, st])) W ∧ Blk W w.heap.size 25 [.int .i64 k, .int .i64 n, .string s, .slice A l c]
set_option maxHeartbeats 8000000 in
set_option maxRecDepth 20000 in
theorem drawExprOf (A : Option Addr) (n c : Nat) (z : List Int) (w : World) (hz : IsRow .u8 w A n c z) :
    Calls Tryd.prog 14 #[.slice A n c] w (DrOf w) := by
  have hba : Below w.heap.size w (w.alloc (.cells zero4.toArray 25)) := (Below.refl _ _).alloc (Nat.le_refl _) _
  have HZ := Lib.hid (isRow_below hz hba)
  have HX := Lib.hid (Blk.alloc_ w 25 zero4)
  have HB := Lib.hid hba
  clear hz hba
  go_enter Tryd.func14, Tryd.ntmps14
  go_wp2_with fail
  refine (openIt A n c z _ HZ.out).mono ?_
  rintro e w1 ⟨rfl, hR1, hb1⟩
  have HX1 : Hid (Blk w1 w.heap.size 25 zero4) := HX.out.below hb1 (by simp)
  have HB1 : Hid (Below w.heap.size w w1) := HB.out.trans (hb1.mono (by simp))
  have hsz := hb1.size
  simp only [World.size_alloc] at hsz hR1
  have HB4 := Lib.hid (l4Bent _ 0 w1 hR1 (by omega))
  have hlt := hR1.lt
  clear hb1 hR1 HX HB HZ
  go_wp2_with fail
  refine HB4.out.mono ?_
  rintro e w2 ⟨xk, xn, xs, xA, xl, xc, x, p1, rfl, hx, hxw, hxc, hp1, hp2, hR2, hK2⟩
  have hba : Below w2.heap.size w2 (w2.alloc (.cells #[.int .i64 xk, .int .i64 xn, .string xs, .slice xA xl xc] 25)) := (Below.refl _ _).alloc (Nat.le_refl _) _
  have hl2 : w.heap.size + 1 < w2.heap.size := hR2.lt
  have S2 : Hid (DoS w w2.heap.size 500 xk xn xs xA xl xc x p1 (w2.alloc (.cells #[.int .i64 xk, .int .i64 xn, .string xs, .slice xA xl xc] 25))) :=
    ⟨(hK2.blk HX1.out (by omega)).alloc _, Blk.alloc_ w2 25 [.int .i64 xk, .int .i64 xn, .string xs, .slice xA xl xc], (hx.down (by omega)).below hba, hxw, hxc, rd_alloc hR2 _, (HB1.out.trans (hK2.below (by omega) (by omega))).alloc (by omega) _, hl2⟩
  clear hx hxw hxc hp1 hR2 hK2 hba HX1 HB1 HB4 hsz hlt
  go_upto_region 3 with (fail)
  generalize w2.alloc (.cells #[.int .i64 xk, .int .i64 xn, .string xs, .slice xA xl xc] 25) = w3 at *
  generalize w2.heap.size = Y at *
  go_wp2_with fail
  refine (pick (w.heap.size + 1) p1 8 w3 S2.out.rd (by omega) (by omega) (by omega)).mono ?_
  rintro e w4 ⟨r, rfl, hr0, hr1, hR4, hK4, hs4⟩
  have S4 := Lib.hid (S2.out.next hK4 hR4)
  have hrn : (0 : Int) ≤ (r : Int) := by omega
  have hl4 := S4.out.lt
  clear hr0 hr1 hs4 hR4 hK4 S2
  by_cases r0 : r = 0
  · subst r0
    have SA := Lib.hid (((S4).out.alloc (.cells #[.string ⟨#[120]⟩] 9)).alloc (.cells #[.int .i64 3] 3))
    have BN : Hid (Blk ((w4.alloc (.cells #[.string ⟨#[120]⟩] 9)).alloc (.cells #[.int .i64 3] 3)) w4.heap.size 9 (strB [⟨#[120]⟩])) := (Blk.alloc_ w4 9 (strB [⟨#[120]⟩])).alloc _
    have BT : Hid (Blk ((w4.alloc (.cells #[.string ⟨#[120]⟩] 9)).alloc (.cells #[.int .i64 3] 3)) (w4.heap.size + 1) 3 (ints [3])) := by have := Blk.alloc_ (w4.alloc (.cells #[.string ⟨#[120]⟩] 9)) 3 (ints [3]); rw [World.size_alloc] at this; exact this
    have hlA : w.heap.size < w4.heap.size := by omega
    have hlB : w.heap.size < w4.heap.size + 1 := by omega
    have RES := Lib.hid (drOf_put (nn := 1) (mt := 1) (ns := [⟨#[120]⟩]) (ts := [3]) SA.out BN.out BT.out rfl rfl (by omega) (by omega) (by omega) (by omega))
    rw [put4_past (by simp only [World.size_alloc]; omega), put4_past (by omega)] at RES
    have BQ := (((put4_blk S4.out.bx xk xn xs xA xl xc).alloc (.cells #[.string ⟨#[120]⟩] 9)).alloc (.cells #[.int .i64 3] 3))
    have q0 := BQ.cell 0
    have q1 := BQ.cell 1
    have q2 := BQ.cell 2
    have q3 := BQ.cell 3
    simp only [List.getElem?_cons_zero, List.getElem?_cons_succ] at q0 q1 q2 q3
    obtain ⟨⟨x0, x1, x2, x3⟩, ⟨y0, y1, y2, y3⟩, ⟨z0, z1, z2, z3⟩⟩ := S4.out.xs
    clear SA BN BT BQ
    go_wp2_with fail
    refine bodyPost_ret (v := .tuple #[.agg #[.int .i64 xk, .int .i64 xn, .string xs, .slice xA xl xc], .slice (some ⟨w4.heap.size, 0, none⟩) 1 1, .slice (some ⟨w4.heap.size + 1, 0, none⟩) 1 1]) (by simp [results, Tryd.results14, go_sem, q0, q1, q2, q3]) rfl ?_
    exact RES.out
  by_cases r1 : r = 1
  · subst r1
    have SA := Lib.hid (((S4).out.alloc (.cells #[.string ⟨#[120]⟩, .string ⟨#[121]⟩] 9)).alloc (.cells #[.int .i64 3] 3))
    have BN : Hid (Blk ((w4.alloc (.cells #[.string ⟨#[120]⟩, .string ⟨#[121]⟩] 9)).alloc (.cells #[.int .i64 3] 3)) w4.heap.size 9 (strB [⟨#[120]⟩, ⟨#[121]⟩])) := (Blk.alloc_ w4 9 (strB [⟨#[120]⟩, ⟨#[121]⟩])).alloc _
    have BT : Hid (Blk ((w4.alloc (.cells #[.string ⟨#[120]⟩, .string ⟨#[121]⟩] 9)).alloc (.cells #[.int .i64 3] 3)) (w4.heap.size + 1) 3 (ints [3])) := by have := Blk.alloc_ (w4.alloc (.cells #[.string ⟨#[120]⟩, .string ⟨#[121]⟩] 9)) 3 (ints [3]); rw [World.size_alloc] at this; exact this
    have hlA : w.heap.size < w4.heap.size := by omega
    have hlB : w.heap.size < w4.heap.size + 1 := by omega
    have RES := Lib.hid (drOf_put (nn := 2) (mt := 1) (ns := [⟨#[120]⟩, ⟨#[121]⟩]) (ts := [3]) SA.out BN.out BT.out rfl rfl (by omega) (by omega) (by omega) (by omega))
    rw [put4_past (by simp only [World.size_alloc]; omega), put4_past (by omega)] at RES
    have BQ := (((put4_blk S4.out.bx xk xn xs xA xl xc).alloc (.cells #[.string ⟨#[120]⟩, .string ⟨#[121]⟩] 9)).alloc (.cells #[.int .i64 3] 3))
    have q0 := BQ.cell 0
    have q1 := BQ.cell 1
    have q2 := BQ.cell 2
    have q3 := BQ.cell 3
    simp only [List.getElem?_cons_zero, List.getElem?_cons_succ] at q0 q1 q2 q3
    obtain ⟨⟨x0, x1, x2, x3⟩, ⟨y0, y1, y2, y3⟩, ⟨z0, z1, z2, z3⟩⟩ := S4.out.xs
    clear SA BN BT BQ
    go_wp2_with fail
    refine bodyPost_ret (v := .tuple #[.agg #[.int .i64 xk, .int .i64 xn, .string xs, .slice xA xl xc], .slice (some ⟨w4.heap.size, 0, none⟩) 2 2, .slice (some ⟨w4.heap.size + 1, 0, none⟩) 1 1]) (by simp [results, Tryd.results14, go_sem, q0, q1, q2, q3]) rfl ?_
    exact RES.out
  have b0 : ((r : Int) == 0) = false := by rw [beq_eq_false_iff_ne]; omega
  have b1 : ((r : Int) == 1) = false := by rw [beq_eq_false_iff_ne]; omega
  clear r0 r1
  go_upto_region 8 with (fail)
  go_cut [3, 4] from 23 to 34 (fun s3 s4 wc => ∃ a b, s3 = a ∧ s4 = b ∧ DrOP w xk xn xs xA xl xc a b wc)
  case first =>
    refine wp_region_inv rfl (OgK w (.slice A n c) (.agg #[.int .i64 xk, .int .i64 xn, .string xs, .slice xA xl xc]) Y p1 r xk xn xs xA xl xc x) ?h0 ?hs ?hd
    case h0 =>
      have hf : ∀ j, (Array.replicate 15 false).getD j false = false := fun j => by
        rw [Array.getD_eq_getD_getElem?, Array.getElem?_replicate]; split <;> rfl
      refine ⟨by simp, .slice none 0 0, .slice none 0 0, fun _ => undef, rfl, ?_, fun j _ hg => ?_, fun hg => ?_, fun hg => ?_, fun hg => ?_, fun hg => ?_⟩
      · show OgW w Y p1 xk xn xs xA xl xc x ((Array.replicate 15 false).getD 12 false) ((Array.replicate 15 false).getD 4 false) ((Array.replicate 15 false).getD 7 false) ((Array.replicate 15 false).getD 10 false) w4.drew
        rw [hf, hf, hf, hf]
        have hs := S4.out.drew
        exact ⟨hs.bx, hs.by_, hs.ie, fun _ => ⟨p1 + 1, hs.rd, by omega, fun _ => Nat.le_refl _, fun _ => by omega⟩, hs.be, hs.yy⟩
      · exact absurd ((hf j).symm.trans hg) (by decide)
      · exact absurd ((hf 13).symm.trans hg) (by decide)
      · exact absurd ((hf 14).symm.trans hg) (by decide)
      · exact absurd ((hf 7).symm.trans hg) (by decide)
      · exact absurd ((hf 10).symm.trans hg) (by decide)
    case hs =>
      rintro listed a W i ⟨hsz, v3, v4, f, rfl, h⟩ hi
      obtain ⟨hn, o, ho, haft⟩ := mem_ready.1 hi
      have hi15 : i < 15 := by have := (Array.getElem?_eq_some_iff.1 ho).1; simpa using this
      have hcs : i = 0 ∨ i = 1 ∨ i = 2 ∨ i = 3 ∨ i = 4 ∨ i = 5 ∨ i = 6 ∨ i = 7 ∨ i = 8 ∨ i = 9 ∨ i = 10 ∨ i = 11 ∨ i = 12 ∨ i = 13 ∨ i = 14 := by omega
      clear hi hi15
      rcases hcs with rfl | rfl | rfl | rfl | rfl | rfl | rfl | rfl | rfl | rfl | rfl | rfl | rfl | rfl | rfl
      all_goals (simp at ho; subst ho)
      · refine wpOp_of_list rfl ?_
        obtain ⟨z0, z1, z2, z3⟩ := blkE_cells h.ow.by_
        simp only [ofAct]
        go_wp2_with fail
        change (listed.setIfInBounds 0 true).size = 15 ∧ _
        exact ⟨by simp [hsz], v3, v4, upd f 0 (.agg #[.int .i64 xk, .int .i64 xn, .string xs, .slice xA xl xc]), rfl, h.step0 (by omega) hn (stays_refl _ _ _) rfl (by omega) (by omega) (by omega) h.ow⟩
      · refine wpOp_of_list rfl ?_
        have hlw := h.ow.lt
        simp only [ofAct]
        go_wp2_with fail
        change (listed.setIfInBounds 1 true).size = 15 ∧ _
        exact ⟨by simp [hsz], v3, v4, upd f 1 (.slice (some ⟨W.heap.size, 0, none⟩) 4 4), rfl, h.step0 (by omega) hn (stays_alloc _ _ _ _) (slB_new (strB tyNames) hlw) (by omega) (by omega) (by omega) (h.ow.alloc _)⟩
      · refine wpOp_of_list rfl ?_
        simp only [ofAct]
        go_wp2_with fail
        change (listed.setIfInBounds 2 true).size = 15 ∧ _
        exact ⟨by simp [hsz], v3, v4, upd f 2 (.pointer (some ⟨w.heap.size + 1, 0, none⟩)), rfl, h.step0 (by omega) hn (stays_refl _ _ _) rfl (by omega) (by omega) (by omega) h.ow⟩
      · refine wpOp_of_list rfl ?_
        have hlw := h.ow.lt
        simp only [ofAct]
        go_wp2_with fail
        change (listed.setIfInBounds 3 true).size = 15 ∧ _
        exact ⟨by simp [hsz], v3, v4, upd f 3 (.slice (some ⟨W.heap.size, 0, none⟩) 3 3), rfl, h.step0 (by omega) hn (stays_alloc _ _ _ _) (slB_new (ints [0, 1, -5]) hlw) (by omega) (by omega) (by omega) (h.ow.alloc _)⟩
      · have gp : got listed 2 := haft ⟨2, .data⟩ (by simp) rfl
        have gs : got listed 3 := haft ⟨3, .data⟩ (by simp) rfl
        have cp : f 2 = .pointer (some ⟨w.heap.size + 1, 0, none⟩) := h.oc 2 (by omega) gp
        obtain ⟨b, hb, hbx, hB⟩ := (show SlB w.heap.size 3 3 (ints [0, 1, -5]) (f 3) W from h.oc 3 (by omega) gs)
        have hng := ngot hn
        have h10 : listed.getD 10 false = false := ngot_false (fun g => hng (h.o7 (h.o10 g)))
        obtain ⟨p, hR, hp1', hp2', hp3'⟩ := h.ow.rd h10
        refine wpOp_of_list rfl ?_
        simp only [ofAct, hb, cp]
        go_wp2_with fail
        refine (numOf (w.heap.size + 1) p b 3 3 [0, 1, -5] W hR (by omega) hB (by unfold Hid; omega) rfl (by omega) (by omega)).mono ?_
        rintro e W' ⟨vv, p', rfl, ⟨m, hm, rfl⟩, hq1, hq2, hR', hK'⟩
        go_wp2_with fail
        change (listed.setIfInBounds 4 true).size = 15 ∧ _
        refine ⟨by simp [hsz], v3, v4, upd f 4 (.int .i64 m), ?_, h.step (by omega) hng (stays_keep hK') ⟨m, rfl⟩ (fun e => absurd e (by omega)) (fun e => absurd e (by omega)) (h.ow.keep hK' ?_)⟩
        · simp only [ofAct, upd, hb, cp]; rfl
        · exact fun _ => ⟨p', hR', by have := hp2' (ngot_false hng); omega, (fun e => by rw [got_set_self (by omega)] at e; cases e), fun _ => by have := hp2' (ngot_false hng); omega⟩
      · refine wpOp_of_list rfl ?_
        simp only [ofAct]
        go_wp2_with fail
        change (listed.setIfInBounds 5 true).size = 15 ∧ _
        exact ⟨by simp [hsz], v3, v4, upd f 5 (.pointer (some ⟨w.heap.size + 1, 0, none⟩)), rfl, h.step0 (by omega) hn (stays_refl _ _ _) rfl (by omega) (by omega) (by omega) h.ow⟩
      · refine wpOp_of_list rfl ?_
        have hlw := h.ow.lt
        simp only [ofAct]
        go_wp2_with fail
        change (listed.setIfInBounds 6 true).size = 15 ∧ _
        exact ⟨by simp [hsz], v3, v4, upd f 6 (.slice (some ⟨W.heap.size, 0, none⟩) 2 2), rfl, h.step0 (by omega) hn (stays_alloc _ _ _ _) (slB_new (ints [2, 1000]) hlw) (by omega) (by omega) (by omega) (h.ow.alloc _)⟩
      · have gp : got listed 5 := haft ⟨5, .data⟩ (by simp) rfl
        have gs : got listed 6 := haft ⟨6, .data⟩ (by simp) rfl
        have g4 : got listed 4 := haft ⟨4, .chain⟩ (by simp) rfl
        have cp : f 5 = .pointer (some ⟨w.heap.size + 1, 0, none⟩) := h.oc 5 (by omega) gp
        obtain ⟨b, hb, hbx, hB⟩ := (show SlB w.heap.size 3 2 (ints [2, 1000]) (f 6) W from h.oc 6 (by omega) gs)
        have hng := ngot hn
        have h10 : listed.getD 10 false = false := ngot_false (fun g => hng (h.o10 g))
        obtain ⟨p, hR, hp1', hp2', hp3'⟩ := h.ow.rd h10
        refine wpOp_of_list rfl ?_
        simp only [ofAct, hb, cp]
        go_wp2_with fail
        refine (numOf (w.heap.size + 1) p b 2 2 [2, 1000] W hR (by omega) hB (by unfold Hid; omega) rfl (by omega) (by omega)).mono ?_
        rintro e W' ⟨vv, p', rfl, ⟨m, hm, rfl⟩, hq1, hq2, hR', hK'⟩
        go_wp2_with fail
        change (listed.setIfInBounds 7 true).size = 15 ∧ _
        refine ⟨by simp [hsz], v3, v4, upd f 7 (.int .i64 m), ?_, h.step (by omega) hng (stays_keep hK') ⟨m, rfl⟩ (fun _ => g4) (fun e => absurd e (by omega)) (h.ow.keep hK' ?_)⟩
        · simp only [ofAct, upd, hb, cp]; rfl
        · exact fun _ => ⟨p', hR', by have := hp3' (ngot_false hng); omega, (fun e => by rw [getD_set_same (by omega), show listed.getD 4 false = true from g4] at e; cases e), (fun e => by rw [got_set_self (by omega)] at e; cases e)⟩
      · refine wpOp_of_list rfl ?_
        simp only [ofAct]
        go_wp2_with fail
        change (listed.setIfInBounds 8 true).size = 15 ∧ _
        exact ⟨by simp [hsz], v3, v4, upd f 8 (.pointer (some ⟨w.heap.size + 1, 0, none⟩)), rfl, h.step0 (by omega) hn (stays_refl _ _ _) rfl (by omega) (by omega) (by omega) h.ow⟩
      · refine wpOp_of_list rfl ?_
        have hlw := h.ow.lt
        simp only [ofAct]
        go_wp2_with fail
        change (listed.setIfInBounds 9 true).size = 15 ∧ _
        exact ⟨by simp [hsz], v3, v4, upd f 9 (.slice (some ⟨W.heap.size, 0, none⟩) 3 3), rfl, h.step0 (by omega) hn (stays_alloc _ _ _ _) (slB_new (ints [1, 4, 9999999]) hlw) (by omega) (by omega) (by omega) (h.ow.alloc _)⟩
      · have gp : got listed 8 := haft ⟨8, .data⟩ (by simp) rfl
        have gs : got listed 9 := haft ⟨9, .data⟩ (by simp) rfl
        have g7 : got listed 7 := haft ⟨7, .chain⟩ (by simp) rfl
        have cp : f 8 = .pointer (some ⟨w.heap.size + 1, 0, none⟩) := h.oc 8 (by omega) gp
        obtain ⟨b, hb, hbx, hB⟩ := (show SlB w.heap.size 3 3 (ints [1, 4, 9999999]) (f 9) W from h.oc 9 (by omega) gs)
        have hng := ngot hn
        have h10 : listed.getD 10 false = false := ngot_false hng
        obtain ⟨p, hR, hp1', hp2', hp3'⟩ := h.ow.rd h10
        refine wpOp_of_list rfl ?_
        simp only [ofAct, hb, cp]
        go_wp2_with fail
        refine (numOf (w.heap.size + 1) p b 3 3 [1, 4, 9999999] W hR (by omega) hB (by unfold Hid; omega) rfl (by omega) (by omega)).mono ?_
        rintro e W' ⟨vv, p', rfl, ⟨m, hm, rfl⟩, hq1, hq2, hR', hK'⟩
        go_wp2_with fail
        change (listed.setIfInBounds 10 true).size = 15 ∧ _
        refine ⟨by simp [hsz], v3, v4, upd f 10 (.int .i64 m), ?_, h.step (by omega) hng (stays_keep hK') ⟨m, rfl⟩ (fun e => absurd e (by omega)) (fun _ => g7) (h.ow.keep hK' ?_)⟩
        · simp only [ofAct, upd, hb, cp]; rfl
        · exact fun e => by rw [got_set_self (by omega)] at e; cases e
      · have g4 : got listed 4 := haft ⟨4, .data⟩ (by simp) rfl
        have g7 : got listed 7 := haft ⟨7, .data⟩ (by simp) rfl
        have g10 : got listed 10 := haft ⟨10, .data⟩ (by simp) rfl
        obtain ⟨y1, e1⟩ := (show ∃ x, f 4 = .int .i64 x from h.oc 4 (by omega) g4)
        obtain ⟨y2, e2⟩ := (show ∃ x, f 7 = .int .i64 x from h.oc 7 (by omega) g7)
        obtain ⟨y3, e3⟩ := (show ∃ x, f 10 = .int .i64 x from h.oc 10 (by omega) g10)
        have hlw := h.ow.lt
        refine wpOp_of_list rfl ?_
        simp only [ofAct, e1, e2, e3]
        go_wp2_with fail
        change (listed.setIfInBounds 11 true).size = 15 ∧ _
        refine ⟨by simp [hsz], v3, v4, upd f 11 (.slice (some ⟨W.heap.size, 0, none⟩) 4 4), ?_, h.step0 (by omega) hn (stays_alloc _ _ _ _) ⟨y1, y2, y3, slB_new (ints [9, y1, y2, y3]) hlw⟩ (by omega) (by omega) (by omega) (h.ow.alloc _)⟩
        simp only [ofAct, upd, e1, e2, e3]; rfl
      · have g0 : got listed 0 := haft ⟨0, .data⟩ (by simp) rfl
        have g10 : got listed 10 := haft ⟨10, .chain⟩ (by simp) rfl
        have e0 : f 0 = (.agg #[.int .i64 xk, .int .i64 xn, .string xs, .slice xA xl xc]) := h.oc 0 (by omega) g0
        have hbx := h.ow.bx
        rw [ngot_false (ngot hn)] at hbx
        have hbx : Blk W w.heap.size 25 zero4 := hbx
        have x0 : W.cell? ⟨w.heap.size, 0, none⟩ = some (.int .i64 0) := hbx.cell 0
        have x1 : W.cell? ⟨w.heap.size, 1, none⟩ = some (.int .i64 0) := hbx.cell 1
        have x2 : W.cell? ⟨w.heap.size, 2, none⟩ = some (.string ⟨#[]⟩) := hbx.cell 2
        have x3 : W.cell? ⟨w.heap.size, 3, none⟩ = some (.slice none 0 0) := hbx.cell 3
        have y0 := hbx.frozen 0
        have y1 := hbx.frozen 1
        have y2 := hbx.frozen 2
        have y3 := hbx.frozen 3
        refine wpOp_of_list rfl ?_
        simp only [ofAct, e0]
        go_wp2_with fail
        change (listed.setIfInBounds 12 true).size = 15 ∧ _
        refine ⟨by simp [hsz], v3, v4, f, ?_, h.step12 hsz hn g10⟩
        simp only [ofAct, e0]
      · have g1 : got listed 1 := haft ⟨1, .data⟩ (by simp) rfl
        refine wpOp_of_list rfl ?_
        simp only [ofAct]
        go_wp2_with fail
        change (listed.setIfInBounds 13 true).size = 15 ∧ _
        exact ⟨by simp [hsz], f 1, v4, f, rfl, h.stepA (.inl rfl) (fun _ => ⟨g1, rfl⟩) (fun e => absurd rfl e) (fun e => absurd e (by omega)) (fun _ => rfl)⟩
      · have g11 : got listed 11 := haft ⟨11, .data⟩ (by simp) rfl
        refine wpOp_of_list rfl ?_
        simp only [ofAct]
        go_wp2_with fail
        change (listed.setIfInBounds 14 true).size = 15 ∧ _
        exact ⟨by simp [hsz], v3, f 11, f, rfl, h.stepA (.inr rfl) (fun e => absurd e (by omega)) (fun _ => rfl) (fun _ => ⟨g11, rfl⟩) (fun e => absurd rfl e)⟩
    case hd =>
      rintro listed a W ⟨hsz, v3, v4, f, rfl, h⟩ hr
      have g0 : got listed 0 := by
        rcases Bool.eq_false_or_eq_true (listed.getD 0 true) with e | e
        · unfold got; rw [Array.getD_eq_getD_getElem?] at e ⊢; rw [Array.getElem?_eq_getElem (by omega)] at e ⊢; exact e
        · have : 0 ∈ ([] : List Nat) := by
            rw [← hr]
            refine mem_ready.2 ⟨e, _, rfl, ?_⟩
            intro ed hed hbn
            simp at hed
          cases this
      have g1 : got listed 1 := by
        rcases Bool.eq_false_or_eq_true (listed.getD 1 true) with e | e
        · unfold got; rw [Array.getD_eq_getD_getElem?] at e ⊢; rw [Array.getElem?_eq_getElem (by omega)] at e ⊢; exact e
        · have : 1 ∈ ([] : List Nat) := by
            rw [← hr]
            refine mem_ready.2 ⟨e, _, rfl, ?_⟩
            intro ed hed hbn
            simp at hed
            rcases hed with rfl
            all_goals first | exact g0 | exact absurd hbn (by decide)
          cases this
      have g2 : got listed 2 := by
        rcases Bool.eq_false_or_eq_true (listed.getD 2 true) with e | e
        · unfold got; rw [Array.getD_eq_getD_getElem?] at e ⊢; rw [Array.getElem?_eq_getElem (by omega)] at e ⊢; exact e
        · have : 2 ∈ ([] : List Nat) := by
            rw [← hr]
            refine mem_ready.2 ⟨e, _, rfl, ?_⟩
            intro ed hed hbn
            simp at hed
          cases this
      have g3 : got listed 3 := by
        rcases Bool.eq_false_or_eq_true (listed.getD 3 true) with e | e
        · unfold got; rw [Array.getD_eq_getD_getElem?] at e ⊢; rw [Array.getElem?_eq_getElem (by omega)] at e ⊢; exact e
        · have : 3 ∈ ([] : List Nat) := by
            rw [← hr]
            refine mem_ready.2 ⟨e, _, rfl, ?_⟩
            intro ed hed hbn
            simp at hed
          cases this
      have g4 : got listed 4 := by
        rcases Bool.eq_false_or_eq_true (listed.getD 4 true) with e | e
        · unfold got; rw [Array.getD_eq_getD_getElem?] at e ⊢; rw [Array.getElem?_eq_getElem (by omega)] at e ⊢; exact e
        · have : 4 ∈ ([] : List Nat) := by
            rw [← hr]
            refine mem_ready.2 ⟨e, _, rfl, ?_⟩
            intro ed hed hbn
            simp at hed
            rcases hed with rfl | rfl
            all_goals first | exact g0 | exact g1 | exact g2 | exact g3 | exact absurd hbn (by decide)
          cases this
      have g5 : got listed 5 := by
        rcases Bool.eq_false_or_eq_true (listed.getD 5 true) with e | e
        · unfold got; rw [Array.getD_eq_getD_getElem?] at e ⊢; rw [Array.getElem?_eq_getElem (by omega)] at e ⊢; exact e
        · have : 5 ∈ ([] : List Nat) := by
            rw [← hr]
            refine mem_ready.2 ⟨e, _, rfl, ?_⟩
            intro ed hed hbn
            simp at hed
          cases this
      have g6 : got listed 6 := by
        rcases Bool.eq_false_or_eq_true (listed.getD 6 true) with e | e
        · unfold got; rw [Array.getD_eq_getD_getElem?] at e ⊢; rw [Array.getElem?_eq_getElem (by omega)] at e ⊢; exact e
        · have : 6 ∈ ([] : List Nat) := by
            rw [← hr]
            refine mem_ready.2 ⟨e, _, rfl, ?_⟩
            intro ed hed hbn
            simp at hed
          cases this
      have g7 : got listed 7 := by
        rcases Bool.eq_false_or_eq_true (listed.getD 7 true) with e | e
        · unfold got; rw [Array.getD_eq_getD_getElem?] at e ⊢; rw [Array.getElem?_eq_getElem (by omega)] at e ⊢; exact e
        · have : 7 ∈ ([] : List Nat) := by
            rw [← hr]
            refine mem_ready.2 ⟨e, _, rfl, ?_⟩
            intro ed hed hbn
            simp at hed
            rcases hed with rfl | rfl | rfl
            all_goals first | exact g0 | exact g1 | exact g2 | exact g3 | exact g4 | exact g5 | exact g6 | exact absurd hbn (by decide)
          cases this
      have g8 : got listed 8 := by
        rcases Bool.eq_false_or_eq_true (listed.getD 8 true) with e | e
        · unfold got; rw [Array.getD_eq_getD_getElem?] at e ⊢; rw [Array.getElem?_eq_getElem (by omega)] at e ⊢; exact e
        · have : 8 ∈ ([] : List Nat) := by
            rw [← hr]
            refine mem_ready.2 ⟨e, _, rfl, ?_⟩
            intro ed hed hbn
            simp at hed
          cases this
      have g9 : got listed 9 := by
        rcases Bool.eq_false_or_eq_true (listed.getD 9 true) with e | e
        · unfold got; rw [Array.getD_eq_getD_getElem?] at e ⊢; rw [Array.getElem?_eq_getElem (by omega)] at e ⊢; exact e
        · have : 9 ∈ ([] : List Nat) := by
            rw [← hr]
            refine mem_ready.2 ⟨e, _, rfl, ?_⟩
            intro ed hed hbn
            simp at hed
          cases this
      have g10 : got listed 10 := by
        rcases Bool.eq_false_or_eq_true (listed.getD 10 true) with e | e
        · unfold got; rw [Array.getD_eq_getD_getElem?] at e ⊢; rw [Array.getElem?_eq_getElem (by omega)] at e ⊢; exact e
        · have : 10 ∈ ([] : List Nat) := by
            rw [← hr]
            refine mem_ready.2 ⟨e, _, rfl, ?_⟩
            intro ed hed hbn
            simp at hed
            rcases hed with rfl | rfl | rfl
            all_goals first | exact g0 | exact g1 | exact g2 | exact g3 | exact g4 | exact g5 | exact g6 | exact g7 | exact g8 | exact g9 | exact absurd hbn (by decide)
          cases this
      have g11 : got listed 11 := by
        rcases Bool.eq_false_or_eq_true (listed.getD 11 true) with e | e
        · unfold got; rw [Array.getD_eq_getD_getElem?] at e ⊢; rw [Array.getElem?_eq_getElem (by omega)] at e ⊢; exact e
        · have : 11 ∈ ([] : List Nat) := by
            rw [← hr]
            refine mem_ready.2 ⟨e, _, rfl, ?_⟩
            intro ed hed hbn
            simp at hed
            rcases hed with rfl | rfl | rfl | rfl
            all_goals first | exact g0 | exact g1 | exact g2 | exact g3 | exact g4 | exact g5 | exact g6 | exact g7 | exact g8 | exact g9 | exact g10 | exact absurd hbn (by decide)
          cases this
      have g12 : got listed 12 := by
        rcases Bool.eq_false_or_eq_true (listed.getD 12 true) with e | e
        · unfold got; rw [Array.getD_eq_getD_getElem?] at e ⊢; rw [Array.getElem?_eq_getElem (by omega)] at e ⊢; exact e
        · have : 12 ∈ ([] : List Nat) := by
            rw [← hr]
            refine mem_ready.2 ⟨e, _, rfl, ?_⟩
            intro ed hed hbn
            simp at hed
            rcases hed with rfl | rfl | rfl | rfl | rfl | rfl | rfl | rfl | rfl | rfl | rfl | rfl | rfl | rfl
            all_goals first | exact g0 | exact g1 | exact g2 | exact g3 | exact g4 | exact g5 | exact g6 | exact g7 | exact g8 | exact g9 | exact g10 | exact g11 | exact absurd hbn (by decide)
          cases this
      have g13 : got listed 13 := by
        rcases Bool.eq_false_or_eq_true (listed.getD 13 true) with e | e
        · unfold got; rw [Array.getD_eq_getD_getElem?] at e ⊢; rw [Array.getElem?_eq_getElem (by omega)] at e ⊢; exact e
        · have : 13 ∈ ([] : List Nat) := by
            rw [← hr]
            refine mem_ready.2 ⟨e, _, rfl, ?_⟩
            intro ed hed hbn
            simp at hed
            rcases hed with rfl | rfl | rfl | rfl | rfl | rfl | rfl | rfl | rfl | rfl | rfl | rfl | rfl | rfl | rfl
            all_goals first | exact g0 | exact g1 | exact g2 | exact g3 | exact g4 | exact g5 | exact g6 | exact g7 | exact g8 | exact g9 | exact g10 | exact g11 | exact g12 | exact absurd hbn (by decide)
          cases this
      have g14 : got listed 14 := by
        rcases Bool.eq_false_or_eq_true (listed.getD 14 true) with e | e
        · unfold got; rw [Array.getD_eq_getD_getElem?] at e ⊢; rw [Array.getElem?_eq_getElem (by omega)] at e ⊢; exact e
        · have : 14 ∈ ([] : List Nat) := by
            rw [← hr]
            refine mem_ready.2 ⟨e, _, rfl, ?_⟩
            intro ed hed hbn
            simp at hed
            rcases hed with rfl | rfl | rfl | rfl | rfl | rfl | rfl | rfl | rfl | rfl | rfl | rfl | rfl | rfl | rfl | rfl
            all_goals first | exact g0 | exact g1 | exact g2 | exact g3 | exact g4 | exact g5 | exact g6 | exact g7 | exact g8 | exact g9 | exact g10 | exact g11 | exact g12 | exact g13 | exact absurd hbn (by decide)
          cases this
      obtain ⟨gn, en, hn1, hBn⟩ := (show SlB w.heap.size 9 4 (strB tyNames) (f 1) W from h.oc 1 (by omega) g1)
      obtain ⟨y1, y2, y3, gt, et, ht1, hBt⟩ := (show ∃ x y z, SlB w.heap.size 3 4 (ints [9, x, y, z]) (f 11) W from h.oc 11 (by omega) g11)
      have e3 := (h.o3 g13).2
      have e4 := (h.o4 g14).2
      rw [en] at e3
      rw [et] at e4
      subst e3 e4
      have hbx := h.ow.bx
      rw [show listed.getD 12 false = true from g12] at hbx
      have RES : DrOP w xk xn xs xA xl xc (.slice (some ⟨gn, 0, none⟩) 4 4) (.slice (some ⟨gt, 0, none⟩) 4 4) W := ⟨⟨xk, xn, xs, xA, xl, xc, x, gn, gt, 4, 4, tyNames, [9, y1, y2, y3], rfl, h.ow.ie.ev, S4.out.wg, S4.out.cl, hBn, hBt, rfl, rfl, by decide, by decide, h.ow.be⟩, hbx⟩
      have HRES := Lib.hid RES
      clear hr h RES hbx hBn hBt
      simp only [ofAct]
      go_wp2_with fail
      go_meet
      exact ⟨_, _, rfl, rfl, HRES.out⟩
  case rest =>
    obtain ⟨sa, sb, h3, h4, hres, hblk⟩ := hcut
    replace h3 := h3.symm
    replace h4 := h4.symm
    subst h3 h4
    have HRES := Lib.hid hres
    have HBLK := Lib.hid hblk
    clear hres hblk
    go_wp2_with fail
    refine bodyPost_ret (v := .tuple #[.agg #[.int .i64 xk, .int .i64 xn, .string xs, .slice xA xl xc], sa, sb]) (drResO (sn := sa) (st := sb) ?_ ?_ ?_ HBLK.out) rfl ?_
    rotate_left 3
    · exact HRES.out
    · rfl
    · rfl
    · rfl
end Go.Proofs.YtfjmjlpobbjjdaaDoor
