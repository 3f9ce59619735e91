/- Draws: DrawExprType. -/
import Derived.Test.YtfjmjlpobbjjdaaDoorDB
import Derived.Test.YtfjmjlpobbjjdaaDoorLA
import Derived.Deep.RegionWith
import Derived.Deep.RegionHeld3
import Derived.Deep.Cut
import Derived.Deep.DeepCutAuto
namespace Go.Proofs.YtfjmjlpobbjjdaaDoor
open Go.RowKit Ilp
set_option linter.unusedVariables false

/-- While a drawn one is handed back: the box of the result, the reader behind it, the box of the one drawn. -/
structure DoS (w : World) (Y M : Nat) (k n : Int) (s : ByteArray) (A : Option Addr) (l c : Nat) (t : Ex) (p : Nat) (W : World) : Prop where
  bx : Blk W w.heap.size 25 zero4
  by_ : Blk W Y 25 [.int .i64 k, .int .i64 n, .string s, .slice A l c]
  ie : IsEN (w.heap.size + 2) W [.int .i64 k, .int .i64 n, .string s, .slice A l c] t
  wg : wgt t ≤ M
  cl : CleanE t
  rd : Rd W (w.heap.size + 1) p
  be : Below w.heap.size w W
  yy : w.heap.size + 1 < Y
section
variable {w : World} {Y M : Nat} {k n : Int} {s : ByteArray} {A : Option Addr} {l c : Nat} {t : Ex} {p p' : Nat} {W W' : World}
theorem DoS.next (h : DoS w Y M k n s A l c t p W) (hk : Keep (w.heap.size + 1) W W') (hR : Rd W' (w.heap.size + 1) p') : DoS w Y M k n s A l c t p' W' := by
  have hyy := h.yy
  exact ⟨hk.blk h.bx (by omega), hk.blk h.by_ (by omega), h.ie.keep hk (by omega), h.wg, h.cl, hR, h.be.trans (hk.below (Nat.le_succ _) h.be.size), hyy⟩
theorem DoS.alloc (h : DoS w Y M k n s A l c t p W) (o : Obj) : DoS w Y M k n s A l c t p (W.alloc o) := h.next (keep_alloc (Keep.refl _ _) _) (rd_alloc h.rd _)
theorem DoS.drew (h : DoS w Y M k n s A l c t p W) : DoS w Y M k n s A l c t p W.drew := h.next (Keep.refl _ _).drew (h.rd.keep ((Below.refl _ _).drew))
theorem DoS.xs (h : DoS w Y M k n s A l c t p W) : (W.cell? ⟨w.heap.size, 0, none⟩ = some (.int .i64 0) ∧ W.cell? ⟨w.heap.size, 1, none⟩ = some (.int .i64 0) ∧ W.cell? ⟨w.heap.size, 2, none⟩ = some (.string ⟨#[]⟩) ∧ W.cell? ⟨w.heap.size, 3, none⟩ = some (.slice none 0 0)) ∧
    (W.frozen? ⟨w.heap.size, 0, none⟩ = false ∧ W.frozen? ⟨w.heap.size, 1, none⟩ = false ∧ W.frozen? ⟨w.heap.size, 2, none⟩ = false ∧ W.frozen? ⟨w.heap.size, 3, none⟩ = false) ∧
    (W.cell? ⟨Y, 0, none⟩ = some (.int .i64 k) ∧ W.cell? ⟨Y, 1, none⟩ = some (.int .i64 n) ∧ W.cell? ⟨Y, 2, none⟩ = some (.string s) ∧ W.cell? ⟨Y, 3, none⟩ = some (.slice A l c)) :=
  ⟨⟨h.bx.cell 0, h.bx.cell 1, h.bx.cell 2, h.bx.cell 3⟩, ⟨h.bx.frozen 0, h.bx.frozen 1, h.bx.frozen 2, h.bx.frozen 3⟩, blkE_cells h.by_⟩
/-- The result's four cells, laid. -/
abbrev put4 (W : World) (X : Nat) (k n : Int) (s : ByteArray) (A : Option Addr) (l c : Nat) : World := (((W.setCell ⟨X, 0, none⟩ (.int .i64 k)).setCell ⟨X, 1, none⟩ (.int .i64 n)).setCell ⟨X, 2, none⟩ (.string s)).setCell ⟨X, 3, none⟩ (.slice A l c)
theorem put4_past {X : Nat} (h : X < W.heap.size) (o : Obj) (k n : Int) (s : ByteArray) (A : Option Addr) (l c : Nat) : put4 (W.alloc o) X k n s A l c = (put4 W X k n s A l c).alloc o := by
  unfold put4
  rw [World.setCell_alloc_past _ _ _ _ h, World.setCell_alloc_past _ _ _ _ (by simp; omega), World.setCell_alloc_past _ _ _ _ (by simp; omega), World.setCell_alloc_past _ _ _ _ (by simp; omega)]
theorem put4_blk {X : Nat} {T : TypeId} (h : Blk W X T zero4) (k n : Int) (s : ByteArray) (A : Option Addr) (l c : Nat) : Blk (put4 W X k n s A l c) X T [.int .i64 k, .int .i64 n, .string s, .slice A l c] := (((h.put 0 _).put 1 _).put 2 _).put 3 _
theorem put4_keep (W : World) (X : Nat) (k n : Int) (s : ByteArray) (A : Option Addr) (l c : Nat) : Keep X W (put4 W X k n s A l c) := ((((Keep.refl _ _).set 0 _).set 1 _).set 2 _).set 3 _
end
def tyTypes (m : List UInt8) : List ByteArray := [⟨#[98, 111, 111, 108]⟩, ⟨#[105, 110, 116]⟩, ⟨m.toArray⟩, ⟨#[105, 110, 116]⟩]
def tyPick : List (List UInt8) := [[105, 110, 116], [98, 111, 111, 108]]
def tyNames : List ByteArray := [⟨#[120]⟩, ⟨#[121]⟩, ⟨#[122]⟩, ⟨#[120]⟩]
abbrev YCells (Y : Nat) (k n : Int) (s : ByteArray) (A : Option Addr) (l c : Nat) (W : World) : Prop := W.cell? ⟨Y, 0, none⟩ = some (.int .i64 k) ∧ W.cell? ⟨Y, 1, none⟩ = some (.int .i64 n) ∧ W.cell? ⟨Y, 2, none⟩ = some (.string s) ∧ W.cell? ⟨Y, 3, none⟩ = some (.slice A l c)
theorem DoS.ys {w : World} {Y M : Nat} {k n : Int} {s : ByteArray} {A : Option Addr} {l c : Nat} {t : Ex} {p : Nat} {W : World} (h : DoS w Y M k n s A l c t p W) : YCells Y k n s A l c (put4 W w.heap.size k n s A l c) := by
  have hyy := h.yy
  exact blkE_cells ((put4_keep W w.heap.size k n s A l c).blk h.by_ (by omega))
theorem DoS.lt (w : World) {Y M : Nat} {k n : Int} {s : ByteArray} {A : Option Addr} {l c : Nat} {t : Ex} {p : Nat} {W : World} (h : DoS w Y M k n s A l c t p W) : w.heap.size + 1 < W.heap.size := by have := h.by_.lt; have := h.yy; omega
theorem DoS.ysA {w : World} {Y M : Nat} {k n : Int} {s : ByteArray} {A : Option Addr} {l c : Nat} {t : Ex} {p : Nat} {W : World} (h : DoS w Y M k n s A l c t p W) (o : Obj) : YCells Y k n s A l c ((put4 W w.heap.size k n s A l c).alloc o) := by
  have := DoS.lt w h
  rw [← put4_past (by omega)]; exact (h.alloc o).ys
theorem DoS.ysAA {w : World} {Y M : Nat} {k n : Int} {s : ByteArray} {A : Option Addr} {l c : Nat} {t : Ex} {p : Nat} {W : World} (h : DoS w Y M k n s A l c t p W) (o o' : Obj) : YCells Y k n s A l c (((put4 W w.heap.size k n s A l c).alloc o).alloc o') := by
  have := DoS.lt w h
  rw [← put4_past (by omega)]; exact (h.alloc o).ysA o'
/-- A drawn one, names, types. -/
def DrTy (w : World) (e : Ending) (w' : World) : Prop :=
  ∃ (k n : Int) (s : ByteArray) (A : Option Addr) (l c : Nat) (t : Ex) (gn gt nn mt : Nat) (ns ts : List ByteArray), e = .returned (.tuple #[.agg #[.int .i64 k, .int .i64 n, .string s, .slice A l c], .slice (some ⟨gn, 0, none⟩) nn nn, .slice (some ⟨gt, 0, none⟩) mt mt]) ∧ IsEV w' [.int .i64 k, .int .i64 n, .string s, .slice A l c] t ∧ wgt t ≤ 500 ∧ CleanE t ∧
    Blk w' gn 9 (strB ns) ∧ Blk w' gt 9 (strB ts) ∧ ns.length = nn ∧ ts.length = mt ∧ nn ≤ 10 ∧ mt ≤ 10 ∧ Below w.heap.size w w'
theorem drRes {tmps : Array Value} {W : World} {X : Nat} {T : TypeId} {k n : Int} {s : ByteArray} {A : Option Addr} {l c : Nat} {sn st : Value} (h2 : tmps.getD 2 undef = .pointer (some ⟨X, 0, none⟩)) (h3 : tmps.getD 3 undef = sn) (h4 : tmps.getD 4 undef = st) (hB : Blk W X T [.int .i64 k, .int .i64 n, .string s, .slice A l c]) :
    (results Tryd.f37 tmps).run Tryd.prog W = .ok (.tuple #[.agg #[.int .i64 k, .int .i64 n, .string s, .slice A l c], sn, st]) W := by
  obtain ⟨q0, q1, q2, q3⟩ := blkE_cells hB
  simp only [Array.getD_eq_getD_getElem?] at h2 h3 h4
  simp [results, Tryd.results37, go_sem, q0, q1, q2, q3, h2, h3, h4]
/-- The result laid, two blocks made beside it. -/
theorem drTy_put {w : World} {Y : Nat} {k n : Int} {s : ByteArray} {A : Option Addr} {l c : Nat} {t : Ex} {p : Nat} {W : World} (h : DoS w Y 500 k n s A l c t p W) {gn gt nn mt : Nat} {ns ts : List ByteArray} (hn : Blk W gn 9 (strB ns)) (ht : Blk W gt 9 (strB ts)) (ln : ns.length = nn) (lt : ts.length = mt) (hnn : nn ≤ 10) (hmt : mt ≤ 10) (gn1 : w.heap.size < gn) (gt1 : w.heap.size < gt) :
    DrTy w (.returned (.tuple #[.agg #[.int .i64 k, .int .i64 n, .string s, .slice A l c], .slice (some ⟨gn, 0, none⟩) nn nn, .slice (some ⟨gt, 0, none⟩) mt mt])) (put4 W w.heap.size k n s A l c) := by
  have kX := put4_keep W w.heap.size k n s A l c
  exact ⟨k, n, s, A, l, c, t, gn, gt, nn, mt, ns, ts, rfl, (h.ie.keep kX (by omega)).ev, h.wg, h.cl, kX.blk hn (by omega), kX.blk ht (by omega), ln, lt, hnn, hmt, h.be.trans (kX.below (Nat.le_refl _) h.be.size)⟩
/-- What is ready to be handed back. -/
def DrP (w : World) (k n : Int) (s : ByteArray) (A : Option Addr) (l c : Nat) (sn st : Value) (W : World) : Prop := DrTy w (.returned (.tuple #[.agg #[.int .i64 k, .int .i64 n, .string s, .slice A l c], sn, st])) W ∧ Blk W w.heap.size 25 [.int .i64 k, .int .i64 n, .string s, .slice A l c]
theorem drP_in {w : World} {Y : Nat} {k n : Int} {s : ByteArray} {A : Option Addr} {l c : Nat} {t : Ex} {p : Nat} {W : World} (h : DoS w Y 500 k n s A l c t p W) {gn : Nat} (hn : Blk W gn 9 (strB tyNames)) (gn1 : w.heap.size < gn) (m : List UInt8) :
    DrP w k n s A l c (.slice (some ⟨gn, 0, none⟩) 4 4) (.slice (some ⟨W.heap.size, 0, none⟩) 4 4) ((put4 W w.heap.size k n s A l c).alloc (.cells #[.string ⟨#[98, 111, 111, 108]⟩, .string ⟨#[105, 110, 116]⟩, .string ⟨m.toArray⟩, .string ⟨#[105, 110, 116]⟩] 9)) := by
  have hl := DoS.lt w h
  have BT := Blk.alloc_ W 9 (strB (tyTypes m))
  have R := drTy_put (nn := 4) (mt := 4) (h.alloc (.cells #[.string ⟨#[98, 111, 111, 108]⟩, .string ⟨#[105, 110, 116]⟩, .string ⟨m.toArray⟩, .string ⟨#[105, 110, 116]⟩] 9)) (hn.alloc (.cells #[.string ⟨#[98, 111, 111, 108]⟩, .string ⟨#[105, 110, 116]⟩, .string ⟨m.toArray⟩, .string ⟨#[105, 110, 116]⟩] 9)) BT rfl rfl (by decide) (by decide) gn1 (by omega)
  rw [put4_past (by omega)] at R
  exact ⟨R, (put4_blk h.bx k n s A l c).alloc _⟩
theorem drP_nt {w : World} {Y : Nat} {k n : Int} {s : ByteArray} {A : Option Addr} {l c : Nat} {t : Ex} {p : Nat} {W : World} (h : DoS w Y 500 k n s A l c t p W) (m : List UInt8) :
    DrP w k n s A l c (.slice (some ⟨W.heap.size, 0, none⟩) 4 4) (.slice (some ⟨W.heap.size + 1, 0, none⟩) 4 4) (((put4 W w.heap.size k n s A l c).alloc (.cells #[.string ⟨#[120]⟩, .string ⟨#[121]⟩, .string ⟨#[122]⟩, .string ⟨#[120]⟩] 9)).alloc (.cells #[.string ⟨#[98, 111, 111, 108]⟩, .string ⟨#[105, 110, 116]⟩, .string ⟨m.toArray⟩, .string ⟨#[105, 110, 116]⟩] 9)) := by
  have hl := DoS.lt w h
  have BT := Blk.alloc_ (W.alloc (.cells #[.string ⟨#[120]⟩, .string ⟨#[121]⟩, .string ⟨#[122]⟩, .string ⟨#[120]⟩] 9)) 9 (strB (tyTypes m))
  rw [World.size_alloc] at BT
  have BN : Blk (W.alloc (.cells #[.string ⟨#[120]⟩, .string ⟨#[121]⟩, .string ⟨#[122]⟩, .string ⟨#[120]⟩] 9)) W.heap.size 9 (strB tyNames) := Blk.alloc_ W 9 (strB tyNames)
  have R := drTy_put (nn := 4) (mt := 4) ((h.alloc (.cells #[.string ⟨#[120]⟩, .string ⟨#[121]⟩, .string ⟨#[122]⟩, .string ⟨#[120]⟩] 9)).alloc (.cells #[.string ⟨#[98, 111, 111, 108]⟩, .string ⟨#[105, 110, 116]⟩, .string ⟨m.toArray⟩, .string ⟨#[105, 110, 116]⟩] 9)) (BN.alloc (.cells #[.string ⟨#[98, 111, 111, 108]⟩, .string ⟨#[105, 110, 116]⟩, .string ⟨m.toArray⟩, .string ⟨#[105, 110, 116]⟩] 9)) BT rfl rfl (by decide) (by decide) (by omega) (by omega)
  rw [put4_past (by simp only [World.size_alloc]; omega), put4_past (by omega)] at R
  exact ⟨R, ((put4_blk h.bx k n s A l c).alloc _).alloc _⟩
theorem drP_tn {w : World} {Y : Nat} {k n : Int} {s : ByteArray} {A : Option Addr} {l c : Nat} {t : Ex} {p : Nat} {W : World} (h : DoS w Y 500 k n s A l c t p W) (m : List UInt8) :
    DrP w k n s A l c (.slice (some ⟨W.heap.size + 1, 0, none⟩) 4 4) (.slice (some ⟨W.heap.size, 0, none⟩) 4 4) (((put4 W w.heap.size k n s A l c).alloc (.cells #[.string ⟨#[98, 111, 111, 108]⟩, .string ⟨#[105, 110, 116]⟩, .string ⟨m.toArray⟩, .string ⟨#[105, 110, 116]⟩] 9)).alloc (.cells #[.string ⟨#[120]⟩, .string ⟨#[121]⟩, .string ⟨#[122]⟩, .string ⟨#[120]⟩] 9)) := by
  have hl := DoS.lt w h
  have BN := Blk.alloc_ (W.alloc (.cells #[.string ⟨#[98, 111, 111, 108]⟩, .string ⟨#[105, 110, 116]⟩, .string ⟨m.toArray⟩, .string ⟨#[105, 110, 116]⟩] 9)) 9 (strB tyNames)
  rw [World.size_alloc] at BN
  have BT : Blk (W.alloc (.cells #[.string ⟨#[98, 111, 111, 108]⟩, .string ⟨#[105, 110, 116]⟩, .string ⟨m.toArray⟩, .string ⟨#[105, 110, 116]⟩] 9)) W.heap.size 9 (strB (tyTypes m)) := Blk.alloc_ W 9 (strB (tyTypes m))
  have R := drTy_put (nn := 4) (mt := 4) ((h.alloc (.cells #[.string ⟨#[98, 111, 111, 108]⟩, .string ⟨#[105, 110, 116]⟩, .string ⟨m.toArray⟩, .string ⟨#[105, 110, 116]⟩] 9)).alloc (.cells #[.string ⟨#[120]⟩, .string ⟨#[121]⟩, .string ⟨#[122]⟩, .string ⟨#[120]⟩] 9)) BN (BT.alloc (.cells #[.string ⟨#[120]⟩, .string ⟨#[121]⟩, .string ⟨#[122]⟩, .string ⟨#[120]⟩] 9)) rfl rfl (by decide) (by decide) (by omega) (by omega)
  rw [put4_past (by simp only [World.size_alloc]; omega), put4_past (by omega)] at R
  exact ⟨R, ((put4_blk h.bx k n s A l c).alloc _).alloc _⟩
set_option maxHeartbeats 8000000 in
set_option maxRecDepth 20000 in
theorem drawExprType (A : Option Addr) (n c : Nat) (z : List Int) (w : World) (hz : IsRow .u8 w A n c z) :
    Calls Tryd.prog 37 #[.slice A n c] w (DrTy w) := by
  have hba : Below w.heap.size w (w.alloc (.cells zero4.toArray 25)) := (Below.refl _ _).alloc (Nat.le_refl _) _
  have HZ := Lib.hid (isRow_below hz hba)
  have HX := Lib.hid (Blk.alloc_ w 25 zero4)
  have HB := Lib.hid hba
  clear hz hba
  go_enter Tryd.func37, Tryd.ntmps37
  go_wp2_with fail
  refine (openIt A n c z _ HZ.out).mono ?_
  rintro e w1 ⟨rfl, hR1, hb1⟩
  have HX1 : Hid (Blk w1 w.heap.size 25 zero4) := HX.out.below hb1 (by simp)
  have HB1 : Hid (Below w.heap.size w w1) := HB.out.trans (hb1.mono (by simp))
  have hsz := hb1.size
  simp only [World.size_alloc] at hsz hR1
  have HB4 := Lib.hid (l4Bent _ 0 w1 hR1 (by omega))
  have hlt := hR1.lt
  clear hb1 hR1 HX HB HZ
  go_wp2_with fail
  refine HB4.out.mono ?_
  rintro e w2 ⟨xk, xn, xs, xA, xl, xc, x, p1, rfl, hx, hxw, hxc, hp1, hp2, hR2, hK2⟩
  have hba : Below w2.heap.size w2 (w2.alloc (.cells #[.int .i64 xk, .int .i64 xn, .string xs, .slice xA xl xc] 25)) := (Below.refl _ _).alloc (Nat.le_refl _) _
  have hl2 : w.heap.size + 1 < w2.heap.size := hR2.lt
  have S2 : Hid (DoS w w2.heap.size 500 xk xn xs xA xl xc x p1 (w2.alloc (.cells #[.int .i64 xk, .int .i64 xn, .string xs, .slice xA xl xc] 25))) :=
    ⟨(hK2.blk HX1.out (by omega)).alloc _, Blk.alloc_ w2 25 [.int .i64 xk, .int .i64 xn, .string xs, .slice xA xl xc], (hx.down (by omega)).below hba, hxw, hxc, rd_alloc hR2 _, (HB1.out.trans (hK2.below (by omega) (by omega))).alloc (by omega) _, hl2⟩
  clear hx hxw hxc hp1 hR2 hK2 hba HX1 HB1 HB4 hsz hlt
  go_upto_region 3 with (fail)
  generalize w2.alloc (.cells #[.int .i64 xk, .int .i64 xn, .string xs, .slice xA xl xc] 25) = w3 at *
  generalize w2.heap.size = Y at *
  go_wp2_with fail
  refine (pick (w.heap.size + 1) p1 8 w3 S2.out.rd (by omega) (by omega) (by omega)).mono ?_
  rintro e w4 ⟨r, rfl, hr0, hr1, hR4, hK4, hs4⟩
  have S4 := Lib.hid (S2.out.next hK4 hR4)
  have hrn : (0 : Int) ≤ (r : Int) := by omega
  have hl4 := S4.out.lt
  clear hr0 hr1 hs4 hR4 hK4 S2
  by_cases r0 : r = 0
  · subst r0
    have SA := Lib.hid (((S4).out.alloc (.cells #[.string ⟨#[120]⟩] 9)).alloc (.cells #[.string ⟨#[105, 110, 116]⟩] 9))
    have BN : Hid (Blk ((w4.alloc (.cells #[.string ⟨#[120]⟩] 9)).alloc (.cells #[.string ⟨#[105, 110, 116]⟩] 9)) w4.heap.size 9 (strB [⟨#[120]⟩])) := (Blk.alloc_ w4 9 (strB [⟨#[120]⟩])).alloc _
    have BT : Hid (Blk ((w4.alloc (.cells #[.string ⟨#[120]⟩] 9)).alloc (.cells #[.string ⟨#[105, 110, 116]⟩] 9)) (w4.heap.size + 1) 9 (strB [⟨#[105, 110, 116]⟩])) := by have := Blk.alloc_ (w4.alloc (.cells #[.string ⟨#[120]⟩] 9)) 9 (strB [⟨#[105, 110, 116]⟩]); rw [World.size_alloc] at this; exact this
    have hlA : w.heap.size < w4.heap.size := by omega
    have hlB : w.heap.size < w4.heap.size + 1 := by omega
    have RES := Lib.hid (drTy_put (nn := 1) (mt := 1) (ns := [⟨#[120]⟩]) (ts := [⟨#[105, 110, 116]⟩]) SA.out BN.out BT.out rfl rfl (by omega) (by omega) (by omega) (by omega))
    rw [put4_past (by simp only [World.size_alloc]; omega), put4_past (by omega)] at RES
    have BQ := (((put4_blk S4.out.bx xk xn xs xA xl xc).alloc (.cells #[.string ⟨#[120]⟩] 9)).alloc (.cells #[.string ⟨#[105, 110, 116]⟩] 9))
    have q0 := BQ.cell 0
    have q1 := BQ.cell 1
    have q2 := BQ.cell 2
    have q3 := BQ.cell 3
    simp only [List.getElem?_cons_zero, List.getElem?_cons_succ] at q0 q1 q2 q3
    obtain ⟨⟨x0, x1, x2, x3⟩, ⟨y0, y1, y2, y3⟩, ⟨z0, z1, z2, z3⟩⟩ := S4.out.xs
    clear SA BN BT BQ
    go_wp2_with fail
    refine bodyPost_ret (v := .tuple #[.agg #[.int .i64 xk, .int .i64 xn, .string xs, .slice xA xl xc], .slice (some ⟨w4.heap.size, 0, none⟩) 1 1, .slice (some ⟨w4.heap.size + 1, 0, none⟩) 1 1]) (by simp [results, Tryd.results37, go_sem, q0, q1, q2, q3]) rfl ?_
    exact RES.out
  by_cases r1 : r = 1
  · subst r1
    have SA := Lib.hid (((S4).out.alloc (.cells #[.string ⟨#[120]⟩, .string ⟨#[121]⟩] 9)).alloc (.cells #[.string ⟨#[105, 110, 116]⟩] 9))
    have BN : Hid (Blk ((w4.alloc (.cells #[.string ⟨#[120]⟩, .string ⟨#[121]⟩] 9)).alloc (.cells #[.string ⟨#[105, 110, 116]⟩] 9)) w4.heap.size 9 (strB [⟨#[120]⟩, ⟨#[121]⟩])) := (Blk.alloc_ w4 9 (strB [⟨#[120]⟩, ⟨#[121]⟩])).alloc _
    have BT : Hid (Blk ((w4.alloc (.cells #[.string ⟨#[120]⟩, .string ⟨#[121]⟩] 9)).alloc (.cells #[.string ⟨#[105, 110, 116]⟩] 9)) (w4.heap.size + 1) 9 (strB [⟨#[105, 110, 116]⟩])) := by have := Blk.alloc_ (w4.alloc (.cells #[.string ⟨#[120]⟩, .string ⟨#[121]⟩] 9)) 9 (strB [⟨#[105, 110, 116]⟩]); rw [World.size_alloc] at this; exact this
    have hlA : w.heap.size < w4.heap.size := by omega
    have hlB : w.heap.size < w4.heap.size + 1 := by omega
    have RES := Lib.hid (drTy_put (nn := 2) (mt := 1) (ns := [⟨#[120]⟩, ⟨#[121]⟩]) (ts := [⟨#[105, 110, 116]⟩]) SA.out BN.out BT.out rfl rfl (by omega) (by omega) (by omega) (by omega))
    rw [put4_past (by simp only [World.size_alloc]; omega), put4_past (by omega)] at RES
    have BQ := (((put4_blk S4.out.bx xk xn xs xA xl xc).alloc (.cells #[.string ⟨#[120]⟩, .string ⟨#[121]⟩] 9)).alloc (.cells #[.string ⟨#[105, 110, 116]⟩] 9))
    have q0 := BQ.cell 0
    have q1 := BQ.cell 1
    have q2 := BQ.cell 2
    have q3 := BQ.cell 3
    simp only [List.getElem?_cons_zero, List.getElem?_cons_succ] at q0 q1 q2 q3
    obtain ⟨⟨x0, x1, x2, x3⟩, ⟨y0, y1, y2, y3⟩, ⟨z0, z1, z2, z3⟩⟩ := S4.out.xs
    clear SA BN BT BQ
    go_wp2_with fail
    refine bodyPost_ret (v := .tuple #[.agg #[.int .i64 xk, .int .i64 xn, .string xs, .slice xA xl xc], .slice (some ⟨w4.heap.size, 0, none⟩) 2 2, .slice (some ⟨w4.heap.size + 1, 0, none⟩) 1 1]) (by simp [results, Tryd.results37, go_sem, q0, q1, q2, q3]) rfl ?_
    exact RES.out
  by_cases r2 : r = 2
  · subst r2
    have SA := Lib.hid (((S4).out.alloc (.cells #[.string ⟨#[120]⟩, .string ⟨#[121]⟩, .string ⟨#[122]⟩] 9)).alloc (.cells #[.string ⟨#[98, 111, 111, 108]⟩, .string ⟨#[105, 110, 116]⟩, .string ⟨#[116, 101, 120, 116]⟩] 9))
    have BN : Hid (Blk ((w4.alloc (.cells #[.string ⟨#[120]⟩, .string ⟨#[121]⟩, .string ⟨#[122]⟩] 9)).alloc (.cells #[.string ⟨#[98, 111, 111, 108]⟩, .string ⟨#[105, 110, 116]⟩, .string ⟨#[116, 101, 120, 116]⟩] 9)) w4.heap.size 9 (strB [⟨#[120]⟩, ⟨#[121]⟩, ⟨#[122]⟩])) := (Blk.alloc_ w4 9 (strB [⟨#[120]⟩, ⟨#[121]⟩, ⟨#[122]⟩])).alloc _
    have BT : Hid (Blk ((w4.alloc (.cells #[.string ⟨#[120]⟩, .string ⟨#[121]⟩, .string ⟨#[122]⟩] 9)).alloc (.cells #[.string ⟨#[98, 111, 111, 108]⟩, .string ⟨#[105, 110, 116]⟩, .string ⟨#[116, 101, 120, 116]⟩] 9)) (w4.heap.size + 1) 9 (strB [⟨#[98, 111, 111, 108]⟩, ⟨#[105, 110, 116]⟩, ⟨#[116, 101, 120, 116]⟩])) := by have := Blk.alloc_ (w4.alloc (.cells #[.string ⟨#[120]⟩, .string ⟨#[121]⟩, .string ⟨#[122]⟩] 9)) 9 (strB [⟨#[98, 111, 111, 108]⟩, ⟨#[105, 110, 116]⟩, ⟨#[116, 101, 120, 116]⟩]); rw [World.size_alloc] at this; exact this
    have hlA : w.heap.size < w4.heap.size := by omega
    have hlB : w.heap.size < w4.heap.size + 1 := by omega
    have RES := Lib.hid (drTy_put (nn := 3) (mt := 3) (ns := [⟨#[120]⟩, ⟨#[121]⟩, ⟨#[122]⟩]) (ts := [⟨#[98, 111, 111, 108]⟩, ⟨#[105, 110, 116]⟩, ⟨#[116, 101, 120, 116]⟩]) SA.out BN.out BT.out rfl rfl (by omega) (by omega) (by omega) (by omega))
    rw [put4_past (by simp only [World.size_alloc]; omega), put4_past (by omega)] at RES
    have BQ := (((put4_blk S4.out.bx xk xn xs xA xl xc).alloc (.cells #[.string ⟨#[120]⟩, .string ⟨#[121]⟩, .string ⟨#[122]⟩] 9)).alloc (.cells #[.string ⟨#[98, 111, 111, 108]⟩, .string ⟨#[105, 110, 116]⟩, .string ⟨#[116, 101, 120, 116]⟩] 9))
    have q0 := BQ.cell 0
    have q1 := BQ.cell 1
    have q2 := BQ.cell 2
    have q3 := BQ.cell 3
    simp only [List.getElem?_cons_zero, List.getElem?_cons_succ] at q0 q1 q2 q3
    obtain ⟨⟨x0, x1, x2, x3⟩, ⟨y0, y1, y2, y3⟩, ⟨z0, z1, z2, z3⟩⟩ := S4.out.xs
    clear SA BN BT BQ
    go_wp2_with fail
    refine bodyPost_ret (v := .tuple #[.agg #[.int .i64 xk, .int .i64 xn, .string xs, .slice xA xl xc], .slice (some ⟨w4.heap.size, 0, none⟩) 3 3, .slice (some ⟨w4.heap.size + 1, 0, none⟩) 3 3]) (by simp [results, Tryd.results37, go_sem, q0, q1, q2, q3]) rfl ?_
    exact RES.out
  have b0 : ((r : Int) == 0) = false := by rw [beq_eq_false_iff_ne]; omega
  have b1 : ((r : Int) == 1) = false := by rw [beq_eq_false_iff_ne]; omega
  have b2 : ((r : Int) == 2) = false := by rw [beq_eq_false_iff_ne]; omega
  clear r0 r1 r2
  have hYX : Y ≠ w.heap.size := by have := S4.out.yy; omega
  have SD := Lib.hid S4.out.drew
  have SN := Lib.hid (S4.out.alloc (.cells #[.string ⟨#[120]⟩, .string ⟨#[121]⟩, .string ⟨#[122]⟩, .string ⟨#[120]⟩] 9)).drew
  have SNL := Lib.hid ((S4.out.alloc (.cells #[.string ⟨#[120]⟩, .string ⟨#[121]⟩, .string ⟨#[122]⟩, .string ⟨#[120]⟩] 9)).alloc (.cells #[.string ⟨#[105, 110, 116]⟩, .string ⟨#[98, 111, 111, 108]⟩] 9)).drew
  have SLN := Lib.hid ((S4.out.alloc (.cells #[.string ⟨#[105, 110, 116]⟩, .string ⟨#[98, 111, 111, 108]⟩] 9)).alloc (.cells #[.string ⟨#[120]⟩, .string ⟨#[121]⟩, .string ⟨#[122]⟩, .string ⟨#[120]⟩] 9)).drew
  have SL := Lib.hid (S4.out.alloc (.cells #[.string ⟨#[105, 110, 116]⟩, .string ⟨#[98, 111, 111, 108]⟩] 9)).drew
  have BL1 : Hid (Blk ((w4.alloc (.cells #[.string ⟨#[120]⟩, .string ⟨#[121]⟩, .string ⟨#[122]⟩, .string ⟨#[120]⟩] 9)).alloc (.cells #[.string ⟨#[105, 110, 116]⟩, .string ⟨#[98, 111, 111, 108]⟩] 9)).drew (w4.heap.size + 1) 9 (strV tyPick)) := by have := Blk.alloc_ (w4.alloc (.cells #[.string ⟨#[120]⟩, .string ⟨#[121]⟩, .string ⟨#[122]⟩, .string ⟨#[120]⟩] 9)) 9 (strV tyPick); rw [World.size_alloc] at this; exact this
  have BN1 : Hid (Blk ((w4.alloc (.cells #[.string ⟨#[120]⟩, .string ⟨#[121]⟩, .string ⟨#[122]⟩, .string ⟨#[120]⟩] 9)).alloc (.cells #[.string ⟨#[105, 110, 116]⟩, .string ⟨#[98, 111, 111, 108]⟩] 9)).drew w4.heap.size 9 (strB tyNames)) := (Blk.alloc_ w4 9 (strB tyNames)).alloc (.cells #[.string ⟨#[105, 110, 116]⟩, .string ⟨#[98, 111, 111, 108]⟩] 9)
  have BL2 : Hid (Blk ((w4.alloc (.cells #[.string ⟨#[105, 110, 116]⟩, .string ⟨#[98, 111, 111, 108]⟩] 9)).alloc (.cells #[.string ⟨#[120]⟩, .string ⟨#[121]⟩, .string ⟨#[122]⟩, .string ⟨#[120]⟩] 9)).drew w4.heap.size 9 (strV tyPick)) := (Blk.alloc_ w4 9 (strV tyPick)).alloc (.cells #[.string ⟨#[120]⟩, .string ⟨#[121]⟩, .string ⟨#[122]⟩, .string ⟨#[120]⟩] 9)
  have BN2 : Hid (Blk ((w4.alloc (.cells #[.string ⟨#[105, 110, 116]⟩, .string ⟨#[98, 111, 111, 108]⟩] 9)).alloc (.cells #[.string ⟨#[120]⟩, .string ⟨#[121]⟩, .string ⟨#[122]⟩, .string ⟨#[120]⟩] 9)).drew (w4.heap.size + 1) 9 (strB tyNames)) := by have := Blk.alloc_ (w4.alloc (.cells #[.string ⟨#[105, 110, 116]⟩, .string ⟨#[98, 111, 111, 108]⟩] 9)) 9 (strB tyNames); rw [World.size_alloc] at this; exact this
  have BL3 : Hid (Blk (w4.alloc (.cells #[.string ⟨#[105, 110, 116]⟩, .string ⟨#[98, 111, 111, 108]⟩] 9)).drew w4.heap.size 9 (strV tyPick)) := Blk.alloc_ w4 9 (strV tyPick)
  have C1 := Lib.hid (strOf (w.heap.size + 1) (p1 + 1) (w4.heap.size + 1) 2 2 tyPick _ SNL.out.rd (by omega) BL1.out (by unfold Hid; omega) rfl (by omega) (by omega))
  have C2 := Lib.hid (strOf (w.heap.size + 1) (p1 + 1) w4.heap.size 2 2 tyPick _ SLN.out.rd (by omega) BL2.out (by unfold Hid; omega) rfl (by omega) (by omega))
  have C3 := Lib.hid (strOf (w.heap.size + 1) (p1 + 1) w4.heap.size 2 2 tyPick _ SL.out.rd (by omega) BL3.out (by unfold Hid; omega) rfl (by omega) (by omega))
  go_upto_region 10 with (fail)
  go_cut [3, 4] from 28 to 33 (fun s3 s4 wc => ∃ a b, s3 = a ∧ s4 = b ∧ DrP w xk xn xs xA xl xc a b wc)
  case first =>
    go_region_held3 (fun W => W.cell? ⟨Y, 0, none⟩ = some (.int .i64 xk) ∧ W.cell? ⟨Y, 1, none⟩ = some (.int .i64 xn) ∧ W.cell? ⟨Y, 2, none⟩ = some (.string xs) ∧ W.cell? ⟨Y, 3, none⟩ = some (.slice xA xl xc))
      (first | with_reducible exact S5.out.xs.2.2 | with_reducible exact SNL.out.xs.2.2 | with_reducible exact SLN.out.xs.2.2 | with_reducible exact SL.out.xs.2.2 | with_reducible exact SD.out.xs.2.2 | with_reducible exact SN.out.xs.2.2 | with_reducible exact (S5.out.alloc _).xs.2.2 | with_reducible exact ((S5.out.alloc _).alloc _).xs.2.2 | with_reducible exact S5.out.ys | with_reducible exact S5.out.ysA _ | with_reducible exact S5.out.ysAA _ _ | go_keep)
      ((go_at_call 69
        first
          | (with_reducible refine C1.out.mono ?_
             rintro e w5 ⟨v5, p5, rfl, ⟨m, hm, rfl⟩, h1, h2, hR, hK⟩
             have S5 := Lib.hid (SNL.out.next hK hR)
             have BN5 : Hid (Blk w5 w4.heap.size 9 (strB tyNames)) := hK.blk BN1.out (by omega)
             have hl5 : w4.heap.size + 2 ≤ w5.heap.size := by have := hK.size; simp only [World.size_drew, World.size_alloc] at this; exact this
             have FIN := Lib.hid (drP_in S5.out BN5.out (by omega) m))
          | (with_reducible refine C2.out.mono ?_
             rintro e w5 ⟨v5, p5, rfl, ⟨m, hm, rfl⟩, h1, h2, hR, hK⟩
             have S5 := Lib.hid (SLN.out.next hK hR)
             have BN5 : Hid (Blk w5 (w4.heap.size + 1) 9 (strB tyNames)) := hK.blk BN2.out (by omega)
             have hl5 : w4.heap.size + 2 ≤ w5.heap.size := by have := hK.size; simp only [World.size_drew, World.size_alloc] at this; exact this
             have FIN := Lib.hid (drP_in S5.out BN5.out (by omega) m))
          | (with_reducible refine C3.out.mono ?_
             rintro e w5 ⟨v5, p5, rfl, ⟨m, hm, rfl⟩, h1, h2, hR, hK⟩
             have S5 := Lib.hid (SL.out.next hK hR)
             have hl5 : w4.heap.size + 1 ≤ w5.heap.size := by have := hK.size; simp only [World.size_drew, World.size_alloc] at this; exact this
             have FIN := Lib.hid (drP_nt S5.out m)
             have FIM := Lib.hid (drP_tn S5.out m))
        have hlA : w.heap.size < w5.heap.size := by omega
        have hlB : w.heap.size < w5.heap.size + 1 := by omega
        obtain ⟨⟨x0, x1, x2, x3⟩, ⟨y0, y1, y2, y3⟩, ⟨z0, z1, z2, z3⟩⟩ := S5.out.xs
        clear h1 h2 hR hK hm))
    all_goals (go_wp2_with fail; go_meet; first | exact ⟨_, _, rfl, rfl, by with_reducible exact FIN.out⟩ | exact ⟨_, _, rfl, rfl, by with_reducible exact FIM.out⟩)
  case rest =>
    obtain ⟨sa, sb, h3, h4, hres, hblk⟩ := hcut
    replace h3 := h3.symm
    replace h4 := h4.symm
    subst h3 h4
    have HRES := Lib.hid hres
    have HBLK := Lib.hid hblk
    clear hres hblk
    go_wp2_with fail
    refine bodyPost_ret (v := .tuple #[.agg #[.int .i64 xk, .int .i64 xn, .string xs, .slice xA xl xc], sa, sb]) (drRes (sn := sa) (st := sb) ?_ ?_ ?_ HBLK.out) rfl ?_
    rotate_left 3
    · exact HRES.out
    · rfl
    · rfl
    · rfl
end Go.Proofs.YtfjmjlpobbjjdaaDoor
