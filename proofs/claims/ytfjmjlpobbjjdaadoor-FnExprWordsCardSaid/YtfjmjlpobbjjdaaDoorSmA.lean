/- FnExprSame: texts of what is reckoned; two drawn. -/
import Derived.Test.YtfjmjlpobbjjdaaDoorWdF
import Derived.Test.YtfjmjlpobbjjdaaDoorSA
import Derived.Test.YtfjmjlpobbjjdaaDoorDrI
import Derived.Test.YtfjmjlpobbjjdaaDoorEtL
import Derived.Test.YtfjmjlpobbjjdaaDoorDrJ
import Derived.Test.YtfjmjlpobbjjdaaDoorBeM
import Derived.RegionTactic
import Derived.ChangeAlike
namespace Go.Proofs.YtfjmjlpobbjjdaaDoor
open Go.RowKit Ilp
set_option linter.unusedVariables false
set_option linter.unusedSimpArgs false

theorem lib_join_sp2 : ∀ (xs : List (List UInt8)), Lib.join xs [32] = Ilp.tokText xs
  | [] => rfl
  | [a] => by simp [Lib.join, Ilp.tokText]
  | a :: b :: r => by
    have ih := lib_join_sp2 (b :: r)
    rw [Ilp.tokText, ← ih]
    simp [Lib.join]
/-- The words as texts, and as one text. -/
def wordsB (t : Ex) : List ByteArray := (wordsOf t).map mkB
def textE (t : Ex) : ByteArray := joinB 32 (wordsB t)
theorem dats_mkB (ws : List (List UInt8)) : dats (ws.map mkB) = ws := by
  unfold dats; simp [Function.comp_def, mkB]
theorem textE_data (t : Ex) : (textE t).data.toList = tokText (wordsOf t) := by unfold textE wordsB; rw [joinB_data, dats_mkB, lib_join_sp2]
theorem textE_iff {t u : Ex} (h1 : exprOk t = true) (h2 : exprOk u = true) : textE t = textE u ↔ t = u := by
  constructor
  · intro h
    obtain ⟨a, _, a5, _, va, ea⟩ := wordsOf_some h1
    obtain ⟨b, _, b5, _, vb, eb⟩ := wordsOf_some h2
    have h3 : tokText (a.words 1) = tokText (b.words 1) := by rw [← ea, ← eb, ← textE_data, ← textE_data, h]
    have h4 := text_inj (fun w hw => (words_word a 1 va w hw).1) (fun w hw => (words_word b 1 vb w hw).1) h3
    have h5 := words_inj va vb h4
    rw [← (ofEx_some _ _ _ a5).1, ← (ofEx_some _ _ _ b5).1, h5]
  · rintro rfl; rfl
theorem same_text {t u : Ex} (h1 : exprOk t = true) (h2 : exprOk u = true) : (exEq t u == ((textE t).toList == (textE u).toList)) = true := by
  by_cases h : t = u
  · subst h; rw [exEq_true rfl]; simp
  · rw [exEq_false h]
    have : ((textE t).toList == (textE u).toList) = false := by
      rw [beq_eq_false_iff_ne, ByteArray.toList_eq, ByteArray.toList_eq]
      intro e
      exact h ((textE_iff h1 h2).1 (ByteArray.ext (by simpa using e)))
    rw [this]; rfl
theorem exEq_comm (t u : Ex) : exEq t u = exEq u t := by
  by_cases h : t = u
  · subst h; rfl
  · rw [exEq_false h, exEq_false (fun e => h e.symm)]
theorem kid_ne {t x : Ex} (h : x ∈ t.kids) : t ≠ x := by
  intro e
  obtain ⟨k, n, s, ks⟩ := t
  have h1 : SizeOf.sizeOf x < SizeOf.sizeOf ks := List.sizeOf_lt_of_mem h
  rw [← e] at h1
  simp at h1; omega
theorem wordsB_sizes (t : Ex) : sizes (wordsB t) + (wordsB t).length ≤ 1000 := by
  have hlen : (wordsB t).length ≤ 60 := by unfold wordsB; rw [List.length_map]; exact wordsOf_len t
  have h : ∀ w ∈ wordsOf t, w.length ≤ 8 := by
    cases h : exprOk t with
    | false => rw [wordsOf_none h]; simp
    | true =>
      obtain ⟨u, _, _, _, v, e⟩ := wordsOf_some h
      rw [e]; intro w hw; exact (words_word u 1 v w hw).2
  have : sizes (wordsB t) ≤ 8 * (wordsB t).length := by
    unfold wordsB
    generalize wordsOf t = ws at h
    induction ws with
    | nil => simp [sizes]
    | cons a r ih =>
      have h1 := h a (by simp)
      have h2 := ih (fun w hw => h w (by simp [hw]))
      simp only [sizes, List.map_cons, List.sum_cons, List.length_cons] at h2 ⊢
      have h3 : (mkB a).size = a.length := by simp [mkB, ByteArray.size]
      omega
  omega
/-- The one text of the words. -/
theorem implText (t : Ex) (v : Value) (n b0 : Nat) (W : World) (h : W.ownsRow b0 9 1 v n (wsB (wordsOf t))) (hn : n = (wordsOf t).length) :
    Calls Tryd.prog 28 #[v] W fun e w' => e = .returned (.string (textE t)) ∧ Below W.heap.size W w' := by
  obtain ⟨A, c, rfl, hc, hr⟩ := own_row h
  exact implTokText A c n (wordsB t) W hr (by unfold Hid wordsB; rw [hn]; simp) hc (by unfold Hid; have := wordsB_sizes t; omega)

/-- Two drawn. -/
def DrSm (w : World) (e : Ending) (w' : World) : Prop :=
  ∃ (k n : Int) (s : ByteArray) (A : Option Addr) (l c : Nat) (t : Ex) (k2 n2 : Int) (s2 : ByteArray) (A2 : Option Addr) (l2 c2 : Nat) (t2 : Ex), e = .returned (.tuple #[.agg #[.int .i64 k, .int .i64 n, .string s, .slice A l c], .agg #[.int .i64 k2, .int .i64 n2, .string s2, .slice A2 l2 c2]]) ∧ IsEV w' [.int .i64 k, .int .i64 n, .string s, .slice A l c] t ∧ IsEV w' [.int .i64 k2, .int .i64 n2, .string s2, .slice A2 l2 c2] t2 ∧ wgt t ≤ 500 ∧ wgt t2 ≤ 500 ∧ Below w.heap.size w w'
/-- What holds while the two results are written. -/
structure SmW (w : World) (B y1 y2 : Nat) (k n : Int) (s : ByteArray) (A : Option Addr) (l c : Nat) (t : Ex) (k2 n2 : Int) (s2 : ByteArray) (A2 : Option Addr) (l2 c2 : Nat) (t2 : Ex) (n0 : Int) (d1 d2 : Bool) (W : World) : Prop where
  bx : Blk W w.heap.size 25 (if d1 = true then [.int .i64 k, .int .i64 n, .string s, .slice A l c] else zero4)
  by_ : Blk W (w.heap.size + 1) 25 (if d2 = true then [.int .i64 k2, .int .i64 n2, .string s2, .slice A2 l2 c2] else zero4)
  b1 : Blk W y1 25 [.int .i64 k, .int .i64 n, .string s, .slice A l c]
  b2 : Blk W y2 25 [.int .i64 k2, .int .i64 n2, .string s2, .slice A2 l2 c2]
  e1 : IsEN B W [.int .i64 k, .int .i64 n, .string s, .slice A l c] t
  e2 : IsEN B W [.int .i64 k2, .int .i64 n0, .string s2, .slice A2 l2 c2] t2
  be : Below w.heap.size w W
  lb : w.heap.size + 1 < B
  m1 : B ≤ y1
  m2 : B ≤ y2
section
variable {w : World} {B y1 y2 : Nat} {k n : Int} {s : ByteArray} {A : Option Addr} {l c : Nat} {t : Ex} {k2 n2 : Int} {s2 : ByteArray} {A2 : Option Addr} {l2 c2 : Nat} {t2 : Ex} {n0 : Int} {d1 d2 : Bool} {W : World}
theorem SmW.drew (h : SmW w B y1 y2 k n s A l c t k2 n2 s2 A2 l2 c2 t2 n0 d1 d2 W) : SmW w B y1 y2 k n s A l c t k2 n2 s2 A2 l2 c2 t2 n0 d1 d2 W.drew := by
  obtain ⟨bx, by_, b1, b2, e1, e2, be, lb, m1, m2⟩ := h
  have hd := (Below.refl W.heap.size W).drew
  exact ⟨bx, by_, b1, b2, e1.below hd, e2.below hd, be.drew, lb, m1, m2⟩
theorem SmW.put1 (h : SmW w B y1 y2 k n s A l c t k2 n2 s2 A2 l2 c2 t2 n0 false d2 W) : SmW w B y1 y2 k n s A l c t k2 n2 s2 A2 l2 c2 t2 n0 true d2 (put4 W w.heap.size k n s A l c) := by
  have kX := put4_keep W w.heap.size k n s A l c
  obtain ⟨bx, by_, b1, b2, e1, e2, be, lb, m1, m2⟩ := h
  exact ⟨put4_blk bx k n s A l c, kX.blk by_ (by omega), kX.blk b1 (by omega), kX.blk b2 (by omega), e1.keep kX (by omega), e2.keep kX (by omega), be.trans (kX.below (Nat.le_refl _) be.size), lb, m1, m2⟩
theorem SmW.put2 (h : SmW w B y1 y2 k n s A l c t k2 n2 s2 A2 l2 c2 t2 n0 d1 false W) : SmW w B y1 y2 k n s A l c t k2 n2 s2 A2 l2 c2 t2 n0 d1 true (put4 W (w.heap.size + 1) k2 n2 s2 A2 l2 c2) := by
  have kX := put4_keep W (w.heap.size + 1) k2 n2 s2 A2 l2 c2
  obtain ⟨bx, by_, b1, b2, e1, e2, be, lb, m1, m2⟩ := h
  exact ⟨kX.blk bx (by omega), put4_blk by_ k2 n2 s2 A2 l2 c2, kX.blk b1 (by omega), kX.blk b2 (by omega), e1.keep kX (by omega), e2.keep kX (by omega), be.trans (kX.below (by omega) be.size), lb, m1, m2⟩
end
def smAct (g f : Nat → Value) : Act := { tmps := #[g 0, g 1, g 2, g 3, g 4, g 5, g 6, g 7, g 8, g 9, g 10, g 11, g 12, g 13, g 14, g 15, g 16, g 17, g 18, g 19, g 20, g 21, g 22, g 23, g 24, g 25, f 0, f 1], defers := [] }
/-- What holds all the way through the returning. -/
def SmK (g : Nat → Value) (w : World) (B y1 y2 : Nat) (k n : Int) (s : ByteArray) (A : Option Addr) (l c : Nat) (t : Ex) (k2 n2 : Int) (s2 : ByteArray) (A2 : Option Addr) (l2 c2 : Nat) (t2 : Ex) (n0 : Int) (listed : Array Bool) (a : Act) (W : World) : Prop := listed.size = 4 ∧ ∃ f, a = smAct g f ∧ (got listed 0 → f 0 = .agg #[.int .i64 k, .int .i64 n, .string s, .slice A l c]) ∧ (got listed 1 → f 1 = .agg #[.int .i64 k2, .int .i64 n2, .string s2, .slice A2 l2 c2]) ∧ SmW w B y1 y2 k n s A l c t k2 n2 s2 A2 l2 c2 t2 n0 (listed.getD 2 false) (listed.getD 3 false) W
theorem drResS {tmps : Array Value} {W : World} {X Y : Nat} {k n : Int} {s : ByteArray} {A : Option Addr} {l c : Nat} {k2 n2 : Int} {s2 : ByteArray} {A2 : Option Addr} {l2 c2 : Nat} (h2 : tmps.getD 2 undef = .pointer (some ⟨X, 0, none⟩)) (h3 : tmps.getD 3 undef = .pointer (some ⟨Y, 0, none⟩)) (hB : Blk W X 25 [.int .i64 k, .int .i64 n, .string s, .slice A l c]) (hC : Blk W Y 25 [.int .i64 k2, .int .i64 n2, .string s2, .slice A2 l2 c2]) :
    (results Tryd.f38 tmps).run Tryd.prog W = .ok (.tuple #[.agg #[.int .i64 k, .int .i64 n, .string s, .slice A l c], .agg #[.int .i64 k2, .int .i64 n2, .string s2, .slice A2 l2 c2]]) W := by
  obtain ⟨q0, q1, q2, q3⟩ := blkE_cells hB
  obtain ⟨r0, r1, r2, r3⟩ := blkE_cells hC
  simp only [Array.getD_eq_getD_getElem?] at h2 h3
  simp [results, Tryd.results38, go_sem, q0, q1, q2, q3, r0, r1, r2, r3, h2, h3]
set_option maxHeartbeats 4000000 in
set_option maxRecDepth 20000 in
theorem drawExprSame (A : Option Addr) (n c : Nat) (z : List Int) (w : World) (hz : IsRow .u8 w A n c z) :
    Calls Tryd.prog 38 #[.slice A n c] w (DrSm w) := by
  have HZ := Lib.hid hz
  obtain ⟨hr0, hl0, _, hn0, _, hw0⟩ := hz.row
  obtain ⟨zs, hzs⟩ : ∃ zs, zs = z.take n := ⟨_, rfl⟩
  rw [← hzs] at hr0 hl0 hw0
  obtain ⟨wA, hwA⟩ : ∃ wA, wA = (w.alloc (.cells #[.int .i64 0, .int .i64 0, .string ⟨#[]⟩, .slice none 0 0] 25)).alloc (.cells #[.int .i64 0, .int .i64 0, .string ⟨#[]⟩, .slice none 0 0] 25) := ⟨_, rfl⟩
  have hbA : Below w.heap.size w wA := by rw [hwA]; exact ((Below.refl _ _).alloc (Nat.le_refl _) _).alloc (by simp) _
  have hX : Blk wA w.heap.size 25 zero4 := by rw [hwA]; exact (Blk.alloc_ w _ zero4).alloc _
  have hY : Blk wA (w.heap.size + 1) 25 zero4 := by rw [hwA]; have := Blk.alloc_ (w.alloc (.cells zero4.toArray 25)) 25 zero4; rw [World.size_alloc] at this; exact this
  have HX := Lib.hid hX
  have HY := Lib.hid hY
  have HBA := Lib.hid hbA
  have HRA := Lib.hid hr0
  have HLA := Lib.hid hl0
  have HWA := Lib.hid hw0
  clear hz hr0 hl0 hw0 hzs hbA hX hY
  go_enter Tryd.func38, Tryd.ntmps38
  go_upto_region 1 with (fail)
  rw [← hwA]
  have hszA : w.heap.size + 1 < wA.heap.size := by rw [hwA]; simp
  clear hwA
  go_wp2_with fail
  refine (openIt A n c z wA (isRow_below HZ.out HBA.out)).mono ?_
  rintro e w1 ⟨rfl, hR1, hb1⟩
  have HB1 := Lib.hid hb1
  have C1 := Lib.hid (l4Bent wA.heap.size 0 w1 hR1 (by omega))
  clear hR1 hb1
  go_wp2_with fail
  refine C1.out.mono ?_
  rintro e w2 ⟨xk, xn, xs, xA, xl, xc, x, p1, rfl, hx, hxw, hxc, _, _, _, hK2⟩
  have hs1 := HB1.out.size
  have hB2 : Below wA.heap.size wA w2 := HB1.out.trans (hK2.below (by omega) (by omega))
  have HB3 : Hid (Below wA.heap.size wA (w2.alloc (.cells #[.int .i64 xk, .int .i64 xn, .string xs, .slice xA xl xc] 25))) := hB2.alloc hB2.size _
  have HY1 : Hid (CopS w2.heap.size xk xn xs xA xl xc x (w2.alloc (.cells #[.int .i64 xk, .int .i64 xn, .string xs, .slice xA xl xc] 25))) := ⟨Blk.alloc_ w2 25 [.int .i64 xk, .int .i64 xn, .string xs, .slice xA xl xc], hx.ev.below ((Below.refl _ _).alloc (Nat.le_refl _) _)⟩
  have hy1 : wA.heap.size ≤ w2.heap.size := hB2.size
  have EX3 : Hid (IsEN wA.heap.size (w2.alloc (.cells #[.int .i64 xk, .int .i64 xn, .string xs, .slice xA xl xc] 25)) [.int .i64 xk, .int .i64 xn, .string xs, .slice xA xl xc] x) := (hx.down (by omega)).below ((Below.refl _ _).alloc (Nat.le_refl _) _)
  clear hx hxc hK2 C1 HB1 hs1 hB2
  go_upto_region 2 with (fail)
  obtain ⟨w3, hw3⟩ : ∃ w3, w3 = w2.alloc (.cells #[.int .i64 xk, .int .i64 xn, .string xs, .slice xA xl xc] 25) := ⟨_, rfl⟩
  rw [← hw3] at HB3 HY1 EX3 ⊢
  obtain ⟨y1, hy1e⟩ : ∃ y1, y1 = w2.heap.size := ⟨_, rfl⟩
  rw [← hy1e] at HY1 hy1 ⊢
  clear hw3 hy1e
  go_wp2_with fail
  refine (openIt A n c z w3 (isRow_below HZ.out (HBA.out.trans (HB3.out.mono (by omega))))).mono ?_
  rintro e w4 ⟨rfl, hR4, hb4⟩
  have HB4 := Lib.hid hb4
  have C4 := Lib.hid (l4Bent w3.heap.size 0 w4 hR4 (by omega))
  clear hR4 hb4
  go_wp2_with fail
  refine C4.out.mono ?_
  rintro e w5 ⟨uk, un, us, uA, ul, uc, u, p2, rfl, hu, huw, huc, _, _, _, hK5⟩
  have hs4 := HB4.out.size
  have hB5 : Below w3.heap.size w3 w5 := HB4.out.trans (hK5.below (by omega) (by omega))
  have hB6 : Below w3.heap.size w3 (w5.alloc (.cells #[.int .i64 uk, .int .i64 un, .string us, .slice uA ul uc] 25)) := hB5.alloc hB5.size _
  have HB6 : Hid (Below wA.heap.size wA (w5.alloc (.cells #[.int .i64 uk, .int .i64 un, .string us, .slice uA ul uc] 25))) := HB3.out.trans (hB6.mono HB3.out.size)
  have HU1 : Hid (CopS y1 xk xn xs xA xl xc x (w5.alloc (.cells #[.int .i64 uk, .int .i64 un, .string us, .slice uA ul uc] 25))) := HY1.out.next hB6
  have HU2 : Hid (CopS w5.heap.size uk un us uA ul uc u (w5.alloc (.cells #[.int .i64 uk, .int .i64 un, .string us, .slice uA ul uc] 25))) := ⟨Blk.alloc_ w5 25 [.int .i64 uk, .int .i64 un, .string us, .slice uA ul uc], hu.ev.below ((Below.refl _ _).alloc (Nat.le_refl _) _)⟩
  have hy2 : y1 < w5.heap.size := by have h1 := HY1.out.ba.lt; have h2 := hB5.size; omega
  have EX5 : Hid (IsEN wA.heap.size w5 [.int .i64 xk, .int .i64 xn, .string xs, .slice xA xl xc] x) := EX3.out.below hB5
  have EU5 : Hid (IsEN wA.heap.size w5 [.int .i64 uk, .int .i64 un, .string us, .slice uA ul uc] u) := hu.down (by have := HB3.out.size; omega)
  have HUS : Hid (us.size ≤ maxLen) := by obtain ⟨_, _, hq, _, _, _, hq4, _⟩ := hu.ev.parts; unfold Hid; rw [hq, mkB_size]; exact hq4
  have HUW : Hid (wgt (.mk uk (wrap64 (un + 1)) us.data.toList u.kids) ≤ 500) := by obtain ⟨_, _, hq, _⟩ := hu.ev.parts; unfold Hid; have h1 := wgt_eq u; rw [wgt_eq]; show us.data.toList.length + wgts u.kids ≤ 500; rw [hq, mkB_data]; omega
  clear hu huc hK5 C4 HB4 hs4 hB5 hB6 HB3 HY1 EX3
  go_upto_region 3 with (fail)
  obtain ⟨w6, hw6⟩ : ∃ w6, w6 = w5.alloc (.cells #[.int .i64 uk, .int .i64 un, .string us, .slice uA ul uc] 25) := ⟨_, rfl⟩
  have H56 : Hid (Below w5.heap.size w5 w6) := by rw [hw6]; exact (Below.refl _ _).alloc (Nat.le_refl _) _
  rw [← hw6] at HB6 HU1 HU2 ⊢
  obtain ⟨y2, hy2e⟩ : ∃ y2, y2 = w5.heap.size := ⟨_, rfl⟩
  rw [← hy2e] at HU2 hy2 ⊢
  have HY2E := Lib.hid hy2e
  clear hw6 hy2e
  go_cut [21] from 12 to 20 (fun s21 wc => (∃ b : Bool, s21 = .bool b) ∧ wc = w6)
  case first =>
    by_cases hn : n = 0
    · subst hn
      go_wp2_with fail
      go_meet
      exact ⟨⟨_, rfl⟩, rfl⟩
    · have hn1 : (0 : Int) < (n : Int) := by omega
      have hzl : 0 < zs.length := by rw [HLA.out]; omega
      obtain ⟨b, o, rfl, hb, hc⟩ := HRA.out.at_ (i := 0) (by simpa using hzl)
      have hb6 : w6.cell? ⟨b, o + 0, none⟩ = w.cell? ⟨b, o + 0, none⟩ := (HBA.out.trans (HB6.out.mono (by omega))).cell hb
      rw [hc] at hb6
      simp only [Nat.add_zero, List.getElem_map] at hb6
      obtain ⟨z0, hz0⟩ : ∃ z0, z0 = zs[0] := ⟨_, rfl⟩
      rw [← hz0] at hb6
      have hzr : 0 ≤ z0 ∧ z0 ≤ 255 := by rw [hz0]; exact wf_u8 (HWA.out _ (List.getElem_mem _))
      obtain ⟨hz1, hz2⟩ := hzr
      clear hz0 hc hb hn hzl
      go_wp2_with fail
      go_meet
      exact ⟨⟨_, rfl⟩, rfl⟩
  case rest =>
    obtain ⟨⟨b, e21⟩, ew⟩ := hcut
    subst e21 ew
    obtain ⟨u0, u1, u2, u3⟩ := blkE_cells HU2.out.ba
    have uf := HU2.out.ba.frozen 1
    cases b with
    | false =>
      go_upto_region 5 with (fail)
      have S0 : Hid (SmW w wA.heap.size y1 y2 xk xn xs xA xl xc x uk un us uA ul uc u un false false wc) := ⟨(HX.out.below HB6.out (by omega)), (HY.out.below HB6.out (by omega)), HU1.out.ba, HU2.out.ba, EX5.out.below H56.out, EU5.out.below H56.out, HBA.out.trans (HB6.out.mono (by omega)), hszA, hy1, by omega⟩
      obtain ⟨w7, hw7⟩ : ∃ w7, w7 = wc := ⟨_, rfl⟩
      rw [← hw7] at S0 ⊢
      clear hw7 u0 u1 u2 u3 uf
      refine region_of ?_
      intro arr harr
      obtain ⟨gA, hg⟩ : ∃ g : Nat → Value, g = fun j => arr.getD j undef := ⟨_, rfl⟩
      have hg2 : gA 2 = .pointer (some ⟨w.heap.size, 0, none⟩) := by rw [hg, harr]; rfl
      have hg3 : gA 3 = .pointer (some ⟨w.heap.size + 1, 0, none⟩) := by rw [hg, harr]; rfl
      have hg4 : gA 4 = .pointer (some ⟨y1, 0, none⟩) := by rw [hg, harr]; rfl
      have hg5 : gA 5 = .pointer (some ⟨y2, 0, none⟩) := by rw [hg, harr]; rfl
      refine wp_region_inv rfl (SmK gA w wA.heap.size y1 y2 xk xn xs xA xl xc x uk un us uA ul uc u un) ?h0 ?hs ?hd
      case h0 =>
        have hng : ∀ j, ¬ got (Array.replicate 4 false) j := fun j e => by
          unfold got at e
          rw [Array.getD_eq_getD_getElem?, Array.getElem?_replicate] at e
          split at e <;> cases e
        refine ⟨by simp, fun j => gA (26 + j), by rw [hg, harr]; rfl, fun e => absurd e (hng 0), fun e => absurd e (hng 1), ?_⟩
        have S1 : SmW w wA.heap.size y1 y2 xk xn xs xA xl xc x uk un us uA ul uc u un ((Array.replicate 4 false).getD 2 false) ((Array.replicate 4 false).getD 3 false) w7.drew := by rw [ngot_false (hng 2), ngot_false (hng 3)]; exact S0.out.drew
        exact S1
      case hs =>
        clear hg harr
        rintro listed a W i ⟨hsz, f, rfl, hf0, hf1, h⟩ hi
        obtain ⟨hn, o, ho, haft⟩ := mem_ready.1 hi
        have hiN : i < 4 := by have := (Array.getElem?_eq_some_iff.1 ho).1; simpa using this
        have hcs : i = 0 ∨ i = 1 ∨ i = 2 ∨ i = 3 := by omega
        clear hi hiN
        have hng := ngot hn
        rcases hcs with rfl | rfl | rfl | rfl
        all_goals (simp at ho; subst ho)
        · obtain ⟨q0, q1, q2, q3⟩ := blkE_cells h.b1
          refine wpOp_of_list rfl ?_
          simp only [smAct, hg2, hg3, hg4, hg5]
          go_wp2_with fail
          change (listed.setIfInBounds 0 true).size = 4 ∧ _
          refine ⟨by simp [hsz], upd f 0 (.agg #[.int .i64 xk, .int .i64 xn, .string xs, .slice xA xl xc]), ?_, fun _ => rfl, fun e => ?_, ?_⟩
          · simp only [smAct, upd, hg2, hg3, hg4, hg5]; rfl
          · rcases got_set e with e | e
            · exact hf1 e
            · cases e
          · rw [getD_set_same (by decide), getD_set_same (by decide)]; exact h
        · obtain ⟨q0, q1, q2, q3⟩ := blkE_cells h.b2
          refine wpOp_of_list rfl ?_
          simp only [smAct, hg2, hg3, hg4, hg5]
          go_wp2_with fail
          change (listed.setIfInBounds 1 true).size = 4 ∧ _
          refine ⟨by simp [hsz], upd f 1 (.agg #[.int .i64 uk, .int .i64 un, .string us, .slice uA ul uc]), ?_, fun e => ?_, fun _ => rfl, ?_⟩
          · simp only [smAct, upd, hg2, hg3, hg4, hg5]; rfl
          · rcases got_set e with e | e
            · exact hf0 e
            · cases e
          · rw [getD_set_same (by decide), getD_set_same (by decide)]; exact h
        · have g0 : got listed 0 := haft ⟨0, .data⟩ (by simp) rfl
          have e0 := hf0 g0
          rw [ngot_false hng] at h
          have hbx : Blk W w.heap.size 25 zero4 := h.bx
          have x0 : W.cell? ⟨w.heap.size, 0, none⟩ = some (.int .i64 0) := hbx.cell 0
          have x1 : W.cell? ⟨w.heap.size, 1, none⟩ = some (.int .i64 0) := hbx.cell 1
          have x2 : W.cell? ⟨w.heap.size, 2, none⟩ = some (.string ⟨#[]⟩) := hbx.cell 2
          have x3 : W.cell? ⟨w.heap.size, 3, none⟩ = some (.slice none 0 0) := hbx.cell 3
          have z0 := hbx.frozen 0
          have z1 := hbx.frozen 1
          have z2 := hbx.frozen 2
          have z3 := hbx.frozen 3
          refine wpOp_of_list rfl ?_
          simp only [smAct, hg2, hg3, hg4, hg5, e0]
          go_wp2_with fail
          change (listed.setIfInBounds 2 true).size = 4 ∧ _
          refine ⟨by simp [hsz], f, ?_, fun e => ?_, fun e => ?_, ?_⟩
          · simp only [smAct, hg2, hg3, hg4, hg5, e0]
          · exact e0
          · rcases got_set e with e | e
            · exact hf1 e
            · cases e
          · rw [got_set_self (by omega), getD_set_same (by decide)]; exact h.put1
        · have g1 : got listed 1 := haft ⟨1, .data⟩ (by simp) rfl
          have e1 := hf1 g1
          rw [ngot_false hng] at h
          have hbx : Blk W (w.heap.size + 1) 25 zero4 := h.by_
          have x0 : W.cell? ⟨w.heap.size + 1, 0, none⟩ = some (.int .i64 0) := hbx.cell 0
          have x1 : W.cell? ⟨w.heap.size + 1, 1, none⟩ = some (.int .i64 0) := hbx.cell 1
          have x2 : W.cell? ⟨w.heap.size + 1, 2, none⟩ = some (.string ⟨#[]⟩) := hbx.cell 2
          have x3 : W.cell? ⟨w.heap.size + 1, 3, none⟩ = some (.slice none 0 0) := hbx.cell 3
          have z0 := hbx.frozen 0
          have z1 := hbx.frozen 1
          have z2 := hbx.frozen 2
          have z3 := hbx.frozen 3
          refine wpOp_of_list rfl ?_
          simp only [smAct, hg2, hg3, hg4, hg5, e1]
          go_wp2_with fail
          change (listed.setIfInBounds 3 true).size = 4 ∧ _
          refine ⟨by simp [hsz], f, ?_, fun e => ?_, fun e => ?_, ?_⟩
          · simp only [smAct, hg2, hg3, hg4, hg5, e1]
          · rcases got_set e with e | e
            · exact hf0 e
            · cases e
          · exact e1
          · rw [got_set_self (by omega), getD_set_same (by decide)]; exact h.put2
      case hd =>
        rintro listed a wc ⟨hsz, f, rfl, hf0, hf1, h⟩ hr
        have hall := ready_all (listed := listed) (by kernel_rfl) (by rw [hsz]; rfl) hr
        rw [show listed.getD 2 false = true from hall 2 (by decide), show listed.getD 3 false = true from hall 3 (by decide)] at h
        have RES : DrSm w (.returned (.tuple #[.agg #[.int .i64 xk, .int .i64 xn, .string xs, .slice xA xl xc], .agg #[.int .i64 uk, .int .i64 un, .string us, .slice uA ul uc]])) wc := ⟨xk, xn, xs, xA, xl, xc, x, uk, un, us, uA, ul, uc, u, rfl, h.e1.ev, h.e2.ev, hxw, huw, h.be⟩
        have HRES := Lib.hid RES
        have HBX := Lib.hid h.bx
        have HBY := Lib.hid h.by_
        clear hr h hf0 hf1 hall RES
        simp only [smAct, hg2, hg3]
        go_wp2_with fail
        refine bodyPost_ret (v := .tuple #[.agg #[.int .i64 xk, .int .i64 xn, .string xs, .slice xA xl xc], .agg #[.int .i64 uk, .int .i64 un, .string us, .slice uA ul uc]]) (drResS ?_ ?_ HBX.out HBY.out) rfl HRES.out
        · rfl
        · rfl
    | true =>
      go_upto_region 5 with (fail)
      have KP : Keep y2 wc (wc.setCell ⟨y2, 1, none⟩ (.int .i64 (wrap64 (un + 1)))) := (Keep.refl _ _).set 1 _
      have S0 : Hid (SmW w wA.heap.size y1 y2 xk xn xs xA xl xc x uk (wrap64 (un + 1)) us uA ul uc u un false false (wc.setCell ⟨y2, 1, none⟩ (.int .i64 (wrap64 (un + 1))))) := ⟨(KP.blk (HX.out.below HB6.out (by omega)) (by omega)), (KP.blk (HY.out.below HB6.out (by omega)) (by omega)), (KP.blk HU1.out.ba (by omega)), (HU2.out.ba.put 1 _), EX5.out.below (H56.out.trans (KP.below (by have := HY2E.out; omega) H56.out.size)), EU5.out.below (H56.out.trans (KP.below (by have := HY2E.out; omega) H56.out.size)), HBA.out.trans ((HB6.out.trans (KP.below (by omega) HB6.out.size)).mono (by omega)), hszA, hy1, by omega⟩
      obtain ⟨w7, hw7⟩ : ∃ w7, w7 = (wc.setCell ⟨y2, 1, none⟩ (.int .i64 (wrap64 (un + 1)))) := ⟨_, rfl⟩
      rw [← hw7] at S0 ⊢
      clear hw7 u0 u1 u2 u3 uf
      refine region_of ?_
      intro arr harr
      obtain ⟨gA, hg⟩ : ∃ g : Nat → Value, g = fun j => arr.getD j undef := ⟨_, rfl⟩
      have hg2 : gA 2 = .pointer (some ⟨w.heap.size, 0, none⟩) := by rw [hg, harr]; rfl
      have hg3 : gA 3 = .pointer (some ⟨w.heap.size + 1, 0, none⟩) := by rw [hg, harr]; rfl
      have hg4 : gA 4 = .pointer (some ⟨y1, 0, none⟩) := by rw [hg, harr]; rfl
      have hg5 : gA 5 = .pointer (some ⟨y2, 0, none⟩) := by rw [hg, harr]; rfl
      refine wp_region_inv rfl (SmK gA w wA.heap.size y1 y2 xk xn xs xA xl xc x uk (wrap64 (un + 1)) us uA ul uc u un) ?h0 ?hs ?hd
      case h0 =>
        have hng : ∀ j, ¬ got (Array.replicate 4 false) j := fun j e => by
          unfold got at e
          rw [Array.getD_eq_getD_getElem?, Array.getElem?_replicate] at e
          split at e <;> cases e
        refine ⟨by simp, fun j => gA (26 + j), by rw [hg, harr]; rfl, fun e => absurd e (hng 0), fun e => absurd e (hng 1), ?_⟩
        have S1 : SmW w wA.heap.size y1 y2 xk xn xs xA xl xc x uk (wrap64 (un + 1)) us uA ul uc u un ((Array.replicate 4 false).getD 2 false) ((Array.replicate 4 false).getD 3 false) w7.drew := by rw [ngot_false (hng 2), ngot_false (hng 3)]; exact S0.out.drew
        exact S1
      case hs =>
        clear hg harr
        rintro listed a W i ⟨hsz, f, rfl, hf0, hf1, h⟩ hi
        obtain ⟨hn, o, ho, haft⟩ := mem_ready.1 hi
        have hiN : i < 4 := by have := (Array.getElem?_eq_some_iff.1 ho).1; simpa using this
        have hcs : i = 0 ∨ i = 1 ∨ i = 2 ∨ i = 3 := by omega
        clear hi hiN
        have hng := ngot hn
        rcases hcs with rfl | rfl | rfl | rfl
        all_goals (simp at ho; subst ho)
        · obtain ⟨q0, q1, q2, q3⟩ := blkE_cells h.b1
          refine wpOp_of_list rfl ?_
          simp only [smAct, hg2, hg3, hg4, hg5]
          go_wp2_with fail
          change (listed.setIfInBounds 0 true).size = 4 ∧ _
          refine ⟨by simp [hsz], upd f 0 (.agg #[.int .i64 xk, .int .i64 xn, .string xs, .slice xA xl xc]), ?_, fun _ => rfl, fun e => ?_, ?_⟩
          · simp only [smAct, upd, hg2, hg3, hg4, hg5]; rfl
          · rcases got_set e with e | e
            · exact hf1 e
            · cases e
          · rw [getD_set_same (by decide), getD_set_same (by decide)]; exact h
        · obtain ⟨q0, q1, q2, q3⟩ := blkE_cells h.b2
          refine wpOp_of_list rfl ?_
          simp only [smAct, hg2, hg3, hg4, hg5]
          go_wp2_with fail
          change (listed.setIfInBounds 1 true).size = 4 ∧ _
          refine ⟨by simp [hsz], upd f 1 (.agg #[.int .i64 uk, .int .i64 (wrap64 (un + 1)), .string us, .slice uA ul uc]), ?_, fun e => ?_, fun _ => rfl, ?_⟩
          · simp only [smAct, upd, hg2, hg3, hg4, hg5]; rfl
          · rcases got_set e with e | e
            · exact hf0 e
            · cases e
          · rw [getD_set_same (by decide), getD_set_same (by decide)]; exact h
        · have g0 : got listed 0 := haft ⟨0, .data⟩ (by simp) rfl
          have e0 := hf0 g0
          rw [ngot_false hng] at h
          have hbx : Blk W w.heap.size 25 zero4 := h.bx
          have x0 : W.cell? ⟨w.heap.size, 0, none⟩ = some (.int .i64 0) := hbx.cell 0
          have x1 : W.cell? ⟨w.heap.size, 1, none⟩ = some (.int .i64 0) := hbx.cell 1
          have x2 : W.cell? ⟨w.heap.size, 2, none⟩ = some (.string ⟨#[]⟩) := hbx.cell 2
          have x3 : W.cell? ⟨w.heap.size, 3, none⟩ = some (.slice none 0 0) := hbx.cell 3
          have z0 := hbx.frozen 0
          have z1 := hbx.frozen 1
          have z2 := hbx.frozen 2
          have z3 := hbx.frozen 3
          refine wpOp_of_list rfl ?_
          simp only [smAct, hg2, hg3, hg4, hg5, e0]
          go_wp2_with fail
          change (listed.setIfInBounds 2 true).size = 4 ∧ _
          refine ⟨by simp [hsz], f, ?_, fun e => ?_, fun e => ?_, ?_⟩
          · simp only [smAct, hg2, hg3, hg4, hg5, e0]
          · exact e0
          · rcases got_set e with e | e
            · exact hf1 e
            · cases e
          · rw [got_set_self (by omega), getD_set_same (by decide)]; exact h.put1
        · have g1 : got listed 1 := haft ⟨1, .data⟩ (by simp) rfl
          have e1 := hf1 g1
          rw [ngot_false hng] at h
          have hbx : Blk W (w.heap.size + 1) 25 zero4 := h.by_
          have x0 : W.cell? ⟨w.heap.size + 1, 0, none⟩ = some (.int .i64 0) := hbx.cell 0
          have x1 : W.cell? ⟨w.heap.size + 1, 1, none⟩ = some (.int .i64 0) := hbx.cell 1
          have x2 : W.cell? ⟨w.heap.size + 1, 2, none⟩ = some (.string ⟨#[]⟩) := hbx.cell 2
          have x3 : W.cell? ⟨w.heap.size + 1, 3, none⟩ = some (.slice none 0 0) := hbx.cell 3
          have z0 := hbx.frozen 0
          have z1 := hbx.frozen 1
          have z2 := hbx.frozen 2
          have z3 := hbx.frozen 3
          refine wpOp_of_list rfl ?_
          simp only [smAct, hg2, hg3, hg4, hg5, e1]
          go_wp2_with fail
          change (listed.setIfInBounds 3 true).size = 4 ∧ _
          refine ⟨by simp [hsz], f, ?_, fun e => ?_, fun e => ?_, ?_⟩
          · simp only [smAct, hg2, hg3, hg4, hg5, e1]
          · rcases got_set e with e | e
            · exact hf0 e
            · cases e
          · exact e1
          · rw [got_set_self (by omega), getD_set_same (by decide)]; exact h.put2
      case hd =>
        rintro listed a wc ⟨hsz, f, rfl, hf0, hf1, h⟩ hr
        have hall := ready_all (listed := listed) (by kernel_rfl) (by rw [hsz]; rfl) hr
        rw [show listed.getD 2 false = true from hall 2 (by decide), show listed.getD 3 false = true from hall 3 (by decide)] at h
        have RES : DrSm w (.returned (.tuple #[.agg #[.int .i64 xk, .int .i64 xn, .string xs, .slice xA xl xc], .agg #[.int .i64 uk, .int .i64 (wrap64 (un + 1)), .string us, .slice uA ul uc]])) wc := ⟨xk, xn, xs, xA, xl, xc, x, uk, (wrap64 (un + 1)), us, uA, ul, uc, (.mk uk (wrap64 (un + 1)) us.data.toList u.kids), rfl, h.e1.ev, (h.e2.ev.bend uk (wrap64 (un + 1)) us HUS.out), hxw, HUW.out, h.be⟩
        have HRES := Lib.hid RES
        have HBX := Lib.hid h.bx
        have HBY := Lib.hid h.by_
        clear hr h hf0 hf1 hall RES
        simp only [smAct, hg2, hg3]
        go_wp2_with fail
        refine bodyPost_ret (v := .tuple #[.agg #[.int .i64 xk, .int .i64 xn, .string xs, .slice xA xl xc], .agg #[.int .i64 uk, .int .i64 (wrap64 (un + 1)), .string us, .slice uA ul uc]]) (drResS ?_ ?_ HBX.out HBY.out) rfl HRES.out
        · rfl
        · rfl
end Go.Proofs.YtfjmjlpobbjjdaaDoor
