/- The walk of FnExprSwap. -/
import Derived.Test.YtfjmjlpobbjjdaaDoorDrJ
import Derived.Test.YtfjmjlpobbjjdaaDoorEvU
import Derived.Test.YtfjmjlpobbjjdaaDoorBeM
namespace Ilp
theorem exTm_two {x y : Ex} {o : Bop} {u : Tm} (h : exTm (.mk 3 0 (opText o) [x, y]) = some u) : ∃ v1 v2, u = .two o v1 v2 ∧ exTm x = some v1 ∧ exTm y = some v2 ∧ (∀ o', exTm (.mk 3 0 (opText o') [x, y]) = some (.two o' v1 v2)) ∧ (∀ o', exTm (.mk 3 0 (opText o') [y, x]) = some (.two o' v2 v1)) := by
  have h5 := exTm_ofEx h
  have hs := exTm_size h
  rcases ofEx_cases h5 with ⟨hk, _⟩ | ⟨hk, _⟩ | ⟨_, _, x', y', o', v1, v2, hks, hx, hy, hu, ht⟩ | ⟨hk, _⟩
  · exact absurd hk (by simp [Ex.kind])
  · exact absurd hk (by simp [Ex.kind])
  · simp only [Ex.kids, List.cons.injEq, and_true] at hks
    obtain ⟨rfl, rfl⟩ := hks
    have ho : o = o' := by
      have e := congrArg opOf (show opText o = opText o' from ht)
      rw [opOf_text, opOf_text] at e
      exact Option.some.inj e
    subst ho hu
    simp only [Tm.size] at hs
    refine ⟨v1, v2, rfl, exTm_of (ofEx_mono hx (by omega)) (by omega), exTm_of (ofEx_mono hy (by omega)) (by omega), fun o' => ?_, fun o' => ?_⟩
    · refine exTm_of ?_ (by simp only [Tm.size]; omega)
      unfold ofEx; simp [opOf_text, hx, hy]
    · refine exTm_of ?_ (by simp only [Tm.size]; omega)
      unfold ofEx; simp [opOf_text, hx, hy]
  · exact absurd hk (by simp [Ex.kind])
theorem clamp_neg (x : Int) : clamp (-x) = -clamp x := by unfold clamp; omega
end Ilp
namespace Go.Proofs.YtfjmjlpobbjjdaaDoor
open Go.RowKit Ilp
set_option linter.unusedVariables false
set_option linter.unusedSimpArgs false

theorem ofE_parts (ns : List ByteArray) (xs : List Int) (t : Ex) : ofE (lstL ns) xs t = none ∨ ∃ u v, exTm t = some u ∧ ns.length = xs.length ∧ u.of (lstL ns) xs = some v ∧ ofE (lstL ns) xs t = some v ∧ -1000000 ≤ v ∧ v ≤ 1000000 := by
  cases hu : exTm t with
  | none => left; unfold ofE; rw [hu]
  | some u =>
    by_cases hl : ns.length = xs.length
    · rw [ofE_some hu hl]
      cases hv : u.of (lstL ns) xs with
      | none => exact .inl rfl
      | some v => exact .inr ⟨u, v, rfl, hl, hv, rfl, (Tm.of_le (exTm_valid hu) hv).1, (Tm.of_le (exTm_valid hu) hv).2⟩
    · exact .inl (ofE_len hl)
theorem blkNext {W W' : World} {X : Nat} {T : TypeId} {vs : List Value} (h : Blk W X T vs) (hb : Below W.heap.size W W') : Blk W' X T vs := h.below hb h.lt
theorem swap_all {ns : List ByteArray} {xs : List Int} {x y : Ex} {n : Int} (h : ofE (lstL ns) xs (.mk 3 0 [43] [x, y]) = some n) : ∃ a b, (-1000000 ≤ a ∧ a ≤ 1000000) ∧ (-1000000 ≤ b ∧ b ≤ 1000000) ∧ n = twoV .add a b ∧ ofE (lstL ns) xs x = some a ∧ ofE (lstL ns) xs y = some b ∧
    (∀ o, ofE (lstL ns) xs (.mk 3 0 (opText o) [x, y]) = some (twoV o a b)) ∧ (∀ o, ofE (lstL ns) xs (.mk 3 0 (opText o) [y, x]) = some (twoV o b a)) := by
  rcases ofE_parts ns xs (.mk 3 0 [43] [x, y]) with h0 | ⟨u, v, hu, hl, hv, he, _⟩
  · rw [h0] at h; cases h
  · obtain ⟨v1, v2, rfl, hx, hy, h1, h2⟩ := exTm_two (o := .add) hu
    rw [he] at h
    injection h with h
    subst h
    rw [of_two] at hv
    split at hv
    · rename_i a b ea eb
      injection hv with hv
      refine ⟨a, b, Tm.of_le (exTm_valid hx) ea, Tm.of_le (exTm_valid hy) eb, hv.symm, by rw [ofE_some hx hl]; exact ea, by rw [ofE_some hy hl]; exact eb, fun o => ?_, fun o => ?_⟩
      · rw [ofE_some (h1 o) hl, of_two, ea, eb]
      · rw [ofE_some (h2 o) hl, of_two, ea, eb]
    · cases hv
theorem isEV_two {b : Nat} {W : World} {T : TypeId} {v0 v1 v2 v3 u0 u1 u2 u3 : Value} {x y : Ex} (hb : Blk W b T [v0, v1, v2, v3, u0, u1, u2, u3]) (hx : IsEV W [v0, v1, v2, v3] x) (hy : IsEV W [u0, u1, u2, u3] y) (k n : Int) (s : ByteArray) (hs : s.size ≤ maxLen) :
    IsEV W [.int .i64 k, .int .i64 n, .string s, .slice (some ⟨b, 0, none⟩) 2 2] (.mk k n s.data.toList [x, y]) := by
  refine isEV_made (l := 2) (c := 2) (dss := [[v0, v1, v2, v3], [u0, u1, u2, u3]]) ((EVs.nil W).cons rfl hy |>.cons rfl hx) ?_ rfl (Nat.le_refl _) (by unfold maxLen; omega) k n s hs
  simpa using hb.row

/-- Two in their boxes, the sum of them either way round. -/
structure SwS (Wb : World) (y11 y12 x11 x12 : Nat) (a0 a1 a2 a3 b0 b1 b2 b3 : Value) (g1 g2 : ByteArray) (W : World) : Prop where
  bb : Below Wb.heap.size Wb W
  c11 : Blk W y11 25 [a0, a1, a2, a3, b0, b1, b2, b3]
  c12 : Blk W y12 25 [b0, b1, b2, b3, a0, a1, a2, a3]
  e11 : Blk W x11 25 [.int .i64 3, .int .i64 0, .string g1, .slice (some ⟨y11, 0, none⟩) 2 2]
  e12 : Blk W x12 25 [.int .i64 3, .int .i64 0, .string g2, .slice (some ⟨y12, 0, none⟩) 2 2]
  l11 : Wb.heap.size ≤ x11
  l12 : Wb.heap.size ≤ x12
  ne : x11 ≠ x12 ∧ x11 ≠ y11 ∧ x11 ≠ y12 ∧ x12 ≠ y11 ∧ x12 ≠ y12
section
variable {Wb : World} {y11 y12 x11 x12 : Nat} {a0 a1 a2 a3 b0 b1 b2 b3 : Value} {g1 g2 : ByteArray} {W W' : World}
theorem SwS.next (h : SwS Wb y11 y12 x11 x12 a0 a1 a2 a3 b0 b1 b2 b3 g1 g2 W) (hb : Below W.heap.size W W') : SwS Wb y11 y12 x11 x12 a0 a1 a2 a3 b0 b1 b2 b3 g1 g2 W' :=
  ⟨h.bb.trans (hb.mono h.bb.size), blkNext h.c11 hb, blkNext h.c12 hb, blkNext h.e11 hb, blkNext h.e12 hb, h.l11, h.l12, h.ne⟩
theorem SwS.set1 (h : SwS Wb y11 y12 x11 x12 a0 a1 a2 a3 b0 b1 b2 b3 g1 g2 W) (g : ByteArray) : SwS Wb y11 y12 x11 x12 a0 a1 a2 a3 b0 b1 b2 b3 g g2 (W.setCell ⟨x11, 2, none⟩ (.string g)) := by
  obtain ⟨n1, n2, n3, n4, n5⟩ := h.ne
  exact ⟨h.bb.setCell h.l11 _, h.c11.far (fun e => n2 e.symm) _, h.c12.far (fun e => n3 e.symm) _, h.e11.put 2 _, h.e12.far (fun e => n1 e.symm) _, h.l11, h.l12, h.ne⟩
theorem SwS.set2 (h : SwS Wb y11 y12 x11 x12 a0 a1 a2 a3 b0 b1 b2 b3 g1 g2 W) (g : ByteArray) : SwS Wb y11 y12 x11 x12 a0 a1 a2 a3 b0 b1 b2 b3 g1 g (W.setCell ⟨x12, 2, none⟩ (.string g)) := by
  obtain ⟨n1, n2, n3, n4, n5⟩ := h.ne
  exact ⟨h.bb.setCell h.l12 _, h.c11.far (fun e => n4 e.symm) _, h.c12.far (fun e => n5 e.symm) _, h.e11.far (fun e => n1 e) _, h.e12.put 2 _, h.l11, h.l12, h.ne⟩
end

set_option maxHeartbeats 16000000 in
set_option maxRecDepth 20000 in
theorem law_FnExprSwap (a : Option Addr) (n c : Nat) (z : List Int) (a' : Option Addr) (n' c' : Nat) (z' : List Int) (w : World) (hsh : w.ShapedOpen Tryd.prog) (hT : Tabs w) (hz : IsRow .u8 w a n c z) (hz' : IsRow .u8 w a' n' c' z') :
    Calls Tryd.prog 10 #[.slice a n c, .slice a' n' c'] w fun e w' => e = .returned (.bool true) ∧ Below w.heap.size w w' := by
  have HZ := Lib.hid hz
  have HZ' := Lib.hid hz'
  have HT := Lib.hid hT
  have hn : (n : Int) ≤ 9223372036854775807 := hz.row.2.2.2.1
  have hn' : (n' : Int) ≤ 9223372036854775807 := hz'.row.2.2.2.1
  clear hz hz' hT hsh
  go_enter Tryd.func10, Tryd.ntmps10
  by_cases hbig : (1048576 : Int) < (n : Int)
  · have hbig2 : (n : Int) > 1048576 := hbig
    go_wp2_with fail
    go_ret
    exact ⟨rfl, Below.refl _ _⟩
  have hbig2 : ¬ (n : Int) > 1048576 := hbig
  by_cases hbig' : (1048576 : Int) < (n' : Int)
  · have hbig2' : (n' : Int) > 1048576 := hbig'
    go_wp2_with fail
    go_ret
    exact ⟨rfl, Below.refl _ _⟩
  have hbig2' : ¬ (n' : Int) > 1048576 := hbig'
  go_wp2_with fail
  refine (drawExprOf a n c z w HZ.out).mono ?_
  rintro e w1 ⟨ak, am, as_, aA, al, ac, ta, gn, gt, nn, mt, ns, xs, rfl, hev, hwa, _, hbn, hbt, ln, lt, hnn, hmt, hb1⟩
  have hal : Below w1.heap.size w1 (w1.alloc (.cells #[.int .i64 ak, .int .i64 am, .string as_, .slice aA al ac] 25)) := (Below.refl _ _).alloc (Nat.le_refl _) _
  have BA2 := Lib.hid (Blk.alloc_ w1 25 [.int .i64 ak, .int .i64 am, .string as_, .slice aA al ac])
  have VA2 := Lib.hid (hev.below hal)
  have RN2 := Lib.hid (((hbn.row).below hal).more hal.size)
  have RT2 := Lib.hid (((hbt.row).below hal).more hal.size)
  have HB2 : Hid (Below w.heap.size w (w1.alloc (.cells #[.int .i64 ak, .int .i64 am, .string as_, .slice aA al ac] 25))) := hb1.trans (hal.mono hb1.size)
  have LN := Lib.hid ln
  have LT := Lib.hid lt
  have WA := Lib.hid hwa
  have hnn2 : (nn : Int) ≤ 1048576 := by omega
  have hmt2 : (mt : Int) ≤ 1048576 := by omega
  have HZ2 := Lib.hid (isRow_below HZ'.out HB2.out)
  clear hev hwa hbn hbt ln lt hnn hmt hb1 hal hbig hbig' hbig2 hbig2' HZ HZ'
  go_upto_region 4 with (fail)
  change Hid (Blk (w1.alloc (.cells #[.int .i64 ak, .int .i64 am, .string as_, .slice aA al ac] 25)) w1.heap.size 25 [.int .i64 ak, .int .i64 am, .string as_, .slice aA al ac]) at BA2
  generalize w1.alloc (.cells #[.int .i64 ak, .int .i64 am, .string as_, .slice aA al ac] 25) = w2 at *
  generalize w1.heap.size = x5 at *
  go_wp2_with fail
  refine (drawExprOf a' n' c' z' w2 HZ2.out).mono ?_
  rintro e w3 ⟨bk, bm, bs, bA, bl, bc, tb, gn', gt', nn', mt', ns', xs', rfl, hev, hwb, _, _, _, _, _, _, _, hb3⟩
  have BA3 := Lib.hid (blkNext BA2.out hb3)
  have VA3 := Lib.hid (VA2.out.below hb3)
  have RN3 := Lib.hid ((RN2.out.below hb3).more hb3.size)
  have RT3 := Lib.hid ((RT2.out.below hb3).more hb3.size)
  have HB3 : Hid (Below w.heap.size w w3) := HB2.out.trans (hb3.mono HB2.out.size)
  have hal : Below w3.heap.size w3 (w3.alloc (.cells #[.int .i64 bk, .int .i64 bm, .string bs, .slice bA bl bc] 25)) := (Below.refl _ _).alloc (Nat.le_refl _) _
  have BB4 := Lib.hid (Blk.alloc_ w3 25 [.int .i64 bk, .int .i64 bm, .string bs, .slice bA bl bc])
  have BA4 := Lib.hid (blkNext BA3.out hal)
  have VA := Lib.hid (VA3.out.below hal)
  have VB := Lib.hid (hev.below hal)
  have RN := Lib.hid ((RN3.out.below hal).more hal.size)
  have RT := Lib.hid ((RT3.out.below hal).more hal.size)
  have HB4 : Hid (Below w.heap.size w (w3.alloc (.cells #[.int .i64 bk, .int .i64 bm, .string bs, .slice bA bl bc] 25))) := HB3.out.trans (hal.mono HB3.out.size)
  have WB := Lib.hid hwb
  clear hev hwb hb3 hal BA2 VA2 RN2 RT2 HB2 BA3 VA3 RN3 RT3 HB3 HZ2
  go_upto_region 5 with (fail)
  change Hid (Blk (w3.alloc (.cells #[.int .i64 bk, .int .i64 bm, .string bs, .slice bA bl bc] 25)) w3.heap.size 25 [.int .i64 bk, .int .i64 bm, .string bs, .slice bA bl bc]) at BB4
  generalize w3.alloc (.cells #[.int .i64 bk, .int .i64 bm, .string bs, .slice bA bl bc] 25) = w4 at *
  generalize w3.heap.size = x8 at *
  obtain ⟨a0, a1, a2, a3⟩ := blkE_cells BA4.out
  obtain ⟨b0, b1, b2, b3⟩ := blkE_cells BB4.out
  have hla := BA4.out.lt
  have hlb := BB4.out.lt
  go_upto_region 6 with (fail)
  have hal5 : Below w4.heap.size w4 ((w4.alloc (.cells #[.int .i64 ak, .int .i64 am, .string as_, .slice aA al ac, .int .i64 bk, .int .i64 bm, .string bs, .slice bA bl bc] 25)).alloc (.cells #[.int .i64 3, .int .i64 0, .string ⟨#[43]⟩, .slice (some ⟨w4.heap.size, 0, none⟩) 2 2] 25)) := ((Below.refl _ _).alloc (Nat.le_refl _) _).alloc (by simp) _
  have C5 : Hid (Blk ((w4.alloc (.cells #[.int .i64 ak, .int .i64 am, .string as_, .slice aA al ac, .int .i64 bk, .int .i64 bm, .string bs, .slice bA bl bc] 25)).alloc (.cells #[.int .i64 3, .int .i64 0, .string ⟨#[43]⟩, .slice (some ⟨w4.heap.size, 0, none⟩) 2 2] 25)) w4.heap.size 25 [.int .i64 ak, .int .i64 am, .string as_, .slice aA al ac, .int .i64 bk, .int .i64 bm, .string bs, .slice bA bl bc]) := (Blk.alloc_ w4 25 [.int .i64 ak, .int .i64 am, .string as_, .slice aA al ac, .int .i64 bk, .int .i64 bm, .string bs, .slice bA bl bc]).alloc _
  have E5 : Hid (Blk ((w4.alloc (.cells #[.int .i64 ak, .int .i64 am, .string as_, .slice aA al ac, .int .i64 bk, .int .i64 bm, .string bs, .slice bA bl bc] 25)).alloc (.cells #[.int .i64 3, .int .i64 0, .string ⟨#[43]⟩, .slice (some ⟨w4.heap.size, 0, none⟩) 2 2] 25)) (w4.heap.size + 1) 25 [.int .i64 3, .int .i64 0, .string ⟨#[43]⟩, .slice (some ⟨w4.heap.size, 0, none⟩) 2 2]) := by
    have := Blk.alloc_ (w4.alloc (.cells #[.int .i64 ak, .int .i64 am, .string as_, .slice aA al ac, .int .i64 bk, .int .i64 bm, .string bs, .slice bA bl bc] 25)) 25 [.int .i64 3, .int .i64 0, .string ⟨#[43]⟩, .slice (some ⟨w4.heap.size, 0, none⟩) 2 2]
    rw [World.size_alloc] at this; exact this
  have HA5 := Lib.hid hal5
  have hz5 : ((w4.alloc (.cells #[.int .i64 ak, .int .i64 am, .string as_, .slice aA al ac, .int .i64 bk, .int .i64 bm, .string bs, .slice bA bl bc] 25)).alloc (.cells #[.int .i64 3, .int .i64 0, .string ⟨#[43]⟩, .slice (some ⟨w4.heap.size, 0, none⟩) 2 2] 25)).heap.size = w4.heap.size + 2 := by simp [World.size_alloc]
  have HZ5 := Lib.hid hz5
  clear hz5
  clear hal5 a0 a1 a2 a3 b0 b1 b2 b3
  generalize ((w4.alloc (.cells #[.int .i64 ak, .int .i64 am, .string as_, .slice aA al ac, .int .i64 bk, .int .i64 bm, .string bs, .slice bA bl bc] 25)).alloc (.cells #[.int .i64 3, .int .i64 0, .string ⟨#[43]⟩, .slice (some ⟨w4.heap.size, 0, none⟩) 2 2] 25)) = w5 at *
  obtain ⟨a0, a1, a2, a3⟩ := blkE_cells (blkNext BA4.out HA5.out)
  obtain ⟨b0, b1, b2, b3⟩ := blkE_cells (blkNext BB4.out HA5.out)
  go_upto_region 7 with (fail)
  have hz5 := HZ5.out
  have hal6 : Below w5.heap.size w5 ((w5.alloc (.cells #[.int .i64 bk, .int .i64 bm, .string bs, .slice bA bl bc, .int .i64 ak, .int .i64 am, .string as_, .slice aA al ac] 25)).alloc (.cells #[.int .i64 3, .int .i64 0, .string ⟨#[43]⟩, .slice (some ⟨w5.heap.size, 0, none⟩) 2 2] 25)) := ((Below.refl _ _).alloc (Nat.le_refl _) _).alloc (by simp) _
  have E6 : Blk ((w5.alloc (.cells #[.int .i64 bk, .int .i64 bm, .string bs, .slice bA bl bc, .int .i64 ak, .int .i64 am, .string as_, .slice aA al ac] 25)).alloc (.cells #[.int .i64 3, .int .i64 0, .string ⟨#[43]⟩, .slice (some ⟨w5.heap.size, 0, none⟩) 2 2] 25)) (w5.heap.size + 1) 25 [.int .i64 3, .int .i64 0, .string ⟨#[43]⟩, .slice (some ⟨w5.heap.size, 0, none⟩) 2 2] := by
    have := Blk.alloc_ (w5.alloc (.cells #[.int .i64 bk, .int .i64 bm, .string bs, .slice bA bl bc, .int .i64 ak, .int .i64 am, .string as_, .slice aA al ac] 25)) 25 [.int .i64 3, .int .i64 0, .string ⟨#[43]⟩, .slice (some ⟨w5.heap.size, 0, none⟩) 2 2]
    rw [World.size_alloc] at this; exact this
  have S6 : Hid (SwS w4 w4.heap.size w5.heap.size (w4.heap.size + 1) (w5.heap.size + 1) (.int .i64 ak) (.int .i64 am) (.string as_) (.slice aA al ac) (.int .i64 bk) (.int .i64 bm) (.string bs) (.slice bA bl bc) ⟨#[43]⟩ ⟨#[43]⟩ ((w5.alloc (.cells #[.int .i64 bk, .int .i64 bm, .string bs, .slice bA bl bc, .int .i64 ak, .int .i64 am, .string as_, .slice aA al ac] 25)).alloc (.cells #[.int .i64 3, .int .i64 0, .string ⟨#[43]⟩, .slice (some ⟨w5.heap.size, 0, none⟩) 2 2] 25))) :=
    ⟨HA5.out.trans (hal6.mono (by omega)), blkNext C5.out hal6, (Blk.alloc_ w5 25 [.int .i64 bk, .int .i64 bm, .string bs, .slice bA bl bc, .int .i64 ak, .int .i64 am, .string as_, .slice aA al ac]).alloc _, blkNext E5.out hal6, E6, by omega, by omega, ⟨by omega, by omega, by omega, by omega, by omega⟩⟩
  clear hal6 E6 a0 a1 a2 a3 b0 b1 b2 b3 HA5 C5 E5
  generalize ((w5.alloc (.cells #[.int .i64 bk, .int .i64 bm, .string bs, .slice bA bl bc, .int .i64 ak, .int .i64 am, .string as_, .slice aA al ac] 25)).alloc (.cells #[.int .i64 3, .int .i64 0, .string ⟨#[43]⟩, .slice (some ⟨w5.heap.size, 0, none⟩) 2 2] 25)) = w6 at *
  generalize w5.heap.size = y12 at *
  have CALL : Hid (∀ (k m : Int) (s : ByteArray) (A : Option Addr) (l cc : Nat) (t : Ex) (W : World), Below w4.heap.size w4 W → IsEV W [.int .i64 k, .int .i64 m, .string s, .slice A l cc] t → wgt t ≤ 1048576 →
      Calls Tryd.prog 15 #[.agg #[.int .i64 k, .int .i64 m, .string s, .slice A l cc], .slice (some ⟨gn, 0, none⟩) nn nn, .slice (some ⟨gt, 0, none⟩) mt mt] W (OfR (ofE (lstL ns) xs t) W)) :=
    fun k m s A l cc t W hb he hw => implExprOf k m s A l cc t _ nn nn ns _ mt mt xs W he hw ((RN.out.below hb).more hb.size) ((RT.out.below hb).more hb.size) LN LT hnn2 hmt2 (HT.out.keep (HB4.out.trans (hb.mono HB4.out.size)))
  have CALS : Hid (∀ (k m : Int) (s : ByteArray) (A : Option Addr) (l cc : Nat) (t : Ex) (W : World), Below w4.heap.size w4 W → IsEV W [.int .i64 k, .int .i64 m, .string s, .slice A l cc] t → wgt t ≤ 1048576 →
      Calls Tryd.prog 16 #[.agg #[.int .i64 k, .int .i64 m, .string s, .slice A l cc], .slice (some ⟨gn, 0, none⟩) nn nn, .slice (some ⟨gt, 0, none⟩) mt mt] W (OfR (ofE (lstL ns) xs t) W)) :=
    fun k m s A l cc t W hb he hw => specExprOf k m s A l cc t _ nn nn ns _ mt mt xs W he hw ((RN.out.below hb).more hb.size) ((RT.out.below hb).more hb.size) LN LT hnn2 hmt2
  have WX : Hid (∀ b : UInt8, wgt (.mk 3 0 [b] [ta, tb]) ≤ 1048576) := fun b => by have := WA.out; have := WB.out; simp [wgt, wgts]; omega
  have WY : Hid (∀ b : UInt8, wgt (.mk 3 0 [b] [tb, ta]) ≤ 1048576) := fun b => by have := WA.out; have := WB.out; simp [wgt, wgts]; omega
  clear hla hlb hz5
  cases hof : ofE (lstL ns) xs (.mk 3 0 [43] [ta, tb]) with
  | none =>
    have HOF := Lib.hid hof
    clear hof
    obtain ⟨z0, z1, z2, z3⟩ := blkE_cells S6.out.e11
    go_wp2_with fail
    refine (CALL.out 3 0 ⟨#[43]⟩ (some ⟨w4.heap.size, 0, none⟩) 2 2 (.mk 3 0 [43] [ta, tb]) w6 S6.out.bb (isEV_two S6.out.c11 (VA.out.below S6.out.bb) (VB.out.below S6.out.bb) 3 0 ⟨#[43]⟩ (by unfold maxLen; decide)) (WX.out _)).mono ?_
    rintro e w7 ⟨he, hb⟩
    rw [HOF.out] at he
    change e = .returned (.tuple #[.int .i64 0, .bool false]) at he
    subst he
    have S7 := Lib.hid (S6.out.next hb)
    clear hb z0 z1 z2 z3 S6
    obtain ⟨z0, z1, z2, z3⟩ := blkE_cells S7.out.e11
    go_wp2_with fail
    refine (CALS.out 3 0 ⟨#[43]⟩ (some ⟨w4.heap.size, 0, none⟩) 2 2 (.mk 3 0 [43] [ta, tb]) w7 S7.out.bb (isEV_two S7.out.c11 (VA.out.below S7.out.bb) (VB.out.below S7.out.bb) 3 0 ⟨#[43]⟩ (by unfold maxLen; decide)) (WX.out _)).mono ?_
    rintro e w8 ⟨he, hb⟩
    rw [HOF.out] at he
    change e = .returned (.tuple #[.int .i64 0, .bool false]) at he
    subst he
    have S8 := Lib.hid (S7.out.next hb)
    clear hb z0 z1 z2 z3 S7
    have HBf : Hid (Below w.heap.size w w8) := HB4.out.trans (S8.out.bb.mono HB4.out.size)
    go_wp2_with fail
    go_ret
    exact ⟨rfl, HBf.out⟩
  | some nv =>
    obtain ⟨va, vb, ba, bb, hnv, hea, heb, hx, hy⟩ := swap_all hof
    have HX := Lib.hid hx
    have HY := Lib.hid hy
    have HEA := Lib.hid hea
    have HEB := Lib.hid heb
    have BDA := Lib.hid ba
    have BDB := Lib.hid bb
    subst hnv
    clear hof hx hy hea heb ba bb
    have N1 : Hid (twoV .add vb va = twoV .add va vb) := by unfold Hid twoV; rw [Int.add_comm]
    have N2 : Hid (twoV .mul vb va = twoV .mul va vb) := by unfold Hid twoV; rw [Int.mul_comm]
    have N3 : Hid (twoV .sub vb va = -twoV .sub va vb) := by unfold Hid twoV; rw [show vb - va = -(va - vb) by omega, clamp_neg]
    have hnn0 : (twoV .add va vb != twoV .add va vb) = false := by simp
    obtain ⟨z0, z1, z2, z3⟩ := blkE_cells S6.out.e11
    go_wp2_with fail
    refine (CALL.out 3 0 ⟨#[43]⟩ (some ⟨w4.heap.size, 0, none⟩) 2 2 (.mk 3 0 [43] [ta, tb]) w6 S6.out.bb (isEV_two S6.out.c11 (VA.out.below S6.out.bb) (VB.out.below S6.out.bb) 3 0 ⟨#[43]⟩ (by unfold maxLen; decide)) (WX.out _)).mono ?_
    rintro e w7 ⟨he, hb⟩
    rw [show ofE (lstL ns) xs (.mk 3 0 [43] [ta, tb]) = some (twoV .add va vb) from HX.out .add] at he
    change e = .returned (.tuple #[.int .i64 (twoV .add va vb), .bool true]) at he
    subst he
    have S7 := Lib.hid (S6.out.next hb)
    clear hb z0 z1 z2 z3 S6
    obtain ⟨z0, z1, z2, z3⟩ := blkE_cells S7.out.e11
    go_wp2_with fail
    refine (CALS.out 3 0 ⟨#[43]⟩ (some ⟨w4.heap.size, 0, none⟩) 2 2 (.mk 3 0 [43] [ta, tb]) w7 S7.out.bb (isEV_two S7.out.c11 (VA.out.below S7.out.bb) (VB.out.below S7.out.bb) 3 0 ⟨#[43]⟩ (by unfold maxLen; decide)) (WX.out _)).mono ?_
    rintro e w8 ⟨he, hb⟩
    rw [show ofE (lstL ns) xs (.mk 3 0 [43] [ta, tb]) = some (twoV .add va vb) from HX.out .add] at he
    change e = .returned (.tuple #[.int .i64 (twoV .add va vb), .bool true]) at he
    subst he
    have S8 := Lib.hid (S7.out.next hb)
    clear hb z0 z1 z2 z3 S7
    obtain ⟨z0, z1, z2, z3⟩ := blkE_cells S8.out.e12
    go_wp2_with fail
    refine (CALL.out 3 0 ⟨#[43]⟩ (some ⟨y12, 0, none⟩) 2 2 (.mk 3 0 [43] [tb, ta]) w8 S8.out.bb (isEV_two S8.out.c12 (VB.out.below S8.out.bb) (VA.out.below S8.out.bb) 3 0 ⟨#[43]⟩ (by unfold maxLen; decide)) (WY.out _)).mono ?_
    rintro e w9 ⟨he, hb⟩
    rw [show ofE (lstL ns) xs (.mk 3 0 [43] [tb, ta]) = some (twoV .add vb va) from HY.out .add] at he
    rw [N1.out] at he
    change e = .returned (.tuple #[.int .i64 (twoV .add va vb), .bool true]) at he
    subst he
    have S9 := Lib.hid (S8.out.next hb)
    clear hb z0 z1 z2 z3 S8
    obtain ⟨z0, z1, z2, z3⟩ := blkE_cells S9.out.e11
    obtain ⟨q0, q1, q2, q3⟩ := blkE_cells S9.out.e12
    have y2 := S9.out.e11.frozen 2
    have u2 := S9.out.e12.frozen 2
    have nex := S9.out.ne.1
    have S10 := Lib.hid ((S9.out.set1 ⟨#[42]⟩).set2 ⟨#[42]⟩)
    go_upto_region 14 with (fail)
    clear z0 z1 z2 z3 q0 q1 q2 q3 y2 u2 nex S9
    generalize ((w9.setCell ⟨w4.heap.size + 1, 2, none⟩ (.string ⟨#[42]⟩)).setCell ⟨y12 + 1, 2, none⟩ (.string ⟨#[42]⟩)) = w10 at *
    obtain ⟨z0, z1, z2, z3⟩ := blkE_cells S10.out.e11
    go_wp2_with fail
    refine (CALL.out 3 0 ⟨#[42]⟩ (some ⟨w4.heap.size, 0, none⟩) 2 2 (.mk 3 0 [42] [ta, tb]) w10 S10.out.bb (isEV_two S10.out.c11 (VA.out.below S10.out.bb) (VB.out.below S10.out.bb) 3 0 ⟨#[42]⟩ (by unfold maxLen; decide)) (WX.out _)).mono ?_
    rintro e w11 ⟨he, hb⟩
    rw [show ofE (lstL ns) xs (.mk 3 0 [42] [ta, tb]) = some (twoV .mul va vb) from HX.out .mul] at he
    change e = .returned (.tuple #[.int .i64 (twoV .mul va vb), .bool true]) at he
    subst he
    have S11 := Lib.hid (S10.out.next hb)
    clear hb z0 z1 z2 z3 S10
    obtain ⟨z0, z1, z2, z3⟩ := blkE_cells S11.out.e12
    go_wp2_with fail
    refine (CALL.out 3 0 ⟨#[42]⟩ (some ⟨y12, 0, none⟩) 2 2 (.mk 3 0 [42] [tb, ta]) w11 S11.out.bb (isEV_two S11.out.c12 (VB.out.below S11.out.bb) (VA.out.below S11.out.bb) 3 0 ⟨#[42]⟩ (by unfold maxLen; decide)) (WY.out _)).mono ?_
    rintro e w12 ⟨he, hb⟩
    rw [show ofE (lstL ns) xs (.mk 3 0 [42] [tb, ta]) = some (twoV .mul vb va) from HY.out .mul] at he
    rw [N2.out] at he
    change e = .returned (.tuple #[.int .i64 (twoV .mul va vb), .bool true]) at he
    subst he
    have S12 := Lib.hid (S11.out.next hb)
    clear hb z0 z1 z2 z3 S11
    obtain ⟨z0, z1, z2, z3⟩ := blkE_cells S12.out.e11
    obtain ⟨q0, q1, q2, q3⟩ := blkE_cells S12.out.e12
    have y2 := S12.out.e11.frozen 2
    have u2 := S12.out.e12.frozen 2
    have nex := S12.out.ne.1
    have S13 := Lib.hid ((S12.out.set1 ⟨#[45]⟩).set2 ⟨#[45]⟩)
    go_upto_region 18 with (fail)
    clear z0 z1 z2 z3 q0 q1 q2 q3 y2 u2 nex S12
    generalize ((w12.setCell ⟨w4.heap.size + 1, 2, none⟩ (.string ⟨#[45]⟩)).setCell ⟨y12 + 1, 2, none⟩ (.string ⟨#[45]⟩)) = w13 at *
    obtain ⟨z0, z1, z2, z3⟩ := blkE_cells S13.out.e11
    go_wp2_with fail
    refine (CALL.out 3 0 ⟨#[45]⟩ (some ⟨w4.heap.size, 0, none⟩) 2 2 (.mk 3 0 [45] [ta, tb]) w13 S13.out.bb (isEV_two S13.out.c11 (VA.out.below S13.out.bb) (VB.out.below S13.out.bb) 3 0 ⟨#[45]⟩ (by unfold maxLen; decide)) (WX.out _)).mono ?_
    rintro e w14 ⟨he, hb⟩
    rw [show ofE (lstL ns) xs (.mk 3 0 [45] [ta, tb]) = some (twoV .sub va vb) from HX.out .sub] at he
    change e = .returned (.tuple #[.int .i64 (twoV .sub va vb), .bool true]) at he
    subst he
    have S14 := Lib.hid (S13.out.next hb)
    clear hb z0 z1 z2 z3 S13
    obtain ⟨z0, z1, z2, z3⟩ := blkE_cells S14.out.e12
    go_wp2_with fail
    refine (CALL.out 3 0 ⟨#[45]⟩ (some ⟨y12, 0, none⟩) 2 2 (.mk 3 0 [45] [tb, ta]) w14 S14.out.bb (isEV_two S14.out.c12 (VB.out.below S14.out.bb) (VA.out.below S14.out.bb) 3 0 ⟨#[45]⟩ (by unfold maxLen; decide)) (WY.out _)).mono ?_
    rintro e w15 ⟨he, hb⟩
    rw [show ofE (lstL ns) xs (.mk 3 0 [45] [tb, ta]) = some (twoV .sub vb va) from HY.out .sub] at he
    rw [N3.out] at he
    change e = .returned (.tuple #[.int .i64 (-twoV .sub va vb), .bool true]) at he
    subst he
    have S15 := Lib.hid (S14.out.next hb)
    clear hb z0 z1 z2 z3 S14
    obtain ⟨z0, z1, z2, z3⟩ := blkE_cells S15.out.e11
    obtain ⟨q0, q1, q2, q3⟩ := blkE_cells S15.out.e12
    have y2 := S15.out.e11.frozen 2
    have u2 := S15.out.e12.frozen 2
    have nex := S15.out.ne.1
    have S16 := Lib.hid ((S15.out.set1 ⟨#[60]⟩).set2 ⟨#[60]⟩)
    go_upto_region 22 with (fail)
    clear z0 z1 z2 z3 q0 q1 q2 q3 y2 u2 nex S15
    generalize ((w15.setCell ⟨w4.heap.size + 1, 2, none⟩ (.string ⟨#[60]⟩)).setCell ⟨y12 + 1, 2, none⟩ (.string ⟨#[60]⟩)) = w16 at *
    obtain ⟨z0, z1, z2, z3⟩ := blkE_cells S16.out.e11
    go_wp2_with fail
    refine (CALL.out 3 0 ⟨#[60]⟩ (some ⟨w4.heap.size, 0, none⟩) 2 2 (.mk 3 0 [60] [ta, tb]) w16 S16.out.bb (isEV_two S16.out.c11 (VA.out.below S16.out.bb) (VB.out.below S16.out.bb) 3 0 ⟨#[60]⟩ (by unfold maxLen; decide)) (WX.out _)).mono ?_
    rintro e w17 ⟨he, hb⟩
    rw [show ofE (lstL ns) xs (.mk 3 0 [60] [ta, tb]) = some (twoV .lt va vb) from HX.out .lt] at he
    change e = .returned (.tuple #[.int .i64 (twoV .lt va vb), .bool true]) at he
    subst he
    have S17 := Lib.hid (S16.out.next hb)
    clear hb z0 z1 z2 z3 S16
    obtain ⟨z0, z1, z2, z3⟩ := blkE_cells S17.out.e12
    go_wp2_with fail
    refine (CALL.out 3 0 ⟨#[60]⟩ (some ⟨y12, 0, none⟩) 2 2 (.mk 3 0 [60] [tb, ta]) w17 S17.out.bb (isEV_two S17.out.c12 (VB.out.below S17.out.bb) (VA.out.below S17.out.bb) 3 0 ⟨#[60]⟩ (by unfold maxLen; decide)) (WY.out _)).mono ?_
    rintro e w18 ⟨he, hb⟩
    rw [show ofE (lstL ns) xs (.mk 3 0 [60] [tb, ta]) = some (twoV .lt vb va) from HY.out .lt] at he
    change e = .returned (.tuple #[.int .i64 (twoV .lt vb va), .bool true]) at he
    subst he
    have S18 := Lib.hid (S17.out.next hb)
    clear hb z0 z1 z2 z3 S17
    obtain ⟨z0, z1, z2, z3⟩ := blkE_cells (blkNext BA4.out S18.out.bb)
    go_wp2_with fail
    refine (CALL.out _ _ _ _ _ _ ta w18 S18.out.bb (VA.out.below S18.out.bb) (by have := WA.out; omega)).mono ?_
    rintro e w19 ⟨he, hb⟩
    rw [HEA.out] at he
    change e = .returned (.tuple #[.int .i64 va, .bool true]) at he
    subst he
    have S19 := Lib.hid (S18.out.next hb)
    clear hb z0 z1 z2 z3 S18
    obtain ⟨z0, z1, z2, z3⟩ := blkE_cells (blkNext BB4.out S19.out.bb)
    go_wp2_with fail
    refine (CALL.out _ _ _ _ _ _ tb w19 S19.out.bb (VB.out.below S19.out.bb) (by have := WB.out; omega)).mono ?_
    rintro e w20 ⟨he, hb⟩
    rw [HEB.out] at he
    change e = .returned (.tuple #[.int .i64 vb, .bool true]) at he
    subst he
    have HBf : Hid (Below w.heap.size w w20) := HB4.out.trans ((S19.out.next hb).bb.mono HB4.out.size)
    clear hb z0 z1 z2 z3 S19
    have ba := BDA.out
    have bb := BDB.out
    obtain ⟨sv, hsv⟩ : ∃ sv, sv = twoV .sub va vb := ⟨_, rfl⟩
    have hs1 : sv = clamp (va - vb) := hsv
    have hs2 := clamp_le (va - vb)
    rw [← hs1] at hs2
    obtain ⟨hs2, hs3⟩ := hs2
    have hcl : (va < vb ∧ sv < 0) ∨ (va = vb ∧ sv = 0) ∨ (vb < va ∧ 0 < sv) := by rw [hs1]; unfold clamp; omega
    rw [← hsv]
    clear hsv hs1 hnn0
    rcases hcl with ⟨h1, h2⟩ | ⟨h1, h2⟩ | ⟨h1, h2⟩
    · have e1 : twoV .lt va vb = 1 := by unfold twoV; simp [h1]
      have e2 : twoV .lt vb va = 0 := by unfold twoV; simp; omega
      rw [e1, e2]
      have hne : (va != vb) = true := by rw [bne_iff_ne]; omega
      clear h1 ba bb e1 e2
      go_wp2_with fail
      go_ret
      exact ⟨by simp <;> omega, HBf.out⟩
    · have e1 : twoV .lt va vb = 0 := by unfold twoV; simp; omega
      have e2 : twoV .lt vb va = 0 := by unfold twoV; simp; omega
      rw [e1, e2]
      subst h1 h2
      clear ba bb e1 e2
      go_wp2_with fail
      go_ret
      exact ⟨by simp, HBf.out⟩
    · have e1 : twoV .lt va vb = 0 := by unfold twoV; simp; omega
      have e2 : twoV .lt vb va = 1 := by unfold twoV; simp [h1]
      rw [e1, e2]
      have hne : (va != vb) = true := by rw [bne_iff_ne]; omega
      have h3 : ¬ sv < 0 := by omega
      clear h1 ba bb e1 e2
      go_wp2_with fail
      go_ret
      exact ⟨by simp <;> omega, HBf.out⟩
end Go.Proofs.YtfjmjlpobbjjdaaDoor
