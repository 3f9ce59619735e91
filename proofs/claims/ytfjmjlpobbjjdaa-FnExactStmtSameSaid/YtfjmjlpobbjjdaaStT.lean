/- The walks of FnExactStmtSame. -/
import Derived.Test.YtfjmjlpobbjjdaaStV
import Derived.Deep.Cut
namespace Go.Proofs.Ytfjmjlpobbjjdaa
open Go.RowKit Ilp
set_option linter.unusedVariables false

/-- The same, in blocks from B on. -/
def IsENew (B : Nat) (W : World) (cs : List Value) (t : Ex) : Prop := ∃ d, ExAt W (Span B W) d cs t
theorem IsENew.low {B : Nat} {W : World} {cs : List Value} {t : Ex} (h : IsENew B W cs t) : IsEV W cs t := by
  obtain ⟨d, h⟩ := h; exact ⟨d, h.keep (fun _ _ => rfl) (fun _ hb => hb.2)⟩
theorem IsENew.set {B : Nat} {W : World} {cs : List Value} {t : Ex} {p : Addr} (h : IsENew B W cs t) (hp : p.block < B) (v : Value) : IsENew B (W.setCell p v) cs t := by
  obtain ⟨d, h⟩ := h
  exact ⟨d, h.keep (fun q hq => World.cell?_of_block (Below.heap_setCell _ _ _ _ (by have := hq.1; omega))) (fun b hb => ⟨hb.1, by simp [World.setCell]; exact hb.2⟩)⟩
theorem IsENew.below {B : Nat} {W W' : World} {cs : List Value} {t : Ex} (h : IsENew B W cs t) (_hB : B ≤ W.heap.size) (hb : Below W.heap.size W W') : IsENew B W' cs t := by
  obtain ⟨d, h⟩ := h
  exact ⟨d, h.keep (fun q hq => hb.cell hq.2) (fun b hb' => ⟨hb'.1, Nat.lt_of_lt_of_le hb'.2 hb.size⟩)⟩
theorem toExprN (k n : Int) (g : ByteArray) (A : Option Addr) (l c : Nat) (t : ExprT) (W : World) (h : IsEV W [.int .i64 k, .int .i64 n, .string g, .slice A l c] t) (hw : wtExpr t ≤ 1048576) :
    Calls Try.prog 8 #[.agg #[.int .i64 k, .int .i64 n, .string g, .slice A l c]] W fun e w' => ∃ (A' : Option Addr) (c' : Nat), e = .returned (.agg #[.int .i64 k, .int .i64 n, .string g, .slice A' l c']) ∧ IsENew W.heap.size w' [.int .i64 k, .int .i64 n, .string g, .slice A' l c'] t ∧ Below W.heap.size W w' := by
  obtain ⟨rfl, rfl, rfl, rfl, h2, h3, h4, d, hk⟩ := h.parts
  have e := wgt_eq t
  have h5 := wgts_len t.kids
  have h6 : wgt t ≤ 1048576 := hw
  refine ((toExpr_all d).1 t A c W hk h4 (by omega)).mono ?_
  rintro e w' ⟨A', rfl, hk', _, hb⟩
  exact ⟨A', t.kids.length, rfl, ⟨d + 1, A', t.kids.length, rfl, Nat.le_refl _, by unfold maxLen; omega, h4, hk'⟩, hb⟩
set_option maxHeartbeats 8000000 in
set_option maxRecDepth 20000 in
theorem toStmtV (ai : Int) (ah am : ByteArray) (aek aen : Int) (aeg : ByteArray) (aeA : Option Addr) (ael aec : Nat) (afk afn : Int) (afg : ByteArray) (afA : Option Addr) (afl afc : Nat) (t : StmtT) (W : World) (h : IsSV W [.int .i64 ai, .string ah, .string am, .int .i64 aek, .int .i64 aen, .string aeg, .slice aeA ael aec, .int .i64 afk, .int .i64 afn, .string afg, .slice afA afl afc] t) (hw : wtStmt t ≤ 1048576) :
    Calls Try.prog 18 #[.agg #[.int .i64 ai, .string ah, .string am, .int .i64 aek, .int .i64 aen, .string aeg, .slice aeA ael aec, .int .i64 afk, .int .i64 afn, .string afg, .slice afA afl afc]] W fun e w' => ∃ (peA : Option Addr) (pec : Nat) (pfA : Option Addr) (pfc : Nat), e = .returned (.agg #[.int .i64 ai, .string ah, .string am, .int .i64 aek, .int .i64 aen, .string aeg, .slice peA ael pec, .int .i64 afk, .int .i64 afn, .string afg, .slice pfA afl pfc]) ∧ IsSV w' [.int .i64 ai, .string ah, .string am, .int .i64 aek, .int .i64 aen, .string aeg, .slice peA ael pec, .int .i64 afk, .int .i64 afn, .string afg, .slice pfA afl pfc] t ∧ Below W.heap.size W w' := by
  obtain ⟨qi, qh, qm, he, hf, hls⟩ := h.parts
  have hwe : wtExpr t.e ≤ 1048576 := by unfold wtStmt at hw; omega
  have hwf : wtExpr t.f ≤ 1048576 := by unfold wtStmt at hw; omega
  have HWE := Lib.hid hwe
  have HWF := Lib.hid hwf
  have HE := Lib.hid he
  have HF := Lib.hid hf
  have MK : Hid (∀ (W' : World) (peA : Option Addr) (pec : Nat) (pfA : Option Addr) (pfc : Nat), IsEV W' [.int .i64 aek, .int .i64 aen, .string aeg, .slice peA ael pec] t.e → IsEV W' [.int .i64 afk, .int .i64 afn, .string afg, .slice pfA afl pfc] t.f → IsSV W' [.int .i64 ai, .string ah, .string am, .int .i64 aek, .int .i64 aen, .string aeg, .slice peA ael pec, .int .i64 afk, .int .i64 afn, .string afg, .slice pfA afl pfc] t) := fun W' peA pec pfA pfc h1 h2 => IsSV.mk qi qh qm h1 h2 hls
  clear h hw hwe hwf he hf hls qi qh qm
  have hA : Blk (((W.alloc (.cells #[.int .i64 ai, .string ah, .string am, .int .i64 aek, .int .i64 aen, .string aeg, .slice aeA ael aec, .int .i64 afk, .int .i64 afn, .string afg, .slice afA afl afc] 41)).alloc (.cells #[.int .i64 0, .string ⟨#[]⟩, .string ⟨#[]⟩, .int .i64 0, .int .i64 0, .string ⟨#[]⟩, .slice none 0 0, .int .i64 0, .int .i64 0, .string ⟨#[]⟩, .slice none 0 0] 45)).alloc (.cells #[.int .i64 ai, .string ah, .string am, .int .i64 0, .int .i64 0, .string ⟨#[]⟩, .slice none 0 0, .int .i64 0, .int .i64 0, .string ⟨#[]⟩, .slice none 0 0] 45)) W.heap.size 41 [.int .i64 ai, .string ah, .string am, .int .i64 aek, .int .i64 aen, .string aeg, .slice aeA ael aec, .int .i64 afk, .int .i64 afn, .string afg, .slice afA afl afc] := ((Blk.alloc_ W 41 [.int .i64 ai, .string ah, .string am, .int .i64 aek, .int .i64 aen, .string aeg, .slice aeA ael aec, .int .i64 afk, .int .i64 afn, .string afg, .slice afA afl afc]).alloc _).alloc _
  have hZ : Blk (((W.alloc (.cells #[.int .i64 ai, .string ah, .string am, .int .i64 aek, .int .i64 aen, .string aeg, .slice aeA ael aec, .int .i64 afk, .int .i64 afn, .string afg, .slice afA afl afc] 41)).alloc (.cells #[.int .i64 0, .string ⟨#[]⟩, .string ⟨#[]⟩, .int .i64 0, .int .i64 0, .string ⟨#[]⟩, .slice none 0 0, .int .i64 0, .int .i64 0, .string ⟨#[]⟩, .slice none 0 0] 45)).alloc (.cells #[.int .i64 ai, .string ah, .string am, .int .i64 0, .int .i64 0, .string ⟨#[]⟩, .slice none 0 0, .int .i64 0, .int .i64 0, .string ⟨#[]⟩, .slice none 0 0] 45)) (W.heap.size + 1) 45 [.int .i64 0, .string ⟨#[]⟩, .string ⟨#[]⟩, .int .i64 0, .int .i64 0, .string ⟨#[]⟩, .slice none 0 0, .int .i64 0, .int .i64 0, .string ⟨#[]⟩, .slice none 0 0] := by
    have := (Blk.alloc_ (W.alloc (.cells #[.int .i64 ai, .string ah, .string am, .int .i64 aek, .int .i64 aen, .string aeg, .slice aeA ael aec, .int .i64 afk, .int .i64 afn, .string afg, .slice afA afl afc] 41)) 45 [.int .i64 0, .string ⟨#[]⟩, .string ⟨#[]⟩, .int .i64 0, .int .i64 0, .string ⟨#[]⟩, .slice none 0 0, .int .i64 0, .int .i64 0, .string ⟨#[]⟩, .slice none 0 0]).alloc (.cells #[.int .i64 ai, .string ah, .string am, .int .i64 0, .int .i64 0, .string ⟨#[]⟩, .slice none 0 0, .int .i64 0, .int .i64 0, .string ⟨#[]⟩, .slice none 0 0] 45)
    simpa using this
  have hP : Blk (((W.alloc (.cells #[.int .i64 ai, .string ah, .string am, .int .i64 aek, .int .i64 aen, .string aeg, .slice aeA ael aec, .int .i64 afk, .int .i64 afn, .string afg, .slice afA afl afc] 41)).alloc (.cells #[.int .i64 0, .string ⟨#[]⟩, .string ⟨#[]⟩, .int .i64 0, .int .i64 0, .string ⟨#[]⟩, .slice none 0 0, .int .i64 0, .int .i64 0, .string ⟨#[]⟩, .slice none 0 0] 45)).alloc (.cells #[.int .i64 ai, .string ah, .string am, .int .i64 0, .int .i64 0, .string ⟨#[]⟩, .slice none 0 0, .int .i64 0, .int .i64 0, .string ⟨#[]⟩, .slice none 0 0] 45)) (W.heap.size + 1 + 1) 45 [.int .i64 ai, .string ah, .string am, .int .i64 0, .int .i64 0, .string ⟨#[]⟩, .slice none 0 0, .int .i64 0, .int .i64 0, .string ⟨#[]⟩, .slice none 0 0] := by
    have := Blk.alloc_ ((W.alloc (.cells #[.int .i64 ai, .string ah, .string am, .int .i64 aek, .int .i64 aen, .string aeg, .slice aeA ael aec, .int .i64 afk, .int .i64 afn, .string afg, .slice afA afl afc] 41)).alloc (.cells #[.int .i64 0, .string ⟨#[]⟩, .string ⟨#[]⟩, .int .i64 0, .int .i64 0, .string ⟨#[]⟩, .slice none 0 0, .int .i64 0, .int .i64 0, .string ⟨#[]⟩, .slice none 0 0] 45)) 45 [.int .i64 ai, .string ah, .string am, .int .i64 0, .int .i64 0, .string ⟨#[]⟩, .slice none 0 0, .int .i64 0, .int .i64 0, .string ⟨#[]⟩, .slice none 0 0]
    simpa using this
  have hb0 : Below W.heap.size W (((W.alloc (.cells #[.int .i64 ai, .string ah, .string am, .int .i64 aek, .int .i64 aen, .string aeg, .slice aeA ael aec, .int .i64 afk, .int .i64 afn, .string afg, .slice afA afl afc] 41)).alloc (.cells #[.int .i64 0, .string ⟨#[]⟩, .string ⟨#[]⟩, .int .i64 0, .int .i64 0, .string ⟨#[]⟩, .slice none 0 0, .int .i64 0, .int .i64 0, .string ⟨#[]⟩, .slice none 0 0] 45)).alloc (.cells #[.int .i64 ai, .string ah, .string am, .int .i64 0, .int .i64 0, .string ⟨#[]⟩, .slice none 0 0, .int .i64 0, .int .i64 0, .string ⟨#[]⟩, .slice none 0 0] 45)) := by go_grown
  have HA := Lib.hid hA
  have HZ := Lib.hid hZ
  have HP := Lib.hid hP
  have HB0 := Lib.hid hb0
  clear hA hZ hP hb0
  go_enter Try.func18, Try.ntmps18
  go_wp2_with fail
  generalize ((W.alloc (.cells #[.int .i64 ai, .string ah, .string am, .int .i64 aek, .int .i64 aen, .string aeg, .slice aeA ael aec, .int .i64 afk, .int .i64 afn, .string afg, .slice afA afl afc] 41)).alloc (.cells #[.int .i64 0, .string ⟨#[]⟩, .string ⟨#[]⟩, .int .i64 0, .int .i64 0, .string ⟨#[]⟩, .slice none 0 0, .int .i64 0, .int .i64 0, .string ⟨#[]⟩, .slice none 0 0] 45)).alloc (.cells #[.int .i64 ai, .string ah, .string am, .int .i64 0, .int .i64 0, .string ⟨#[]⟩, .slice none 0 0, .int .i64 0, .int .i64 0, .string ⟨#[]⟩, .slice none 0 0] 45) = w0 at *
  refine (toExprN aek aen aeg aeA ael aec t.e w0 (HE.out.below HB0.out) HWE.out).mono ?_
  rintro e w1 ⟨peA, pec, rfl, hke, hb1⟩
  have HB1 : Hid (Below W.heap.size W w1) := HB0.out.trans (hb1.mono HB0.out.size)
  have HKE := Lib.hid hke
  have HB01 : Hid (w0.heap.size ≤ w1.heap.size) := hb1.size
  have hA1 := HA.out.below hb1 HA.out.lt
  have hZ1 := HZ.out.below hb1 HZ.out.lt
  have hP1 := HP.out.below hb1 HP.out.lt
  clear hb1 hke
  have fp0 := hP1.frozen 3
  have fp1 := hP1.frozen 4
  have fp2 := hP1.frozen 5
  have fp3 := hP1.frozen 6
  have ep3 := hP1.cell 3
  have ep4 := hP1.cell 4
  have ep5 := hP1.cell 5
  have ep6 := hP1.cell 6
  simp only [List.getElem?_cons_zero, List.getElem?_cons_succ] at ep3 ep4 ep5 ep6
  have xa0 := hA1.far (p := ⟨W.heap.size + 1 + 1, 3, none⟩) (by first | (simp; done) | (simp; omega)) (.int .i64 aek)
  have xa1 := xa0.far (p := ⟨W.heap.size + 1 + 1, 4, none⟩) (by first | (simp; done) | (simp; omega)) (.int .i64 aen)
  have xa2 := xa1.far (p := ⟨W.heap.size + 1 + 1, 5, none⟩) (by first | (simp; done) | (simp; omega)) (.string aeg)
  have xa3 := xa2.far (p := ⟨W.heap.size + 1 + 1, 6, none⟩) (by first | (simp; done) | (simp; omega)) (.slice peA ael pec)
  have xz0 := hZ1.far (p := ⟨W.heap.size + 1 + 1, 3, none⟩) (by first | (simp; done) | (simp; omega)) (.int .i64 aek)
  have xz1 := xz0.far (p := ⟨W.heap.size + 1 + 1, 4, none⟩) (by first | (simp; done) | (simp; omega)) (.int .i64 aen)
  have xz2 := xz1.far (p := ⟨W.heap.size + 1 + 1, 5, none⟩) (by first | (simp; done) | (simp; omega)) (.string aeg)
  have xz3 := xz2.far (p := ⟨W.heap.size + 1 + 1, 6, none⟩) (by first | (simp; done) | (simp; omega)) (.slice peA ael pec)
  have xp0 := hP1.put 3 (.int .i64 aek)
  have xp1 := xp0.put 4 (.int .i64 aen)
  have xp2 := xp1.put 5 (.string aeg)
  have xp3 := xp2.put 6 (.slice peA ael pec)
  simp only [List.set_cons_zero, List.set_cons_succ] at xp3
  have q7 := xa3.cell 7
  have q8 := xa3.cell 8
  have q9 := xa3.cell 9
  have q10 := xa3.cell 10
  simp only [List.getElem?_cons_zero, List.getElem?_cons_succ] at q7 q8 q9 q10
  have HA2 := Lib.hid xa3
  have HZ2 := Lib.hid xz3
  have HP2 := Lib.hid xp3
  have HB2 : Hid (Below W.heap.size W ((((w1.setCell ⟨W.heap.size + 1 + 1, 3, none⟩ (.int .i64 aek)).setCell ⟨W.heap.size + 1 + 1, 4, none⟩ (.int .i64 aen)).setCell ⟨W.heap.size + 1 + 1, 5, none⟩ (.string aeg)).setCell ⟨W.heap.size + 1 + 1, 6, none⟩ (.slice peA ael pec))) := (((HB1.out.setCell (by simp; omega) _).setCell (by simp; omega) _).setCell (by simp; omega) _).setCell (by simp; omega) _
  have HKE2 : Hid (IsENew w0.heap.size ((((w1.setCell ⟨W.heap.size + 1 + 1, 3, none⟩ (.int .i64 aek)).setCell ⟨W.heap.size + 1 + 1, 4, none⟩ (.int .i64 aen)).setCell ⟨W.heap.size + 1 + 1, 5, none⟩ (.string aeg)).setCell ⟨W.heap.size + 1 + 1, 6, none⟩ (.slice peA ael pec)) [.int .i64 aek, .int .i64 aen, .string aeg, .slice peA ael pec] t.e) := by
    unfold Hid
    have hz := HP.out.lt
    repeat (refine IsENew.set ?_ (by simp; omega) _)
    exact HKE.out
  have HSZ : Hid (w0.heap.size ≤ ((((w1.setCell ⟨W.heap.size + 1 + 1, 3, none⟩ (.int .i64 aek)).setCell ⟨W.heap.size + 1 + 1, 4, none⟩ (.int .i64 aen)).setCell ⟨W.heap.size + 1 + 1, 5, none⟩ (.string aeg)).setCell ⟨W.heap.size + 1 + 1, 6, none⟩ (.slice peA ael pec)).heap.size) := by
    unfold Hid
    simp only [World.size_setCell]
    exact HB01.out
  clear xa0 xa1 xa2 xa3 xz0 xz1 xz2 xz3 xp0 xp1 xp2 xp3 hA1 hZ1 hP1 HKE
  go_wp2_with fail
  generalize (((w1.setCell ⟨W.heap.size + 1 + 1, 3, none⟩ (.int .i64 aek)).setCell ⟨W.heap.size + 1 + 1, 4, none⟩ (.int .i64 aen)).setCell ⟨W.heap.size + 1 + 1, 5, none⟩ (.string aeg)).setCell ⟨W.heap.size + 1 + 1, 6, none⟩ (.slice peA ael pec) = w2 at *
  clear q7 q8 q9 q10 fp0 fp1 fp2 fp3 ep3 ep4 ep5 ep6
  refine (toExprN afk afn afg afA afl afc t.f w2 (HF.out.below HB2.out) HWF.out).mono ?_
  rintro e w3 ⟨pfA, pfc, rfl, hkf, hb3⟩
  have HB3 : Hid (Below W.heap.size W w3) := HB2.out.trans (hb3.mono HB2.out.size)
  have HKE3 := Lib.hid (HKE2.out.below HSZ.out hb3)
  have HKF3 := Lib.hid hkf
  have hZ3 := HZ2.out.below hb3 HZ2.out.lt
  have hP3 := HP2.out.below hb3 HP2.out.lt
  have HLT : Hid (W.heap.size + 1 + 1 < w0.heap.size) := HP.out.lt
  clear hb3 hkf
  have fp0 := hP3.frozen 7
  have fp1 := hP3.frozen 8
  have fp2 := hP3.frozen 9
  have fp3 := hP3.frozen 10
  have ep7 := hP3.cell 7
  have ep8 := hP3.cell 8
  have ep9 := hP3.cell 9
  have ep10 := hP3.cell 10
  simp only [List.getElem?_cons_zero, List.getElem?_cons_succ] at ep7 ep8 ep9 ep10
  have xz0 := hZ3.far (p := ⟨W.heap.size + 1 + 1, 7, none⟩) (by first | (simp; done) | (simp; omega)) (.int .i64 afk)
  have xz1 := xz0.far (p := ⟨W.heap.size + 1 + 1, 8, none⟩) (by first | (simp; done) | (simp; omega)) (.int .i64 afn)
  have xz2 := xz1.far (p := ⟨W.heap.size + 1 + 1, 9, none⟩) (by first | (simp; done) | (simp; omega)) (.string afg)
  have xz3 := xz2.far (p := ⟨W.heap.size + 1 + 1, 10, none⟩) (by first | (simp; done) | (simp; omega)) (.slice pfA afl pfc)
  have xp0 := hP3.put 7 (.int .i64 afk)
  have xp1 := xp0.put 8 (.int .i64 afn)
  have xp2 := xp1.put 9 (.string afg)
  have xp3 := xp2.put 10 (.slice pfA afl pfc)
  simp only [List.set_cons_zero, List.set_cons_succ] at xp3
  have p0 := xp3.cell 0
  have p1 := xp3.cell 1
  have p2 := xp3.cell 2
  have p3 := xp3.cell 3
  have p4 := xp3.cell 4
  have p5 := xp3.cell 5
  have p6 := xp3.cell 6
  have p7 := xp3.cell 7
  have p8 := xp3.cell 8
  have p9 := xp3.cell 9
  have p10 := xp3.cell 10
  simp only [List.getElem?_cons_zero, List.getElem?_cons_succ] at p0 p1 p2 p3 p4 p5 p6 p7 p8 p9 p10
  have z0 := xz3.cell 0
  have z1 := xz3.cell 1
  have z2 := xz3.cell 2
  have z3 := xz3.cell 3
  have z4 := xz3.cell 4
  have z5 := xz3.cell 5
  have z6 := xz3.cell 6
  have z7 := xz3.cell 7
  have z8 := xz3.cell 8
  have z9 := xz3.cell 9
  have z10 := xz3.cell 10
  simp only [List.getElem?_cons_zero, List.getElem?_cons_succ] at z0 z1 z2 z3 z4 z5 z6 z7 z8 z9 z10
  have fz0 := xz3.frozen 0
  have fz1 := xz3.frozen 1
  have fz2 := xz3.frozen 2
  have fz3 := xz3.frozen 3
  have fz4 := xz3.frozen 4
  have fz5 := xz3.frozen 5
  have fz6 := xz3.frozen 6
  have fz7 := xz3.frozen 7
  have fz8 := xz3.frozen 8
  have fz9 := xz3.frozen 9
  have fz10 := xz3.frozen 10
  have y0 := xz3.put 0 (.int .i64 ai)
  have r0 := y0.cell 0
  have y1 := y0.put 1 (.string ah)
  have r1 := y1.cell 1
  have y2 := y1.put 2 (.string am)
  have r2 := y2.cell 2
  have y3 := y2.put 3 (.int .i64 aek)
  have r3 := y3.cell 3
  have y4 := y3.put 4 (.int .i64 aen)
  have r4 := y4.cell 4
  have y5 := y4.put 5 (.string aeg)
  have r5 := y5.cell 5
  have y6 := y5.put 6 (.slice peA ael pec)
  have r6 := y6.cell 6
  have y7 := y6.put 7 (.int .i64 afk)
  have r7 := y7.cell 7
  have y8 := y7.put 8 (.int .i64 afn)
  have r8 := y8.cell 8
  have y9 := y8.put 9 (.string afg)
  have r9 := y9.cell 9
  have y10 := y9.put 10 (.slice pfA afl pfc)
  have r10 := y10.cell 10
  simp only [List.set_cons_zero, List.set_cons_succ, List.getElem?_cons_zero, List.getElem?_cons_succ] at r0 r1 r2 r3 r4 r5 r6 r7 r8 r9 r10
  clear xz0 xz1 xz2 xz3 xp0 xp1 xp2 xp3 hZ3 hP3 y0 y1 y2 y3 y4 y5 y6 y7 y8 y9 y10
  have HKE4 : Hid (IsENew w0.heap.size ((((w3.setCell ⟨W.heap.size + 1 + 1, 7, none⟩ (.int .i64 afk)).setCell ⟨W.heap.size + 1 + 1, 8, none⟩ (.int .i64 afn)).setCell ⟨W.heap.size + 1 + 1, 9, none⟩ (.string afg)).setCell ⟨W.heap.size + 1 + 1, 10, none⟩ (.slice pfA afl pfc)) [.int .i64 aek, .int .i64 aen, .string aeg, .slice peA ael pec] t.e) := by
    unfold Hid
    have hz := HLT.out
    repeat (refine IsENew.set ?_ (by simp; omega) _)
    exact HKE3.out
  have HKF4 : Hid (IsENew w2.heap.size ((((w3.setCell ⟨W.heap.size + 1 + 1, 7, none⟩ (.int .i64 afk)).setCell ⟨W.heap.size + 1 + 1, 8, none⟩ (.int .i64 afn)).setCell ⟨W.heap.size + 1 + 1, 9, none⟩ (.string afg)).setCell ⟨W.heap.size + 1 + 1, 10, none⟩ (.slice pfA afl pfc)) [.int .i64 afk, .int .i64 afn, .string afg, .slice pfA afl pfc] t.f) := by
    unfold Hid
    have hz := HLT.out
    have hz2 := HSZ.out
    repeat (refine IsENew.set ?_ (by simp; omega) _)
    exact HKF3.out
  have HB4 : Hid (Below W.heap.size W ((((w3.setCell ⟨W.heap.size + 1 + 1, 7, none⟩ (.int .i64 afk)).setCell ⟨W.heap.size + 1 + 1, 8, none⟩ (.int .i64 afn)).setCell ⟨W.heap.size + 1 + 1, 9, none⟩ (.string afg)).setCell ⟨W.heap.size + 1 + 1, 10, none⟩ (.slice pfA afl pfc))) := (((HB3.out.setCell (by simp; omega) _).setCell (by simp; omega) _).setCell (by simp; omega) _).setCell (by simp; omega) _
  clear HKE3 HKF3 HB3
  go_upto_region 7 with (fail)
  generalize (((w3.setCell ⟨W.heap.size + 1 + 1, 7, none⟩ (.int .i64 afk)).setCell ⟨W.heap.size + 1 + 1, 8, none⟩ (.int .i64 afn)).setCell ⟨W.heap.size + 1 + 1, 9, none⟩ (.string afg)).setCell ⟨W.heap.size + 1 + 1, 10, none⟩ (.slice pfA afl pfc) = w4 at *
  go_wp2_with fail
  refine bodyPost_ret (v := .agg #[.int .i64 ai, .string ah, .string am, .int .i64 aek, .int .i64 aen, .string aeg, .slice peA ael pec, .int .i64 afk, .int .i64 afn, .string afg, .slice pfA afl pfc]) (by simp [results, Try.results18, go_sem, r0, r1, r2, r3, r4, r5, r6, r7, r8, r9, r10]) rfl ?_
  refine ⟨_, _, _, _, rfl, MK.out _ _ _ _ _ ?_ ?_, (((((((((((HB4.out.setCell (by simp) _).setCell (by simp) _).setCell (by simp) _).setCell (by simp) _).setCell (by simp) _).setCell (by simp) _).setCell (by simp) _).setCell (by simp) _).setCell (by simp) _).setCell (by simp) _).setCell (by simp) _)⟩
  · refine IsENew.low (B := w0.heap.size) ?_
    have hz := HLT.out
    repeat (refine IsENew.set ?_ (by simp; omega) _)
    exact HKE4.out
  · refine IsENew.low (B := w2.heap.size) ?_
    have hz := HLT.out
    have hz2 := HSZ.out
    repeat (refine IsENew.set ?_ (by simp; omega) _)
    exact HKF4.out

end Go.Proofs.Ytfjmjlpobbjjdaa
