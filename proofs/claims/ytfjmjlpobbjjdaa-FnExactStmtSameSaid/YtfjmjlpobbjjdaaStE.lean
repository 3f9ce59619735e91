/- The walks of FnExactStmtSame. -/
import Derived.Test.YtfjmjlpobbjjdaaStV
namespace Go.Proofs.Ytfjmjlpobbjjdaa
open Go.RowKit Ilp
set_option linter.unusedVariables false

set_option maxHeartbeats 4000000 in
set_option maxRecDepth 20000 in
theorem eqStmtV {ai : Int} {ah am : ByteArray} {aek aen : Int} {aeg : ByteArray} {aeA : Option Addr} {ael aec : Nat} {afk afn : Int} {afg : ByteArray} {afA : Option Addr} {afl afc : Nat} {bi : Int} {bh bm : ByteArray} {bek ben : Int} {beg : ByteArray} {beA : Option Addr} {bel bec : Nat} {bfk bfn : Int} {bfg : ByteArray} {bfA : Option Addr} {bfl bfc : Nat} {t : StmtT} {W : World} (h : IsSV W [.int .i64 ai, .string ah, .string am, .int .i64 aek, .int .i64 aen, .string aeg, .slice aeA ael aec, .int .i64 afk, .int .i64 afn, .string afg, .slice afA afl afc] t) (h' : IsSV W [.int .i64 bi, .string bh, .string bm, .int .i64 bek, .int .i64 ben, .string beg, .slice beA bel bec, .int .i64 bfk, .int .i64 bfn, .string bfg, .slice bfA bfl bfc] t) :
    Calls Try.prog 20 #[.agg #[.int .i64 ai, .string ah, .string am, .int .i64 aek, .int .i64 aen, .string aeg, .slice aeA ael aec, .int .i64 afk, .int .i64 afn, .string afg, .slice afA afl afc], .agg #[.int .i64 bi, .string bh, .string bm, .int .i64 bek, .int .i64 ben, .string beg, .slice beA bel bec, .int .i64 bfk, .int .i64 bfn, .string bfg, .slice bfA bfl bfc]] W fun e w' => e = .returned (.bool true) ∧ Below W.heap.size W w' := by
  obtain ⟨qi, qh, qm, he, hf, hls⟩ := h.parts
  obtain ⟨pi, ph, pm, he', hf', hls'⟩ := h'.parts
  obtain rfl : ai = bi := qi.trans pi.symm
  obtain rfl : ah = bh := qh.trans ph.symm
  obtain rfl : am = bm := qm.trans pm.symm
  clear h h' hls hls' qi pi qh ph qm pm
  have hb0 : Below W.heap.size W ((W.alloc (.cells #[.int .i64 ai, .string ah, .string am, .int .i64 aek, .int .i64 aen, .string aeg, .slice aeA ael aec, .int .i64 afk, .int .i64 afn, .string afg, .slice afA afl afc] 45)).alloc (.cells #[.int .i64 ai, .string ah, .string am, .int .i64 bek, .int .i64 ben, .string beg, .slice beA bel bec, .int .i64 bfk, .int .i64 bfn, .string bfg, .slice bfA bfl bfc] 45)) := by go_grown
  have hA : Blk ((W.alloc (.cells #[.int .i64 ai, .string ah, .string am, .int .i64 aek, .int .i64 aen, .string aeg, .slice aeA ael aec, .int .i64 afk, .int .i64 afn, .string afg, .slice afA afl afc] 45)).alloc (.cells #[.int .i64 ai, .string ah, .string am, .int .i64 bek, .int .i64 ben, .string beg, .slice beA bel bec, .int .i64 bfk, .int .i64 bfn, .string bfg, .slice bfA bfl bfc] 45)) W.heap.size 45 [.int .i64 ai, .string ah, .string am, .int .i64 aek, .int .i64 aen, .string aeg, .slice aeA ael aec, .int .i64 afk, .int .i64 afn, .string afg, .slice afA afl afc] := (Blk.alloc_ W 45 [.int .i64 ai, .string ah, .string am, .int .i64 aek, .int .i64 aen, .string aeg, .slice aeA ael aec, .int .i64 afk, .int .i64 afn, .string afg, .slice afA afl afc]).alloc _
  have hB : Blk ((W.alloc (.cells #[.int .i64 ai, .string ah, .string am, .int .i64 aek, .int .i64 aen, .string aeg, .slice aeA ael aec, .int .i64 afk, .int .i64 afn, .string afg, .slice afA afl afc] 45)).alloc (.cells #[.int .i64 ai, .string ah, .string am, .int .i64 bek, .int .i64 ben, .string beg, .slice beA bel bec, .int .i64 bfk, .int .i64 bfn, .string bfg, .slice bfA bfl bfc] 45)) (W.heap.size + 1) 45 [.int .i64 ai, .string ah, .string am, .int .i64 bek, .int .i64 ben, .string beg, .slice beA bel bec, .int .i64 bfk, .int .i64 bfn, .string bfg, .slice bfA bfl bfc] := by
    have := Blk.alloc_ (W.alloc (.cells #[.int .i64 ai, .string ah, .string am, .int .i64 aek, .int .i64 aen, .string aeg, .slice aeA ael aec, .int .i64 afk, .int .i64 afn, .string afg, .slice afA afl afc] 45)) 45 [.int .i64 ai, .string ah, .string am, .int .i64 bek, .int .i64 ben, .string beg, .slice beA bel bec, .int .i64 bfk, .int .i64 bfn, .string bfg, .slice bfA bfl bfc]
    simpa using this
  have HA := Lib.hid hA
  have HB := Lib.hid hB
  have HB0 := Lib.hid hb0
  have HE := Lib.hid he
  have HF := Lib.hid hf
  have HE' := Lib.hid he'
  have HF' := Lib.hid hf'
  clear hA hB hb0 he hf he' hf'
  have gi : (ai != ai) = false := by simp
  have gh : (ah.toList == ah.toList) = true := by simp
  have gm : (am.toList == am.toList) = true := by simp
  go_enter Try.func20, Try.ntmps20
  go_wp2_with fail
  generalize (W.alloc (.cells #[.int .i64 ai, .string ah, .string am, .int .i64 aek, .int .i64 aen, .string aeg, .slice aeA ael aec, .int .i64 afk, .int .i64 afn, .string afg, .slice afA afl afc] 45)).alloc (.cells #[.int .i64 ai, .string ah, .string am, .int .i64 bek, .int .i64 ben, .string beg, .slice beA bel bec, .int .i64 bfk, .int .i64 bfn, .string bfg, .slice bfA bfl bfc] 45) = w0 at *
  refine (eqExprV (HE.out.below HB0.out) (HE'.out.below HB0.out)).mono ?_
  rintro e w1 ⟨rfl, hb1⟩
  have HB1 : Hid (Below W.heap.size W w1) := HB0.out.trans (hb1.mono HB0.out.size)
  have hA1 := HA.out.below hb1 HA.out.lt
  have hB1 := HB.out.below hb1 HB.out.lt
  have q7 := hA1.cell 7
  have q8 := hA1.cell 8
  have q9 := hA1.cell 9
  have q10 := hA1.cell 10
  simp only [List.getElem?_cons_zero, List.getElem?_cons_succ] at q7 q8 q9 q10
  have r7 := hB1.cell 7
  have r8 := hB1.cell 8
  have r9 := hB1.cell 9
  have r10 := hB1.cell 10
  simp only [List.getElem?_cons_zero, List.getElem?_cons_succ] at r7 r8 r9 r10
  clear hb1 hA1 hB1
  go_wp2_with fail
  refine (eqExprV (HF.out.below HB1.out) (HF'.out.below HB1.out)).mono ?_
  rintro e w2 ⟨rfl, hb2⟩
  have HB2 : Hid (Below W.heap.size W w2) := HB1.out.trans (hb2.mono HB1.out.size)
  clear hb2
  go_wp2_with fail
  go_ret
  exact ⟨rfl, HB2.out⟩
set_option maxHeartbeats 4000000 in
set_option maxRecDepth 20000 in
theorem specStmtV {ai : Int} {ah am : ByteArray} {aek aen : Int} {aeg : ByteArray} {aeA : Option Addr} {ael aec : Nat} {afk afn : Int} {afg : ByteArray} {afA : Option Addr} {afl afc : Nat} {bi : Int} {bh bm : ByteArray} {bek ben : Int} {beg : ByteArray} {beA : Option Addr} {bel bec : Nat} {bfk bfn : Int} {bfg : ByteArray} {bfA : Option Addr} {bfl bfc : Nat} {t u : StmtT} {W : World} (h : IsSV W [.int .i64 ai, .string ah, .string am, .int .i64 aek, .int .i64 aen, .string aeg, .slice aeA ael aec, .int .i64 afk, .int .i64 afn, .string afg, .slice afA afl afc] t) (h' : IsSV W [.int .i64 bi, .string bh, .string bm, .int .i64 bek, .int .i64 ben, .string beg, .slice beA bel bec, .int .i64 bfk, .int .i64 bfn, .string bfg, .slice bfA bfl bfc] u) :
    Calls Try.prog 17 #[.agg #[.int .i64 ai, .string ah, .string am, .int .i64 aek, .int .i64 aen, .string aeg, .slice aeA ael aec, .int .i64 afk, .int .i64 afn, .string afg, .slice afA afl afc], .agg #[.int .i64 bi, .string bh, .string bm, .int .i64 bek, .int .i64 ben, .string beg, .slice beA bel bec, .int .i64 bfk, .int .i64 bfn, .string bfg, .slice bfA bfl bfc]] W fun e w' => e = .returned (.bool (sameStmt t u)) ∧ Below W.heap.size W w' := by
  obtain ⟨qi, qh, qm, he, hf, hls⟩ := h.parts
  obtain ⟨pi, ph, pm, he', hf', hls'⟩ := h'.parts
  have HS : Hid (sameStmt t u = ((ai == bi) && (ah.toList == bh.toList) && (am.toList == bm.toList) && exEq t.e u.e && exEq t.f u.f)) := by unfold Hid sameStmt; rw [qi, pi, qh, ph, qm, pm]
  clear h h' hls hls' qi pi qh ph qm pm
  by_cases ci : ai = bi
  rotate_left
  · have gi : (ai == bi) = false := by rw [beq_eq_false_iff_ne]; exact ci
    have H0 : Hid (sameStmt t u = false) := by unfold Hid; rw [HS.out, gi]; simp
    have hb0 : Below W.heap.size W ((W.alloc (.cells #[.int .i64 ai, .string ah, .string am, .int .i64 aek, .int .i64 aen, .string aeg, .slice aeA ael aec, .int .i64 afk, .int .i64 afn, .string afg, .slice afA afl afc] 45)).alloc (.cells #[.int .i64 bi, .string bh, .string bm, .int .i64 bek, .int .i64 ben, .string beg, .slice beA bel bec, .int .i64 bfk, .int .i64 bfn, .string bfg, .slice bfA bfl bfc] 45)) := by go_grown
    have hA : Blk ((W.alloc (.cells #[.int .i64 ai, .string ah, .string am, .int .i64 aek, .int .i64 aen, .string aeg, .slice aeA ael aec, .int .i64 afk, .int .i64 afn, .string afg, .slice afA afl afc] 45)).alloc (.cells #[.int .i64 bi, .string bh, .string bm, .int .i64 bek, .int .i64 ben, .string beg, .slice beA bel bec, .int .i64 bfk, .int .i64 bfn, .string bfg, .slice bfA bfl bfc] 45)) W.heap.size 45 [.int .i64 ai, .string ah, .string am, .int .i64 aek, .int .i64 aen, .string aeg, .slice aeA ael aec, .int .i64 afk, .int .i64 afn, .string afg, .slice afA afl afc] := (Blk.alloc_ W 45 [.int .i64 ai, .string ah, .string am, .int .i64 aek, .int .i64 aen, .string aeg, .slice aeA ael aec, .int .i64 afk, .int .i64 afn, .string afg, .slice afA afl afc]).alloc _
    have hB : Blk ((W.alloc (.cells #[.int .i64 ai, .string ah, .string am, .int .i64 aek, .int .i64 aen, .string aeg, .slice aeA ael aec, .int .i64 afk, .int .i64 afn, .string afg, .slice afA afl afc] 45)).alloc (.cells #[.int .i64 bi, .string bh, .string bm, .int .i64 bek, .int .i64 ben, .string beg, .slice beA bel bec, .int .i64 bfk, .int .i64 bfn, .string bfg, .slice bfA bfl bfc] 45)) (W.heap.size + 1) 45 [.int .i64 bi, .string bh, .string bm, .int .i64 bek, .int .i64 ben, .string beg, .slice beA bel bec, .int .i64 bfk, .int .i64 bfn, .string bfg, .slice bfA bfl bfc] := by
      have := Blk.alloc_ (W.alloc (.cells #[.int .i64 ai, .string ah, .string am, .int .i64 aek, .int .i64 aen, .string aeg, .slice aeA ael aec, .int .i64 afk, .int .i64 afn, .string afg, .slice afA afl afc] 45)) 45 [.int .i64 bi, .string bh, .string bm, .int .i64 bek, .int .i64 ben, .string beg, .slice beA bel bec, .int .i64 bfk, .int .i64 bfn, .string bfg, .slice bfA bfl bfc]
      simpa using this
    have HA := Lib.hid hA
    have HB := Lib.hid hB
    have HB0 := Lib.hid hb0
    have HE := Lib.hid he
    have HF := Lib.hid hf
    have HE' := Lib.hid he'
    have HF' := Lib.hid hf'
    clear hA hB hb0 he hf he' hf'
    clear ci HE HF HE' HF' HS
    go_enter Try.func17, Try.ntmps17
    go_wp2_with fail
    go_ret
    exact ⟨by rw [H0.out]; rfl, HB0.out⟩
  obtain rfl : ai = bi := ci
  have gi : (ai == ai) = true := by simp
  by_cases ch : ah = bh
  rotate_left
  · have gh : (ah.toList == bh.toList) = false := by rw [beq_eq_false_iff_ne]; exact fun e => ch (toList_inj e)
    have H0 : Hid (sameStmt t u = false) := by unfold Hid; rw [HS.out, gh]; simp
    have hb0 : Below W.heap.size W ((W.alloc (.cells #[.int .i64 ai, .string ah, .string am, .int .i64 aek, .int .i64 aen, .string aeg, .slice aeA ael aec, .int .i64 afk, .int .i64 afn, .string afg, .slice afA afl afc] 45)).alloc (.cells #[.int .i64 ai, .string bh, .string bm, .int .i64 bek, .int .i64 ben, .string beg, .slice beA bel bec, .int .i64 bfk, .int .i64 bfn, .string bfg, .slice bfA bfl bfc] 45)) := by go_grown
    have hA : Blk ((W.alloc (.cells #[.int .i64 ai, .string ah, .string am, .int .i64 aek, .int .i64 aen, .string aeg, .slice aeA ael aec, .int .i64 afk, .int .i64 afn, .string afg, .slice afA afl afc] 45)).alloc (.cells #[.int .i64 ai, .string bh, .string bm, .int .i64 bek, .int .i64 ben, .string beg, .slice beA bel bec, .int .i64 bfk, .int .i64 bfn, .string bfg, .slice bfA bfl bfc] 45)) W.heap.size 45 [.int .i64 ai, .string ah, .string am, .int .i64 aek, .int .i64 aen, .string aeg, .slice aeA ael aec, .int .i64 afk, .int .i64 afn, .string afg, .slice afA afl afc] := (Blk.alloc_ W 45 [.int .i64 ai, .string ah, .string am, .int .i64 aek, .int .i64 aen, .string aeg, .slice aeA ael aec, .int .i64 afk, .int .i64 afn, .string afg, .slice afA afl afc]).alloc _
    have hB : Blk ((W.alloc (.cells #[.int .i64 ai, .string ah, .string am, .int .i64 aek, .int .i64 aen, .string aeg, .slice aeA ael aec, .int .i64 afk, .int .i64 afn, .string afg, .slice afA afl afc] 45)).alloc (.cells #[.int .i64 ai, .string bh, .string bm, .int .i64 bek, .int .i64 ben, .string beg, .slice beA bel bec, .int .i64 bfk, .int .i64 bfn, .string bfg, .slice bfA bfl bfc] 45)) (W.heap.size + 1) 45 [.int .i64 ai, .string bh, .string bm, .int .i64 bek, .int .i64 ben, .string beg, .slice beA bel bec, .int .i64 bfk, .int .i64 bfn, .string bfg, .slice bfA bfl bfc] := by
      have := Blk.alloc_ (W.alloc (.cells #[.int .i64 ai, .string ah, .string am, .int .i64 aek, .int .i64 aen, .string aeg, .slice aeA ael aec, .int .i64 afk, .int .i64 afn, .string afg, .slice afA afl afc] 45)) 45 [.int .i64 ai, .string bh, .string bm, .int .i64 bek, .int .i64 ben, .string beg, .slice beA bel bec, .int .i64 bfk, .int .i64 bfn, .string bfg, .slice bfA bfl bfc]
      simpa using this
    have HA := Lib.hid hA
    have HB := Lib.hid hB
    have HB0 := Lib.hid hb0
    have HE := Lib.hid he
    have HF := Lib.hid hf
    have HE' := Lib.hid he'
    have HF' := Lib.hid hf'
    clear hA hB hb0 he hf he' hf'
    clear ch HE HF HE' HF' HS
    go_enter Try.func17, Try.ntmps17
    go_wp2_with fail
    go_ret
    exact ⟨by rw [H0.out]; rfl, HB0.out⟩
  obtain rfl : ah = bh := ch
  have gh : (ah.toList == ah.toList) = true := by simp
  by_cases cm : am = bm
  rotate_left
  · have gm : (am.toList == bm.toList) = false := by rw [beq_eq_false_iff_ne]; exact fun e => cm (toList_inj e)
    have H0 : Hid (sameStmt t u = false) := by unfold Hid; rw [HS.out, gm]; simp
    have hb0 : Below W.heap.size W ((W.alloc (.cells #[.int .i64 ai, .string ah, .string am, .int .i64 aek, .int .i64 aen, .string aeg, .slice aeA ael aec, .int .i64 afk, .int .i64 afn, .string afg, .slice afA afl afc] 45)).alloc (.cells #[.int .i64 ai, .string ah, .string bm, .int .i64 bek, .int .i64 ben, .string beg, .slice beA bel bec, .int .i64 bfk, .int .i64 bfn, .string bfg, .slice bfA bfl bfc] 45)) := by go_grown
    have hA : Blk ((W.alloc (.cells #[.int .i64 ai, .string ah, .string am, .int .i64 aek, .int .i64 aen, .string aeg, .slice aeA ael aec, .int .i64 afk, .int .i64 afn, .string afg, .slice afA afl afc] 45)).alloc (.cells #[.int .i64 ai, .string ah, .string bm, .int .i64 bek, .int .i64 ben, .string beg, .slice beA bel bec, .int .i64 bfk, .int .i64 bfn, .string bfg, .slice bfA bfl bfc] 45)) W.heap.size 45 [.int .i64 ai, .string ah, .string am, .int .i64 aek, .int .i64 aen, .string aeg, .slice aeA ael aec, .int .i64 afk, .int .i64 afn, .string afg, .slice afA afl afc] := (Blk.alloc_ W 45 [.int .i64 ai, .string ah, .string am, .int .i64 aek, .int .i64 aen, .string aeg, .slice aeA ael aec, .int .i64 afk, .int .i64 afn, .string afg, .slice afA afl afc]).alloc _
    have hB : Blk ((W.alloc (.cells #[.int .i64 ai, .string ah, .string am, .int .i64 aek, .int .i64 aen, .string aeg, .slice aeA ael aec, .int .i64 afk, .int .i64 afn, .string afg, .slice afA afl afc] 45)).alloc (.cells #[.int .i64 ai, .string ah, .string bm, .int .i64 bek, .int .i64 ben, .string beg, .slice beA bel bec, .int .i64 bfk, .int .i64 bfn, .string bfg, .slice bfA bfl bfc] 45)) (W.heap.size + 1) 45 [.int .i64 ai, .string ah, .string bm, .int .i64 bek, .int .i64 ben, .string beg, .slice beA bel bec, .int .i64 bfk, .int .i64 bfn, .string bfg, .slice bfA bfl bfc] := by
      have := Blk.alloc_ (W.alloc (.cells #[.int .i64 ai, .string ah, .string am, .int .i64 aek, .int .i64 aen, .string aeg, .slice aeA ael aec, .int .i64 afk, .int .i64 afn, .string afg, .slice afA afl afc] 45)) 45 [.int .i64 ai, .string ah, .string bm, .int .i64 bek, .int .i64 ben, .string beg, .slice beA bel bec, .int .i64 bfk, .int .i64 bfn, .string bfg, .slice bfA bfl bfc]
      simpa using this
    have HA := Lib.hid hA
    have HB := Lib.hid hB
    have HB0 := Lib.hid hb0
    have HE := Lib.hid he
    have HF := Lib.hid hf
    have HE' := Lib.hid he'
    have HF' := Lib.hid hf'
    clear hA hB hb0 he hf he' hf'
    clear cm HE HF HE' HF' HS
    go_enter Try.func17, Try.ntmps17
    go_wp2_with fail
    go_ret
    exact ⟨by rw [H0.out]; rfl, HB0.out⟩
  obtain rfl : am = bm := cm
  have gm : (am.toList == am.toList) = true := by simp
  have hb0 : Below W.heap.size W ((W.alloc (.cells #[.int .i64 ai, .string ah, .string am, .int .i64 aek, .int .i64 aen, .string aeg, .slice aeA ael aec, .int .i64 afk, .int .i64 afn, .string afg, .slice afA afl afc] 45)).alloc (.cells #[.int .i64 ai, .string ah, .string am, .int .i64 bek, .int .i64 ben, .string beg, .slice beA bel bec, .int .i64 bfk, .int .i64 bfn, .string bfg, .slice bfA bfl bfc] 45)) := by go_grown
  have hA : Blk ((W.alloc (.cells #[.int .i64 ai, .string ah, .string am, .int .i64 aek, .int .i64 aen, .string aeg, .slice aeA ael aec, .int .i64 afk, .int .i64 afn, .string afg, .slice afA afl afc] 45)).alloc (.cells #[.int .i64 ai, .string ah, .string am, .int .i64 bek, .int .i64 ben, .string beg, .slice beA bel bec, .int .i64 bfk, .int .i64 bfn, .string bfg, .slice bfA bfl bfc] 45)) W.heap.size 45 [.int .i64 ai, .string ah, .string am, .int .i64 aek, .int .i64 aen, .string aeg, .slice aeA ael aec, .int .i64 afk, .int .i64 afn, .string afg, .slice afA afl afc] := (Blk.alloc_ W 45 [.int .i64 ai, .string ah, .string am, .int .i64 aek, .int .i64 aen, .string aeg, .slice aeA ael aec, .int .i64 afk, .int .i64 afn, .string afg, .slice afA afl afc]).alloc _
  have hB : Blk ((W.alloc (.cells #[.int .i64 ai, .string ah, .string am, .int .i64 aek, .int .i64 aen, .string aeg, .slice aeA ael aec, .int .i64 afk, .int .i64 afn, .string afg, .slice afA afl afc] 45)).alloc (.cells #[.int .i64 ai, .string ah, .string am, .int .i64 bek, .int .i64 ben, .string beg, .slice beA bel bec, .int .i64 bfk, .int .i64 bfn, .string bfg, .slice bfA bfl bfc] 45)) (W.heap.size + 1) 45 [.int .i64 ai, .string ah, .string am, .int .i64 bek, .int .i64 ben, .string beg, .slice beA bel bec, .int .i64 bfk, .int .i64 bfn, .string bfg, .slice bfA bfl bfc] := by
    have := Blk.alloc_ (W.alloc (.cells #[.int .i64 ai, .string ah, .string am, .int .i64 aek, .int .i64 aen, .string aeg, .slice aeA ael aec, .int .i64 afk, .int .i64 afn, .string afg, .slice afA afl afc] 45)) 45 [.int .i64 ai, .string ah, .string am, .int .i64 bek, .int .i64 ben, .string beg, .slice beA bel bec, .int .i64 bfk, .int .i64 bfn, .string bfg, .slice bfA bfl bfc]
    simpa using this
  have HA := Lib.hid hA
  have HB := Lib.hid hB
  have HB0 := Lib.hid hb0
  have HE := Lib.hid he
  have HF := Lib.hid hf
  have HE' := Lib.hid he'
  have HF' := Lib.hid hf'
  clear hA hB hb0 he hf he' hf'
  have HS2 : Hid (sameStmt t u = (exEq t.e u.e && exEq t.f u.f)) := by unfold Hid; rw [HS.out, gi, gh, gm]; simp
  clear HS
  have CE := fun W' (k : Below W.heap.size W W') => specExprV (HE.out.below k) (HE'.out.below k)
  have CF := fun W' (k : Below W.heap.size W W') => specExprV (HF.out.below k) (HF'.out.below k)
  have hs := HS2.out
  unfold sameExpr at CE CF
  generalize exEq t.e u.e = be at *
  generalize exEq t.f u.f = bf at *
  generalize sameStmt t u = sm at *
  subst hs
  have HCE := Lib.hid CE
  have HCF := Lib.hid CF
  clear CE CF HE HF HE' HF' HS2
  cases be with
  | false =>
    go_enter Try.func17, Try.ntmps17
    go_wp2_with fail
    generalize (W.alloc (.cells #[.int .i64 ai, .string ah, .string am, .int .i64 aek, .int .i64 aen, .string aeg, .slice aeA ael aec, .int .i64 afk, .int .i64 afn, .string afg, .slice afA afl afc] 45)).alloc (.cells #[.int .i64 ai, .string ah, .string am, .int .i64 bek, .int .i64 ben, .string beg, .slice beA bel bec, .int .i64 bfk, .int .i64 bfn, .string bfg, .slice bfA bfl bfc] 45) = w0 at *
    refine (HCE.out w0 HB0.out).mono ?_
    rintro e w1 ⟨rfl, hb1⟩
    have HB1 : Hid (Below W.heap.size W w1) := HB0.out.trans (hb1.mono HB0.out.size)
    clear hb1
    go_wp2_with fail
    go_ret
    exact ⟨rfl, HB1.out⟩
  | true =>
    go_enter Try.func17, Try.ntmps17
    go_wp2_with fail
    generalize (W.alloc (.cells #[.int .i64 ai, .string ah, .string am, .int .i64 aek, .int .i64 aen, .string aeg, .slice aeA ael aec, .int .i64 afk, .int .i64 afn, .string afg, .slice afA afl afc] 45)).alloc (.cells #[.int .i64 ai, .string ah, .string am, .int .i64 bek, .int .i64 ben, .string beg, .slice beA bel bec, .int .i64 bfk, .int .i64 bfn, .string bfg, .slice bfA bfl bfc] 45) = w0 at *
    refine (HCE.out w0 HB0.out).mono ?_
    rintro e w1 ⟨rfl, hb1⟩
    have HB1 : Hid (Below W.heap.size W w1) := HB0.out.trans (hb1.mono HB0.out.size)
    have hA1 := HA.out.below hb1 HA.out.lt
    have hB1 := HB.out.below hb1 HB.out.lt
    have q7 := hA1.cell 7
    have q8 := hA1.cell 8
    have q9 := hA1.cell 9
    have q10 := hA1.cell 10
    simp only [List.getElem?_cons_zero, List.getElem?_cons_succ] at q7 q8 q9 q10
    have r7 := hB1.cell 7
    have r8 := hB1.cell 8
    have r9 := hB1.cell 9
    have r10 := hB1.cell 10
    simp only [List.getElem?_cons_zero, List.getElem?_cons_succ] at r7 r8 r9 r10
    clear hb1 hA1 hB1
    go_wp2_with fail
    refine (HCF.out w1 HB1.out).mono ?_
    rintro e w2 ⟨rfl, hb2⟩
    have HB2 : Hid (Below W.heap.size W w2) := HB1.out.trans (hb2.mono HB1.out.size)
    clear hb2
    go_wp2_with fail
    go_ret
    exact ⟨by simp, HB2.out⟩
set_option maxHeartbeats 4000000 in
set_option maxRecDepth 20000 in
theorem implStmtV {ai : Int} {ah am : ByteArray} {aek aen : Int} {aeg : ByteArray} {aeA : Option Addr} {ael aec : Nat} {afk afn : Int} {afg : ByteArray} {afA : Option Addr} {afl afc : Nat} {bi : Int} {bh bm : ByteArray} {bek ben : Int} {beg : ByteArray} {beA : Option Addr} {bel bec : Nat} {bfk bfn : Int} {bfg : ByteArray} {bfA : Option Addr} {bfl bfc : Nat} {t u : StmtT} {W : World} (h : IsSV W [.int .i64 ai, .string ah, .string am, .int .i64 aek, .int .i64 aen, .string aeg, .slice aeA ael aec, .int .i64 afk, .int .i64 afn, .string afg, .slice afA afl afc] t) (h' : IsSV W [.int .i64 bi, .string bh, .string bm, .int .i64 bek, .int .i64 ben, .string beg, .slice beA bel bec, .int .i64 bfk, .int .i64 bfn, .string bfg, .slice bfA bfl bfc] u) :
    Calls Try.prog 19 #[.agg #[.int .i64 ai, .string ah, .string am, .int .i64 aek, .int .i64 aen, .string aeg, .slice aeA ael aec, .int .i64 afk, .int .i64 afn, .string afg, .slice afA afl afc], .agg #[.int .i64 bi, .string bh, .string bm, .int .i64 bek, .int .i64 ben, .string beg, .slice beA bel bec, .int .i64 bfk, .int .i64 bfn, .string bfg, .slice bfA bfl bfc]] W fun e w' => e = .returned (.bool (sameStmt t u)) ∧ Below W.heap.size W w' := by
  obtain ⟨qi, qh, qm, he, hf, hls⟩ := h.parts
  obtain ⟨pi, ph, pm, he', hf', hls'⟩ := h'.parts
  have HS : Hid (sameStmt t u = ((ai == bi) && (ah.toList == bh.toList) && (am.toList == bm.toList) && exEq t.e u.e && exEq t.f u.f)) := by unfold Hid sameStmt; rw [qi, pi, qh, ph, qm, pm]
  clear h h' hls hls' qi pi qh ph qm pm
  by_cases ci : ai = bi
  rotate_left
  · have gi : (ai == bi) = false := by rw [beq_eq_false_iff_ne]; exact ci
    have H0 : Hid (sameStmt t u = false) := by unfold Hid; rw [HS.out, gi]; simp
    have hb0 : Below W.heap.size W ((W.alloc (.cells #[.int .i64 ai, .string ah, .string am, .int .i64 aek, .int .i64 aen, .string aeg, .slice aeA ael aec, .int .i64 afk, .int .i64 afn, .string afg, .slice afA afl afc] 45)).alloc (.cells #[.int .i64 bi, .string bh, .string bm, .int .i64 bek, .int .i64 ben, .string beg, .slice beA bel bec, .int .i64 bfk, .int .i64 bfn, .string bfg, .slice bfA bfl bfc] 45)) := by go_grown
    have hA : Blk ((W.alloc (.cells #[.int .i64 ai, .string ah, .string am, .int .i64 aek, .int .i64 aen, .string aeg, .slice aeA ael aec, .int .i64 afk, .int .i64 afn, .string afg, .slice afA afl afc] 45)).alloc (.cells #[.int .i64 bi, .string bh, .string bm, .int .i64 bek, .int .i64 ben, .string beg, .slice beA bel bec, .int .i64 bfk, .int .i64 bfn, .string bfg, .slice bfA bfl bfc] 45)) W.heap.size 45 [.int .i64 ai, .string ah, .string am, .int .i64 aek, .int .i64 aen, .string aeg, .slice aeA ael aec, .int .i64 afk, .int .i64 afn, .string afg, .slice afA afl afc] := (Blk.alloc_ W 45 [.int .i64 ai, .string ah, .string am, .int .i64 aek, .int .i64 aen, .string aeg, .slice aeA ael aec, .int .i64 afk, .int .i64 afn, .string afg, .slice afA afl afc]).alloc _
    have hB : Blk ((W.alloc (.cells #[.int .i64 ai, .string ah, .string am, .int .i64 aek, .int .i64 aen, .string aeg, .slice aeA ael aec, .int .i64 afk, .int .i64 afn, .string afg, .slice afA afl afc] 45)).alloc (.cells #[.int .i64 bi, .string bh, .string bm, .int .i64 bek, .int .i64 ben, .string beg, .slice beA bel bec, .int .i64 bfk, .int .i64 bfn, .string bfg, .slice bfA bfl bfc] 45)) (W.heap.size + 1) 45 [.int .i64 bi, .string bh, .string bm, .int .i64 bek, .int .i64 ben, .string beg, .slice beA bel bec, .int .i64 bfk, .int .i64 bfn, .string bfg, .slice bfA bfl bfc] := by
      have := Blk.alloc_ (W.alloc (.cells #[.int .i64 ai, .string ah, .string am, .int .i64 aek, .int .i64 aen, .string aeg, .slice aeA ael aec, .int .i64 afk, .int .i64 afn, .string afg, .slice afA afl afc] 45)) 45 [.int .i64 bi, .string bh, .string bm, .int .i64 bek, .int .i64 ben, .string beg, .slice beA bel bec, .int .i64 bfk, .int .i64 bfn, .string bfg, .slice bfA bfl bfc]
      simpa using this
    have HA := Lib.hid hA
    have HB := Lib.hid hB
    have HB0 := Lib.hid hb0
    have HE := Lib.hid he
    have HF := Lib.hid hf
    have HE' := Lib.hid he'
    have HF' := Lib.hid hf'
    clear hA hB hb0 he hf he' hf'
    clear ci HE HF HE' HF' HS
    go_enter Try.func19, Try.ntmps19
    go_wp2_with fail
    go_ret
    exact ⟨by rw [H0.out]; rfl, HB0.out⟩
  obtain rfl : ai = bi := ci
  have gi : (ai == ai) = true := by simp
  by_cases ch : ah = bh
  rotate_left
  · have gh : (ah.toList == bh.toList) = false := by rw [beq_eq_false_iff_ne]; exact fun e => ch (toList_inj e)
    have H0 : Hid (sameStmt t u = false) := by unfold Hid; rw [HS.out, gh]; simp
    have hb0 : Below W.heap.size W ((W.alloc (.cells #[.int .i64 ai, .string ah, .string am, .int .i64 aek, .int .i64 aen, .string aeg, .slice aeA ael aec, .int .i64 afk, .int .i64 afn, .string afg, .slice afA afl afc] 45)).alloc (.cells #[.int .i64 ai, .string bh, .string bm, .int .i64 bek, .int .i64 ben, .string beg, .slice beA bel bec, .int .i64 bfk, .int .i64 bfn, .string bfg, .slice bfA bfl bfc] 45)) := by go_grown
    have hA : Blk ((W.alloc (.cells #[.int .i64 ai, .string ah, .string am, .int .i64 aek, .int .i64 aen, .string aeg, .slice aeA ael aec, .int .i64 afk, .int .i64 afn, .string afg, .slice afA afl afc] 45)).alloc (.cells #[.int .i64 ai, .string bh, .string bm, .int .i64 bek, .int .i64 ben, .string beg, .slice beA bel bec, .int .i64 bfk, .int .i64 bfn, .string bfg, .slice bfA bfl bfc] 45)) W.heap.size 45 [.int .i64 ai, .string ah, .string am, .int .i64 aek, .int .i64 aen, .string aeg, .slice aeA ael aec, .int .i64 afk, .int .i64 afn, .string afg, .slice afA afl afc] := (Blk.alloc_ W 45 [.int .i64 ai, .string ah, .string am, .int .i64 aek, .int .i64 aen, .string aeg, .slice aeA ael aec, .int .i64 afk, .int .i64 afn, .string afg, .slice afA afl afc]).alloc _
    have hB : Blk ((W.alloc (.cells #[.int .i64 ai, .string ah, .string am, .int .i64 aek, .int .i64 aen, .string aeg, .slice aeA ael aec, .int .i64 afk, .int .i64 afn, .string afg, .slice afA afl afc] 45)).alloc (.cells #[.int .i64 ai, .string bh, .string bm, .int .i64 bek, .int .i64 ben, .string beg, .slice beA bel bec, .int .i64 bfk, .int .i64 bfn, .string bfg, .slice bfA bfl bfc] 45)) (W.heap.size + 1) 45 [.int .i64 ai, .string bh, .string bm, .int .i64 bek, .int .i64 ben, .string beg, .slice beA bel bec, .int .i64 bfk, .int .i64 bfn, .string bfg, .slice bfA bfl bfc] := by
      have := Blk.alloc_ (W.alloc (.cells #[.int .i64 ai, .string ah, .string am, .int .i64 aek, .int .i64 aen, .string aeg, .slice aeA ael aec, .int .i64 afk, .int .i64 afn, .string afg, .slice afA afl afc] 45)) 45 [.int .i64 ai, .string bh, .string bm, .int .i64 bek, .int .i64 ben, .string beg, .slice beA bel bec, .int .i64 bfk, .int .i64 bfn, .string bfg, .slice bfA bfl bfc]
      simpa using this
    have HA := Lib.hid hA
    have HB := Lib.hid hB
    have HB0 := Lib.hid hb0
    have HE := Lib.hid he
    have HF := Lib.hid hf
    have HE' := Lib.hid he'
    have HF' := Lib.hid hf'
    clear hA hB hb0 he hf he' hf'
    clear ch HE HF HE' HF' HS
    go_enter Try.func19, Try.ntmps19
    go_wp2_with fail
    go_ret
    exact ⟨by rw [H0.out]; rfl, HB0.out⟩
  obtain rfl : ah = bh := ch
  have gh : (ah.toList == ah.toList) = true := by simp
  by_cases cm : am = bm
  rotate_left
  · have gm : (am.toList == bm.toList) = false := by rw [beq_eq_false_iff_ne]; exact fun e => cm (toList_inj e)
    have H0 : Hid (sameStmt t u = false) := by unfold Hid; rw [HS.out, gm]; simp
    have hb0 : Below W.heap.size W ((W.alloc (.cells #[.int .i64 ai, .string ah, .string am, .int .i64 aek, .int .i64 aen, .string aeg, .slice aeA ael aec, .int .i64 afk, .int .i64 afn, .string afg, .slice afA afl afc] 45)).alloc (.cells #[.int .i64 ai, .string ah, .string bm, .int .i64 bek, .int .i64 ben, .string beg, .slice beA bel bec, .int .i64 bfk, .int .i64 bfn, .string bfg, .slice bfA bfl bfc] 45)) := by go_grown
    have hA : Blk ((W.alloc (.cells #[.int .i64 ai, .string ah, .string am, .int .i64 aek, .int .i64 aen, .string aeg, .slice aeA ael aec, .int .i64 afk, .int .i64 afn, .string afg, .slice afA afl afc] 45)).alloc (.cells #[.int .i64 ai, .string ah, .string bm, .int .i64 bek, .int .i64 ben, .string beg, .slice beA bel bec, .int .i64 bfk, .int .i64 bfn, .string bfg, .slice bfA bfl bfc] 45)) W.heap.size 45 [.int .i64 ai, .string ah, .string am, .int .i64 aek, .int .i64 aen, .string aeg, .slice aeA ael aec, .int .i64 afk, .int .i64 afn, .string afg, .slice afA afl afc] := (Blk.alloc_ W 45 [.int .i64 ai, .string ah, .string am, .int .i64 aek, .int .i64 aen, .string aeg, .slice aeA ael aec, .int .i64 afk, .int .i64 afn, .string afg, .slice afA afl afc]).alloc _
    have hB : Blk ((W.alloc (.cells #[.int .i64 ai, .string ah, .string am, .int .i64 aek, .int .i64 aen, .string aeg, .slice aeA ael aec, .int .i64 afk, .int .i64 afn, .string afg, .slice afA afl afc] 45)).alloc (.cells #[.int .i64 ai, .string ah, .string bm, .int .i64 bek, .int .i64 ben, .string beg, .slice beA bel bec, .int .i64 bfk, .int .i64 bfn, .string bfg, .slice bfA bfl bfc] 45)) (W.heap.size + 1) 45 [.int .i64 ai, .string ah, .string bm, .int .i64 bek, .int .i64 ben, .string beg, .slice beA bel bec, .int .i64 bfk, .int .i64 bfn, .string bfg, .slice bfA bfl bfc] := by
      have := Blk.alloc_ (W.alloc (.cells #[.int .i64 ai, .string ah, .string am, .int .i64 aek, .int .i64 aen, .string aeg, .slice aeA ael aec, .int .i64 afk, .int .i64 afn, .string afg, .slice afA afl afc] 45)) 45 [.int .i64 ai, .string ah, .string bm, .int .i64 bek, .int .i64 ben, .string beg, .slice beA bel bec, .int .i64 bfk, .int .i64 bfn, .string bfg, .slice bfA bfl bfc]
      simpa using this
    have HA := Lib.hid hA
    have HB := Lib.hid hB
    have HB0 := Lib.hid hb0
    have HE := Lib.hid he
    have HF := Lib.hid hf
    have HE' := Lib.hid he'
    have HF' := Lib.hid hf'
    clear hA hB hb0 he hf he' hf'
    clear cm HE HF HE' HF' HS
    go_enter Try.func19, Try.ntmps19
    go_wp2_with fail
    go_ret
    exact ⟨by rw [H0.out]; rfl, HB0.out⟩
  obtain rfl : am = bm := cm
  have gm : (am.toList == am.toList) = true := by simp
  have hb0 : Below W.heap.size W ((W.alloc (.cells #[.int .i64 ai, .string ah, .string am, .int .i64 aek, .int .i64 aen, .string aeg, .slice aeA ael aec, .int .i64 afk, .int .i64 afn, .string afg, .slice afA afl afc] 45)).alloc (.cells #[.int .i64 ai, .string ah, .string am, .int .i64 bek, .int .i64 ben, .string beg, .slice beA bel bec, .int .i64 bfk, .int .i64 bfn, .string bfg, .slice bfA bfl bfc] 45)) := by go_grown
  have hA : Blk ((W.alloc (.cells #[.int .i64 ai, .string ah, .string am, .int .i64 aek, .int .i64 aen, .string aeg, .slice aeA ael aec, .int .i64 afk, .int .i64 afn, .string afg, .slice afA afl afc] 45)).alloc (.cells #[.int .i64 ai, .string ah, .string am, .int .i64 bek, .int .i64 ben, .string beg, .slice beA bel bec, .int .i64 bfk, .int .i64 bfn, .string bfg, .slice bfA bfl bfc] 45)) W.heap.size 45 [.int .i64 ai, .string ah, .string am, .int .i64 aek, .int .i64 aen, .string aeg, .slice aeA ael aec, .int .i64 afk, .int .i64 afn, .string afg, .slice afA afl afc] := (Blk.alloc_ W 45 [.int .i64 ai, .string ah, .string am, .int .i64 aek, .int .i64 aen, .string aeg, .slice aeA ael aec, .int .i64 afk, .int .i64 afn, .string afg, .slice afA afl afc]).alloc _
  have hB : Blk ((W.alloc (.cells #[.int .i64 ai, .string ah, .string am, .int .i64 aek, .int .i64 aen, .string aeg, .slice aeA ael aec, .int .i64 afk, .int .i64 afn, .string afg, .slice afA afl afc] 45)).alloc (.cells #[.int .i64 ai, .string ah, .string am, .int .i64 bek, .int .i64 ben, .string beg, .slice beA bel bec, .int .i64 bfk, .int .i64 bfn, .string bfg, .slice bfA bfl bfc] 45)) (W.heap.size + 1) 45 [.int .i64 ai, .string ah, .string am, .int .i64 bek, .int .i64 ben, .string beg, .slice beA bel bec, .int .i64 bfk, .int .i64 bfn, .string bfg, .slice bfA bfl bfc] := by
    have := Blk.alloc_ (W.alloc (.cells #[.int .i64 ai, .string ah, .string am, .int .i64 aek, .int .i64 aen, .string aeg, .slice aeA ael aec, .int .i64 afk, .int .i64 afn, .string afg, .slice afA afl afc] 45)) 45 [.int .i64 ai, .string ah, .string am, .int .i64 bek, .int .i64 ben, .string beg, .slice beA bel bec, .int .i64 bfk, .int .i64 bfn, .string bfg, .slice bfA bfl bfc]
    simpa using this
  have HA := Lib.hid hA
  have HB := Lib.hid hB
  have HB0 := Lib.hid hb0
  have HE := Lib.hid he
  have HF := Lib.hid hf
  have HE' := Lib.hid he'
  have HF' := Lib.hid hf'
  clear hA hB hb0 he hf he' hf'
  have HS2 : Hid (sameStmt t u = (exEq t.e u.e && exEq t.f u.f)) := by unfold Hid; rw [HS.out, gi, gh, gm]; simp
  clear HS
  have CE := fun W' (k : Below W.heap.size W W') => implExprV (HE.out.below k) (HE'.out.below k)
  have CF := fun W' (k : Below W.heap.size W W') => implExprV (HF.out.below k) (HF'.out.below k)
  have hs := HS2.out
  unfold sameExpr at CE CF
  generalize exEq t.e u.e = be at *
  generalize exEq t.f u.f = bf at *
  generalize sameStmt t u = sm at *
  subst hs
  have HCE := Lib.hid CE
  have HCF := Lib.hid CF
  clear CE CF HE HF HE' HF' HS2
  cases be with
  | false =>
    go_enter Try.func19, Try.ntmps19
    go_wp2_with fail
    generalize (W.alloc (.cells #[.int .i64 ai, .string ah, .string am, .int .i64 aek, .int .i64 aen, .string aeg, .slice aeA ael aec, .int .i64 afk, .int .i64 afn, .string afg, .slice afA afl afc] 45)).alloc (.cells #[.int .i64 ai, .string ah, .string am, .int .i64 bek, .int .i64 ben, .string beg, .slice beA bel bec, .int .i64 bfk, .int .i64 bfn, .string bfg, .slice bfA bfl bfc] 45) = w0 at *
    refine (HCE.out w0 HB0.out).mono ?_
    rintro e w1 ⟨rfl, hb1⟩
    have HB1 : Hid (Below W.heap.size W w1) := HB0.out.trans (hb1.mono HB0.out.size)
    clear hb1
    go_wp2_with fail
    go_ret
    exact ⟨rfl, HB1.out⟩
  | true =>
    go_enter Try.func19, Try.ntmps19
    go_wp2_with fail
    generalize (W.alloc (.cells #[.int .i64 ai, .string ah, .string am, .int .i64 aek, .int .i64 aen, .string aeg, .slice aeA ael aec, .int .i64 afk, .int .i64 afn, .string afg, .slice afA afl afc] 45)).alloc (.cells #[.int .i64 ai, .string ah, .string am, .int .i64 bek, .int .i64 ben, .string beg, .slice beA bel bec, .int .i64 bfk, .int .i64 bfn, .string bfg, .slice bfA bfl bfc] 45) = w0 at *
    refine (HCE.out w0 HB0.out).mono ?_
    rintro e w1 ⟨rfl, hb1⟩
    have HB1 : Hid (Below W.heap.size W w1) := HB0.out.trans (hb1.mono HB0.out.size)
    have hA1 := HA.out.below hb1 HA.out.lt
    have hB1 := HB.out.below hb1 HB.out.lt
    have q7 := hA1.cell 7
    have q8 := hA1.cell 8
    have q9 := hA1.cell 9
    have q10 := hA1.cell 10
    simp only [List.getElem?_cons_zero, List.getElem?_cons_succ] at q7 q8 q9 q10
    have r7 := hB1.cell 7
    have r8 := hB1.cell 8
    have r9 := hB1.cell 9
    have r10 := hB1.cell 10
    simp only [List.getElem?_cons_zero, List.getElem?_cons_succ] at r7 r8 r9 r10
    clear hb1 hA1 hB1
    go_wp2_with fail
    refine (HCF.out w1 HB1.out).mono ?_
    rintro e w2 ⟨rfl, hb2⟩
    have HB2 : Hid (Below W.heap.size W w2) := HB1.out.trans (hb2.mono HB1.out.size)
    clear hb2
    go_wp2_with fail
    go_ret
    exact ⟨by simp, HB2.out⟩

end Go.Proofs.Ytfjmjlpobbjjdaa
