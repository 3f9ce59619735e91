/- The walks of FnExactStmtSame. -/
import Derived.Test.YtfjmjlpobbjjdaaStT
import Derived.Test.YtfjmjlpobbjjdaaStE
import Derived.Deep.RegionWith
import Derived.Deep.RegionHeld3
namespace Go.Proofs.Ytfjmjlpobbjjdaa
open Go.RowKit Ilp
set_option linter.unusedVariables false

structure StStmt (w W : World) (ai : Int) (ah am : ByteArray) (aek aen : Int) (aeg : ByteArray) (aeA : Option Addr) (ael aec : Nat) (afk afn : Int) (afg : ByteArray) (afA : Option Addr) (afl afc : Nat) (bi : Int) (bh bm : ByteArray) (bek ben : Int) (beg : ByteArray) (beA : Option Addr) (bel bec : Nat) (bfk bfn : Int) (bfg : ByteArray) (bfA : Option Addr) (bfl bfc : Nat) (t u : StmtT) : Prop where
  ba : Blk W w.heap.size 41 [.int .i64 ai, .string ah, .string am, .int .i64 aek, .int .i64 aen, .string aeg, .slice aeA ael aec, .int .i64 afk, .int .i64 afn, .string afg, .slice afA afl afc]
  bb : Blk W (w.heap.size + 1) 41 [.int .i64 bi, .string bh, .string bm, .int .i64 bek, .int .i64 ben, .string beg, .slice beA bel bec, .int .i64 bfk, .int .i64 bfn, .string bfg, .slice bfA bfl bfc]
  ka : IsSV W [.int .i64 ai, .string ah, .string am, .int .i64 aek, .int .i64 aen, .string aeg, .slice aeA ael aec, .int .i64 afk, .int .i64 afn, .string afg, .slice afA afl afc] t
  kb : IsSV W [.int .i64 bi, .string bh, .string bm, .int .i64 bek, .int .i64 ben, .string beg, .slice beA bel bec, .int .i64 bfk, .int .i64 bfn, .string bfg, .slice bfA bfl bfc] u
  be : Below w.heap.size w W
theorem StStmt.next {w W W2 : World} {ai : Int} {ah am : ByteArray} {aek aen : Int} {aeg : ByteArray} {aeA : Option Addr} {ael aec : Nat} {afk afn : Int} {afg : ByteArray} {afA : Option Addr} {afl afc : Nat} {bi : Int} {bh bm : ByteArray} {bek ben : Int} {beg : ByteArray} {beA : Option Addr} {bel bec : Nat} {bfk bfn : Int} {bfg : ByteArray} {bfA : Option Addr} {bfl bfc : Nat} {t u : StmtT} (h : StStmt w W ai ah am aek aen aeg aeA ael aec afk afn afg afA afl afc bi bh bm bek ben beg beA bel bec bfk bfn bfg bfA bfl bfc t u) (hb : Below W.heap.size W W2) : StStmt w W2 ai ah am aek aen aeg aeA ael aec afk afn afg afA afl afc bi bh bm bek ben beg beA bel bec bfk bfn bfg bfA bfl bfc t u :=
  ⟨h.ba.below hb h.ba.lt, h.bb.below hb h.bb.lt, h.ka.below hb, h.kb.below hb, h.be.trans (hb.mono h.be.size)⟩
theorem blkStmt_cells {W : World} {B : Nat} {T : TypeId} {v0 v1 v2 v3 v4 v5 v6 v7 v8 v9 v10 : Value} (h : Blk W B T [v0, v1, v2, v3, v4, v5, v6, v7, v8, v9, v10]) : W.cell? ⟨B, 0, none⟩ = some (v0) ∧ W.cell? ⟨B, 1, none⟩ = some (v1) ∧ W.cell? ⟨B, 2, none⟩ = some (v2) ∧ W.cell? ⟨B, 3, none⟩ = some (v3) ∧ W.cell? ⟨B, 4, none⟩ = some (v4) ∧ W.cell? ⟨B, 5, none⟩ = some (v5) ∧ W.cell? ⟨B, 6, none⟩ = some (v6) ∧ W.cell? ⟨B, 7, none⟩ = some (v7) ∧ W.cell? ⟨B, 8, none⟩ = some (v8) ∧ W.cell? ⟨B, 9, none⟩ = some (v9) ∧ W.cell? ⟨B, 10, none⟩ = some (v10) :=
  ⟨by have := h.cell 0; simpa using this, by have := h.cell 1; simpa using this, by have := h.cell 2; simpa using this, by have := h.cell 3; simpa using this, by have := h.cell 4; simpa using this, by have := h.cell 5; simpa using this, by have := h.cell 6; simpa using this, by have := h.cell 7; simpa using this, by have := h.cell 8; simpa using this, by have := h.cell 9; simpa using this, by have := h.cell 10; simpa using this⟩
set_option maxHeartbeats 8000000 in
set_option maxRecDepth 20000 in
theorem law_FnExactStmtSame (x0 : Array Value) (t : StmtT) (x1 : Array Value) (u : StmtT) (w : World) (h0 : IsStmt w x0 t) (h1 : IsStmt w x1 u) :
    Calls Try.prog 5 #[.agg x0, .agg x1] w fun e w' => e = .returned (.bool true) ∧ Below w.heap.size w w' := by
  obtain ⟨ai, ah, am, aek, aen, aeg, aeA, ael, aec, afk, afn, afg, afA, afl, afc, rfl, ha⟩ := isStmt_open h0
  obtain ⟨bi, bh, bm, bek, ben, beg, beA, bel, bec, bfk, bfn, bfg, bfA, bfl, bfc, rfl, hb⟩ := isStmt_open h1
  clear h0 h1
  have hst : StStmt w ((w.alloc (.cells #[.int .i64 ai, .string ah, .string am, .int .i64 aek, .int .i64 aen, .string aeg, .slice aeA ael aec, .int .i64 afk, .int .i64 afn, .string afg, .slice afA afl afc] 41)).alloc (.cells #[.int .i64 bi, .string bh, .string bm, .int .i64 bek, .int .i64 ben, .string beg, .slice beA bel bec, .int .i64 bfk, .int .i64 bfn, .string bfg, .slice bfA bfl bfc] 41)) ai ah am aek aen aeg aeA ael aec afk afn afg afA afl afc bi bh bm bek ben beg beA bel bec bfk bfn bfg bfA bfl bfc t u := by
    have hbe : Below w.heap.size w ((w.alloc (.cells #[.int .i64 ai, .string ah, .string am, .int .i64 aek, .int .i64 aen, .string aeg, .slice aeA ael aec, .int .i64 afk, .int .i64 afn, .string afg, .slice afA afl afc] 41)).alloc (.cells #[.int .i64 bi, .string bh, .string bm, .int .i64 bek, .int .i64 ben, .string beg, .slice beA bel bec, .int .i64 bfk, .int .i64 bfn, .string bfg, .slice bfA bfl bfc] 41)) := by go_grown
    refine ⟨(Blk.alloc_ w 41 [.int .i64 ai, .string ah, .string am, .int .i64 aek, .int .i64 aen, .string aeg, .slice aeA ael aec, .int .i64 afk, .int .i64 afn, .string afg, .slice afA afl afc]).alloc _, ?_, ha.below hbe, hb.below hbe, hbe⟩
    have := Blk.alloc_ (w.alloc (.cells #[.int .i64 ai, .string ah, .string am, .int .i64 aek, .int .i64 aen, .string aeg, .slice aeA ael aec, .int .i64 afk, .int .i64 afn, .string afg, .slice afA afl afc] 41)) 41 [.int .i64 bi, .string bh, .string bm, .int .i64 bek, .int .i64 ben, .string beg, .slice beA bel bec, .int .i64 bfk, .int .i64 bfn, .string bfg, .slice bfA bfl bfc]
    simpa using this
  have HST := Lib.hid hst
  clear hst ha hb
  go_enter Try.func5, Try.ntmps5
  go_wp2_with fail
  generalize (w.alloc (.cells #[.int .i64 ai, .string ah, .string am, .int .i64 aek, .int .i64 aen, .string aeg, .slice aeA ael aec, .int .i64 afk, .int .i64 afn, .string afg, .slice afA afl afc] 41)).alloc (.cells #[.int .i64 bi, .string bh, .string bm, .int .i64 bek, .int .i64 ben, .string beg, .slice beA bel bec, .int .i64 bfk, .int .i64 bfn, .string bfg, .slice bfA bfl bfc] 41) = w0 at *
  refine (szStmtV ai ah am aek aen aeg aeA ael aec afk afn afg afA afl afc t 1048576 w0 HST.out.ka (by omega) (by omega)).mono ?_
  rintro e w1 ⟨r, rfl, hr1, hb1⟩
  have S1 := Lib.hid (HST.out.next hb1)
  by_cases hneg : r < 0
  · have HB1 := Lib.hid S1.out.be
    clear hr1 hb1
    go_wp2_with fail
    go_ret
    exact ⟨rfl, HB1.out⟩
  · have hwt : Hid (wtStmt t ≤ 1048576) := by unfold Hid; omega
    have hr0 : 0 ≤ r := by omega
    have hr2 : r ≤ 1048576 := by omega
    have q0 := S1.out.bb.cell 0
    have q1 := S1.out.bb.cell 1
    have q2 := S1.out.bb.cell 2
    have q3 := S1.out.bb.cell 3
    have q4 := S1.out.bb.cell 4
    have q5 := S1.out.bb.cell 5
    have q6 := S1.out.bb.cell 6
    have q7 := S1.out.bb.cell 7
    have q8 := S1.out.bb.cell 8
    have q9 := S1.out.bb.cell 9
    have q10 := S1.out.bb.cell 10
    simp only [List.getElem?_cons_zero, List.getElem?_cons_succ] at q0 q1 q2 q3 q4 q5 q6 q7 q8 q9 q10
    clear hr1 hb1
    go_wp2_with fail
    refine (szStmtV bi bh bm bek ben beg beA bel bec bfk bfn bfg bfA bfl bfc u r w1 S1.out.kb hr0 hr2).mono ?_
    rintro e w2 ⟨r', rfl, hr3, hb2⟩
    have S2 := Lib.hid (S1.out.next hb2)
    by_cases hneg' : r' < 0
    · have HB2 := Lib.hid S2.out.be
      clear hr3 hb2
      go_wp2_with fail
      go_ret
      exact ⟨rfl, HB2.out⟩
    · have hwu : Hid (wtStmt u ≤ 1048576) := by unfold Hid; omega
      clear hr3 hb2 q0 q1 q2 q3 q4 q5 q6 q7 q8 q9 q10 hr0 hr2
      have S2d := Lib.hid (S2.out.next ((Below.refl w2.heap.size w2).drew))
      go_wp2_with fail
      go_region_held3 (fun W => (W.cell? ⟨w.heap.size, 0, none⟩ = some (.int .i64 ai) ∧ W.cell? ⟨w.heap.size, 1, none⟩ = some (.string ah) ∧ W.cell? ⟨w.heap.size, 2, none⟩ = some (.string am) ∧ W.cell? ⟨w.heap.size, 3, none⟩ = some (.int .i64 aek) ∧ W.cell? ⟨w.heap.size, 4, none⟩ = some (.int .i64 aen) ∧ W.cell? ⟨w.heap.size, 5, none⟩ = some (.string aeg) ∧ W.cell? ⟨w.heap.size, 6, none⟩ = some (.slice aeA ael aec) ∧ W.cell? ⟨w.heap.size, 7, none⟩ = some (.int .i64 afk) ∧ W.cell? ⟨w.heap.size, 8, none⟩ = some (.int .i64 afn) ∧ W.cell? ⟨w.heap.size, 9, none⟩ = some (.string afg) ∧ W.cell? ⟨w.heap.size, 10, none⟩ = some (.slice afA afl afc)) ∧ (W.cell? ⟨(w.heap.size + 1), 0, none⟩ = some (.int .i64 bi) ∧ W.cell? ⟨(w.heap.size + 1), 1, none⟩ = some (.string bh) ∧ W.cell? ⟨(w.heap.size + 1), 2, none⟩ = some (.string bm) ∧ W.cell? ⟨(w.heap.size + 1), 3, none⟩ = some (.int .i64 bek) ∧ W.cell? ⟨(w.heap.size + 1), 4, none⟩ = some (.int .i64 ben) ∧ W.cell? ⟨(w.heap.size + 1), 5, none⟩ = some (.string beg) ∧ W.cell? ⟨(w.heap.size + 1), 6, none⟩ = some (.slice beA bel bec) ∧ W.cell? ⟨(w.heap.size + 1), 7, none⟩ = some (.int .i64 bfk) ∧ W.cell? ⟨(w.heap.size + 1), 8, none⟩ = some (.int .i64 bfn) ∧ W.cell? ⟨(w.heap.size + 1), 9, none⟩ = some (.string bfg) ∧ W.cell? ⟨(w.heap.size + 1), 10, none⟩ = some (.slice bfA bfl bfc)))
        ((first | exact ⟨blkStmt_cells S6.out.ba, blkStmt_cells S6.out.bb⟩ | exact ⟨blkStmt_cells S5.out.ba, blkStmt_cells S5.out.bb⟩ | exact ⟨blkStmt_cells S4.out.ba, blkStmt_cells S4.out.bb⟩ | exact ⟨blkStmt_cells S2d.out.ba, blkStmt_cells S2d.out.bb⟩))
        ((first
          | (go_at_call_of 18 aeA
             refine (toStmtV ai ah am aek aen aeg aeA ael aec afk afn afg afA afl afc t _ S2d.out.ka hwt.out).mono ?_
             rintro e w4 ⟨peA, pec, pfA, pfc, rfl, kp4, hb4⟩
             have S4 := Lib.hid (S2d.out.next hb4)
             have KP4 := Lib.hid kp4
             clear hb4 kp4)
          | (go_at_call_of 18 beA
             refine (toStmtV bi bh bm bek ben beg beA bel bec bfk bfn bfg bfA bfl bfc u _ S4.out.kb hwu.out).mono ?_
             rintro e w5 ⟨reA, rec, rfA, rfc, rfl, kr5, hb5⟩
             have S5 := Lib.hid (S4.out.next hb5)
             have KP5 := Lib.hid (KP4.out.below hb5)
             have KR5 := Lib.hid kr5
             clear hb5 kr5)
          | (go_at_call 17
             refine (specStmtV KP5.out KR5.out).mono ?_
             rintro e w6 ⟨rfl, hb6⟩
             have S6 := Lib.hid (S5.out.next hb6)
             clear hb6)))
      clear S2d S4 S5 KP4 KP5 KR5 S2 S1 HST
      have HSAME := Lib.hid (rfl : sameStmt t u = sameStmt t u)
      generalize hsm : sameStmt t u = same at *
      have HSM := Lib.hid hsm
      clear HSAME hsm
      have a20 := S6.out.ba.cell 0
      have a21 := S6.out.ba.cell 1
      have a22 := S6.out.ba.cell 2
      have a23 := S6.out.ba.cell 3
      have a24 := S6.out.ba.cell 4
      have a25 := S6.out.ba.cell 5
      have a26 := S6.out.ba.cell 6
      have a27 := S6.out.ba.cell 7
      have a28 := S6.out.ba.cell 8
      have a29 := S6.out.ba.cell 9
      have a210 := S6.out.ba.cell 10
      simp only [List.getElem?_cons_zero, List.getElem?_cons_succ] at a20 a21 a22 a23 a24 a25 a26 a27 a28 a29 a210
      go_wp2_with fail
      refine (toStmtV ai ah am aek aen aeg aeA ael aec afk afn afg afA afl afc t w6 S6.out.ka hwt.out).mono ?_
      rintro e w7 ⟨peA, pec, pfA, pfc, rfl, kp, hb7⟩
      have S7 := Lib.hid (S6.out.next hb7)
      have S8 := Lib.hid (S7.out.next ((Below.refl w7.heap.size w7).alloc (Nat.le_refl _) (.cells #[.int .i64 ai, .string ah, .string am, .int .i64 aek, .int .i64 aen, .string aeg, .slice peA ael pec, .int .i64 afk, .int .i64 afn, .string afg, .slice pfA afl pfc] 45)))
      have X8 := Lib.hid (Blk.alloc_ w7 45 [.int .i64 ai, .string ah, .string am, .int .i64 aek, .int .i64 aen, .string aeg, .slice peA ael pec, .int .i64 afk, .int .i64 afn, .string afg, .slice pfA afl pfc])
      have KP8 := Lib.hid (kp.below ((Below.refl w7.heap.size w7).alloc (Nat.le_refl _) (.cells #[.int .i64 ai, .string ah, .string am, .int .i64 aek, .int .i64 aen, .string aeg, .slice peA ael pec, .int .i64 afk, .int .i64 afn, .string afg, .slice pfA afl pfc] 45)))
      have b20 := S8.out.bb.cell 0
      have b21 := S8.out.bb.cell 1
      have b22 := S8.out.bb.cell 2
      have b23 := S8.out.bb.cell 3
      have b24 := S8.out.bb.cell 4
      have b25 := S8.out.bb.cell 5
      have b26 := S8.out.bb.cell 6
      have b27 := S8.out.bb.cell 7
      have b28 := S8.out.bb.cell 8
      have b29 := S8.out.bb.cell 9
      have b210 := S8.out.bb.cell 10
      simp only [List.getElem?_cons_zero, List.getElem?_cons_succ] at b20 b21 b22 b23 b24 b25 b26 b27 b28 b29 b210
      clear kp hb7 a20 a21 a22 a23 a24 a25 a26 a27 a28 a29 a210
      go_wp2_with fail
      change Hid (Blk (w7.alloc (.cells #[.int .i64 ai, .string ah, .string am, .int .i64 aek, .int .i64 aen, .string aeg, .slice peA ael pec, .int .i64 afk, .int .i64 afn, .string afg, .slice pfA afl pfc] 45)) w7.heap.size 45 [.int .i64 ai, .string ah, .string am, .int .i64 aek, .int .i64 aen, .string aeg, .slice peA ael pec, .int .i64 afk, .int .i64 afn, .string afg, .slice pfA afl pfc]) at X8
      generalize w7.alloc (.cells #[.int .i64 ai, .string ah, .string am, .int .i64 aek, .int .i64 aen, .string aeg, .slice peA ael pec, .int .i64 afk, .int .i64 afn, .string afg, .slice pfA afl pfc] 45) = w8 at *
      generalize w7.heap.size = x7 at *
      refine (toStmtV bi bh bm bek ben beg beA bel bec bfk bfn bfg bfA bfl bfc u w8 S8.out.kb hwu.out).mono ?_
      rintro e w9 ⟨reA, rec, rfA, rfc, rfl, kr, hb9⟩
      have S9 := Lib.hid (S8.out.next hb9)
      have X9 := Lib.hid (X8.out.below hb9 X8.out.lt)
      have KP9 := Lib.hid (KP8.out.below hb9)
      have S10 := Lib.hid (S9.out.next ((Below.refl w9.heap.size w9).alloc (Nat.le_refl _) (.cells #[.int .i64 bi, .string bh, .string bm, .int .i64 bek, .int .i64 ben, .string beg, .slice reA bel rec, .int .i64 bfk, .int .i64 bfn, .string bfg, .slice rfA bfl rfc] 45)))
      have X10 := Lib.hid (X9.out.alloc (.cells #[.int .i64 bi, .string bh, .string bm, .int .i64 bek, .int .i64 ben, .string beg, .slice reA bel rec, .int .i64 bfk, .int .i64 bfn, .string bfg, .slice rfA bfl rfc] 45))
      have Y10 := Lib.hid (Blk.alloc_ w9 45 [.int .i64 bi, .string bh, .string bm, .int .i64 bek, .int .i64 ben, .string beg, .slice reA bel rec, .int .i64 bfk, .int .i64 bfn, .string bfg, .slice rfA bfl rfc])
      have KP10 := Lib.hid (KP9.out.below ((Below.refl w9.heap.size w9).alloc (Nat.le_refl _) (.cells #[.int .i64 bi, .string bh, .string bm, .int .i64 bek, .int .i64 ben, .string beg, .slice reA bel rec, .int .i64 bfk, .int .i64 bfn, .string bfg, .slice rfA bfl rfc] 45)))
      have KR10 := Lib.hid (kr.below ((Below.refl w9.heap.size w9).alloc (Nat.le_refl _) (.cells #[.int .i64 bi, .string bh, .string bm, .int .i64 bek, .int .i64 ben, .string beg, .slice reA bel rec, .int .i64 bfk, .int .i64 bfn, .string bfg, .slice rfA bfl rfc] 45)))
      have c00 := X10.out.cell 0
      have c01 := X10.out.cell 1
      have c02 := X10.out.cell 2
      have c03 := X10.out.cell 3
      have c04 := X10.out.cell 4
      have c05 := X10.out.cell 5
      have c06 := X10.out.cell 6
      have c07 := X10.out.cell 7
      have c08 := X10.out.cell 8
      have c09 := X10.out.cell 9
      have c010 := X10.out.cell 10
      simp only [List.getElem?_cons_zero, List.getElem?_cons_succ] at c00 c01 c02 c03 c04 c05 c06 c07 c08 c09 c010
      clear kr hb9 S7 S8 S9 X8 X9 KP8 KP9 b20 b21 b22 b23 b24 b25 b26 b27 b28 b29 b210
      go_wp2_with fail
      change Hid (Blk (w9.alloc (.cells #[.int .i64 bi, .string bh, .string bm, .int .i64 bek, .int .i64 ben, .string beg, .slice reA bel rec, .int .i64 bfk, .int .i64 bfn, .string bfg, .slice rfA bfl rfc] 45)) w9.heap.size 45 [.int .i64 bi, .string bh, .string bm, .int .i64 bek, .int .i64 ben, .string beg, .slice reA bel rec, .int .i64 bfk, .int .i64 bfn, .string bfg, .slice rfA bfl rfc]) at Y10
      generalize w9.alloc (.cells #[.int .i64 bi, .string bh, .string bm, .int .i64 bek, .int .i64 ben, .string beg, .slice reA bel rec, .int .i64 bfk, .int .i64 bfn, .string bfg, .slice rfA bfl rfc] 45) = w10 at *
      generalize w9.heap.size = x9 at *
      refine (implStmtV KP10.out KR10.out).mono ?_
      rw [HSM.out]
      rintro e w11 ⟨rfl, hb11⟩
      have S11 := Lib.hid (S10.out.next hb11)
      have X11 := Lib.hid (X10.out.below hb11 X10.out.lt)
      have Y11 := Lib.hid (Y10.out.below hb11 Y10.out.lt)
      have KP11 := Lib.hid (KP10.out.below hb11)
      have KR11 := Lib.hid (KR10.out.below hb11)
      have hss : (same != same) = false := by simp
      have S11d := Lib.hid (S11.out.next ((Below.refl w11.heap.size w11).drew))
      have X11d := Lib.hid (X11.out.below ((Below.refl w11.heap.size w11).drew) X11.out.lt)
      have KP11d := Lib.hid (KP11.out.below ((Below.refl w11.heap.size w11).drew))
      clear hb11 S10 X10 Y10 KP10 KR10 c00 c01 c02 c03 c04 c05 c06 c07 c08 c09 c010
      go_wp2_with fail
      go_region_held3 (fun W => (W.cell? ⟨w.heap.size, 0, none⟩ = some (.int .i64 ai) ∧ W.cell? ⟨w.heap.size, 1, none⟩ = some (.string ah) ∧ W.cell? ⟨w.heap.size, 2, none⟩ = some (.string am) ∧ W.cell? ⟨w.heap.size, 3, none⟩ = some (.int .i64 aek) ∧ W.cell? ⟨w.heap.size, 4, none⟩ = some (.int .i64 aen) ∧ W.cell? ⟨w.heap.size, 5, none⟩ = some (.string aeg) ∧ W.cell? ⟨w.heap.size, 6, none⟩ = some (.slice aeA ael aec) ∧ W.cell? ⟨w.heap.size, 7, none⟩ = some (.int .i64 afk) ∧ W.cell? ⟨w.heap.size, 8, none⟩ = some (.int .i64 afn) ∧ W.cell? ⟨w.heap.size, 9, none⟩ = some (.string afg) ∧ W.cell? ⟨w.heap.size, 10, none⟩ = some (.slice afA afl afc)) ∧ (W.cell? ⟨x7, 0, none⟩ = some (.int .i64 ai) ∧ W.cell? ⟨x7, 1, none⟩ = some (.string ah) ∧ W.cell? ⟨x7, 2, none⟩ = some (.string am) ∧ W.cell? ⟨x7, 3, none⟩ = some (.int .i64 aek) ∧ W.cell? ⟨x7, 4, none⟩ = some (.int .i64 aen) ∧ W.cell? ⟨x7, 5, none⟩ = some (.string aeg) ∧ W.cell? ⟨x7, 6, none⟩ = some (.slice peA ael pec) ∧ W.cell? ⟨x7, 7, none⟩ = some (.int .i64 afk) ∧ W.cell? ⟨x7, 8, none⟩ = some (.int .i64 afn) ∧ W.cell? ⟨x7, 9, none⟩ = some (.string afg) ∧ W.cell? ⟨x7, 10, none⟩ = some (.slice pfA afl pfc)))
        ((first | exact ⟨blkStmt_cells S13.out.ba, blkStmt_cells X13.out⟩ | exact ⟨blkStmt_cells S12.out.ba, blkStmt_cells X12.out⟩ | exact ⟨blkStmt_cells S11d.out.ba, blkStmt_cells X11d.out⟩))
        ((first
          | (go_at_call 18
             refine (toStmtV ai ah am aek aen aeg aeA ael aec afk afn afg afA afl afc t _ S11d.out.ka hwt.out).mono ?_
             rintro e w12 ⟨zeA, zec, zfA, zfc, rfl, kz12, hb12⟩
             have S12 := Lib.hid (S11d.out.next hb12)
             have X12 := Lib.hid (X11d.out.below hb12 X11d.out.lt)
             have Y12 := Lib.hid (Y11.out.below (((Below.refl w11.heap.size w11).drew).trans hb12) Y11.out.lt)
             have KP12 := Lib.hid (KP11d.out.below hb12)
             have KR12 := Lib.hid (KR11.out.below (((Below.refl w11.heap.size w11).drew).trans hb12))
             have KZ12 := Lib.hid kz12
             clear hb12 kz12)
          | (go_at_call 20
             refine (eqStmtV KP12.out KZ12.out).mono ?_
             rintro e w13 ⟨rfl, hb13⟩
             have S13 := Lib.hid (S12.out.next hb13)
             have X13 := Lib.hid (X12.out.below hb13 X12.out.lt)
             have Y13 := Lib.hid (Y12.out.below hb13 Y12.out.lt)
             have KR13 := Lib.hid (KR12.out.below hb13)
             clear hb13)))
      clear S11 X11 Y11 KP11 KR11 S11d X11d KP11d S12 X12 Y12 KP12 KR12 KZ12 X13
      have S13d := Lib.hid (S13.out.next ((Below.refl w13.heap.size w13).drew))
      have Y13d := Lib.hid (Y13.out.below ((Below.refl w13.heap.size w13).drew) Y13.out.lt)
      have KR13d := Lib.hid (KR13.out.below ((Below.refl w13.heap.size w13).drew))
      go_wp2_with fail
      go_region_held3 (fun W => (W.cell? ⟨(w.heap.size + 1), 0, none⟩ = some (.int .i64 bi) ∧ W.cell? ⟨(w.heap.size + 1), 1, none⟩ = some (.string bh) ∧ W.cell? ⟨(w.heap.size + 1), 2, none⟩ = some (.string bm) ∧ W.cell? ⟨(w.heap.size + 1), 3, none⟩ = some (.int .i64 bek) ∧ W.cell? ⟨(w.heap.size + 1), 4, none⟩ = some (.int .i64 ben) ∧ W.cell? ⟨(w.heap.size + 1), 5, none⟩ = some (.string beg) ∧ W.cell? ⟨(w.heap.size + 1), 6, none⟩ = some (.slice beA bel bec) ∧ W.cell? ⟨(w.heap.size + 1), 7, none⟩ = some (.int .i64 bfk) ∧ W.cell? ⟨(w.heap.size + 1), 8, none⟩ = some (.int .i64 bfn) ∧ W.cell? ⟨(w.heap.size + 1), 9, none⟩ = some (.string bfg) ∧ W.cell? ⟨(w.heap.size + 1), 10, none⟩ = some (.slice bfA bfl bfc)) ∧ (W.cell? ⟨x9, 0, none⟩ = some (.int .i64 bi) ∧ W.cell? ⟨x9, 1, none⟩ = some (.string bh) ∧ W.cell? ⟨x9, 2, none⟩ = some (.string bm) ∧ W.cell? ⟨x9, 3, none⟩ = some (.int .i64 bek) ∧ W.cell? ⟨x9, 4, none⟩ = some (.int .i64 ben) ∧ W.cell? ⟨x9, 5, none⟩ = some (.string beg) ∧ W.cell? ⟨x9, 6, none⟩ = some (.slice reA bel rec) ∧ W.cell? ⟨x9, 7, none⟩ = some (.int .i64 bfk) ∧ W.cell? ⟨x9, 8, none⟩ = some (.int .i64 bfn) ∧ W.cell? ⟨x9, 9, none⟩ = some (.string bfg) ∧ W.cell? ⟨x9, 10, none⟩ = some (.slice rfA bfl rfc)))
        ((first | exact ⟨blkStmt_cells S15.out.bb, blkStmt_cells Y15.out⟩ | exact ⟨blkStmt_cells S14.out.bb, blkStmt_cells Y14.out⟩ | exact ⟨blkStmt_cells S13d.out.bb, blkStmt_cells Y13d.out⟩))
        ((first
          | (go_at_call 18
             refine (toStmtV bi bh bm bek ben beg beA bel bec bfk bfn bfg bfA bfl bfc u _ S13d.out.kb hwu.out).mono ?_
             rintro e w14 ⟨yeA, yec, yfA, yfc, rfl, ky14, hb14⟩
             have S14 := Lib.hid (S13d.out.next hb14)
             have Y14 := Lib.hid (Y13d.out.below hb14 Y13d.out.lt)
             have KR14 := Lib.hid (KR13d.out.below hb14)
             have KY14 := Lib.hid ky14
             clear hb14 ky14)
          | (go_at_call 20
             refine (eqStmtV KR14.out KY14.out).mono ?_
             rintro e w15 ⟨rfl, hb15⟩
             have S15 := Lib.hid (S14.out.next hb15)
             have Y15 := Lib.hid (Y14.out.below hb15 Y14.out.lt)
             clear hb15)))
      have HB15 := Lib.hid S15.out.be
      go_wp2_with fail
      go_ret
      exact ⟨rfl, HB15.out⟩

end Go.Proofs.Ytfjmjlpobbjjdaa
