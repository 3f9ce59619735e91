/- The walks of FnExactStmtSame. -/
import Derived.Test.YtfjmjlpobbjjdaaExV
namespace Go.Proofs.Ytfjmjlpobbjjdaa
open Go.RowKit Ilp
set_option linter.unusedVariables false

/-- What a Stmt is. -/
structure StmtT where
  i : Int
  h : ByteArray
  m : ByteArray
  e : ExprT
  f : ExprT
/-- These cells are this Stmt, in memory that stands. -/
def IsSV (W : World) (cs : List Value) (t : StmtT) : Prop := ∃ es fs, cs = .int .i64 t.i :: .string t.h :: .string t.m :: (es ++ fs) ∧ es.length = 4 ∧ IsEV W es t.e ∧ IsEV W fs t.f ∧ t.h.size ≤ maxLen ∧ t.m.size ≤ maxLen
theorem IsSV.below {W W' : World} {cs : List Value} {t : StmtT} (h : IsSV W cs t) (hb : Below W.heap.size W W') : IsSV W' cs t := by
  obtain ⟨es, fs, h1, h2, h3, h4, h5⟩ := h; exact ⟨es, fs, h1, h2, h3.below hb, h4.below hb, h5⟩
theorem IsSV.parts {W : World} {ai : Int} {ah am : ByteArray} {aek aen : Int} {aeg : ByteArray} {aeA : Option Addr} {ael aec : Nat} {afk afn : Int} {afg : ByteArray} {afA : Option Addr} {afl afc : Nat} {t : StmtT} (h : IsSV W [.int .i64 ai, .string ah, .string am, .int .i64 aek, .int .i64 aen, .string aeg, .slice aeA ael aec, .int .i64 afk, .int .i64 afn, .string afg, .slice afA afl afc] t) : ai = t.i ∧ ah = t.h ∧ am = t.m ∧ IsEV W [.int .i64 aek, .int .i64 aen, .string aeg, .slice aeA ael aec] t.e ∧ IsEV W [.int .i64 afk, .int .i64 afn, .string afg, .slice afA afl afc] t.f ∧ t.h.size ≤ maxLen ∧ t.m.size ≤ maxLen := by
  obtain ⟨es, fs, h1, h2, h3, h4, h5⟩ := h
  obtain ⟨x0, x1, x2, x3, rfl⟩ : ∃ x0 x1 x2 x3, es = [x0, x1, x2, x3] := by
    match es, h2 with
    | [x0, x1, x2, x3], _ => exact ⟨x0, x1, x2, x3, rfl⟩
  simp only [List.cons_append, List.nil_append, List.cons.injEq, Value.int.injEq, Value.string.injEq, true_and] at h1
  obtain ⟨rfl, rfl, rfl, rfl, rfl, rfl, rfl, rfl⟩ := h1
  exact ⟨rfl, rfl, rfl, h3, h4, h5⟩
theorem IsSV.mk {W : World} {ai : Int} {ah am : ByteArray} {aek aen : Int} {aeg : ByteArray} {aeA : Option Addr} {ael aec : Nat} {afk afn : Int} {afg : ByteArray} {afA : Option Addr} {afl afc : Nat} {t : StmtT} (qi : ai = t.i) (qh : ah = t.h) (qm : am = t.m) (he : IsEV W [.int .i64 aek, .int .i64 aen, .string aeg, .slice aeA ael aec] t.e) (hf : IsEV W [.int .i64 afk, .int .i64 afn, .string afg, .slice afA afl afc] t.f) (hl : t.h.size ≤ maxLen ∧ t.m.size ≤ maxLen) : IsSV W [.int .i64 ai, .string ah, .string am, .int .i64 aek, .int .i64 aen, .string aeg, .slice aeA ael aec, .int .i64 afk, .int .i64 afn, .string afg, .slice afA afl afc] t := by
  subst qi qh qm
  exact ⟨[.int .i64 aek, .int .i64 aen, .string aeg, .slice aeA ael aec], [.int .i64 afk, .int .i64 afn, .string afg, .slice afA afl afc], rfl, rfl, he, hf, hl⟩
theorem isEV_open {w : World} {cs : List Value} {t : ExprT} (h : IsEV w cs t) : ∃ (k n : Int) (g : ByteArray) (A : Option Addr) (l c : Nat), cs = [.int .i64 k, .int .i64 n, .string g, .slice A l c] := by
  obtain ⟨d, h⟩ := h
  cases d with
  | zero => exact h.elim
  | succ d => obtain ⟨A', c', e, _⟩ := h; exact ⟨_, _, _, _, _, _, e⟩
theorem toList_inj {a b : ByteArray} (h : a.toList = b.toList) : a = b := by
  rw [ByteArray.toList_eq, ByteArray.toList_eq] at h; exact ByteArray.ext (Array.ext' h)
/-- What came in. -/
def IsStmt (w : World) (a : Array Value) (t : StmtT) : Prop := IsSV w a.toList t
theorem isStmt_open {w : World} {x : Array Value} {t : StmtT} (h : IsStmt w x t) : ∃ (ai : Int) (ah am : ByteArray) (aek aen : Int) (aeg : ByteArray) (aeA : Option Addr) (ael aec : Nat) (afk afn : Int) (afg : ByteArray) (afA : Option Addr) (afl afc : Nat), x = #[.int .i64 ai, .string ah, .string am, .int .i64 aek, .int .i64 aen, .string aeg, .slice aeA ael aec, .int .i64 afk, .int .i64 afn, .string afg, .slice afA afl afc] ∧ IsSV w [.int .i64 ai, .string ah, .string am, .int .i64 aek, .int .i64 aen, .string aeg, .slice aeA ael aec, .int .i64 afk, .int .i64 afn, .string afg, .slice afA afl afc] t := by
  obtain ⟨es, fs, h1, h2, h3, h4, h5⟩ := h
  obtain ⟨ek, en, eg, eA, el, ec, rfl⟩ := isEV_open h3
  obtain ⟨fk, fn, fg, fA, fl, fc, rfl⟩ := isEV_open h4
  refine ⟨t.i, t.h, t.m, ek, en, eg, eA, el, ec, fk, fn, fg, fA, fl, fc, ?_, IsSV.mk rfl rfl rfl h3 h4 h5⟩
  apply Array.ext'; rw [h1]; rfl
open Go.ChangeShapes Go.WideShapes Go.Deep in
set_option maxRecDepth 20000 in
theorem stmt_open {H : Type} {enc : TypeId × Value → H} {W : World} {v : Value} {d : DataW H} {p : List MemPlace} {base : Nat} (hok : Value.okWide Try.prog W .any base 41 v) (h : DataW.Trod enc Try.prog W 0 (fun _ => true) true 41 v d p) : ∃ (a : Array Value) (z : StmtT), v = .agg a ∧ IsStmt W a z := by
  obtain ⟨cs, rfl, hsz⟩ := okWide_struct Try.underlying41 hok
  obtain ⟨fuel, hf⟩ := h
  have hC : Try.prog.cellsOf 41 = 11 := by kernel_rfl
  have c1 : Try.prog.cellsOf 3 = 1 := by kernel_rfl
  have c2 : Try.prog.cellsOf 9 = 1 := by kernel_rfl
  have c3 : Try.prog.cellsOf 24 = 4 := by kernel_rfl
  obtain ⟨ys, m, rfl, hy, hlen, hyl, hg⟩ := DataW.trod_struct Try.underlying41 hf
  rw [hC] at hlen
  obtain ⟨cs⟩ := cs
  simp only [Value.cells] at hlen hg hf
  obtain ⟨v0, v1, v2, v3, v4, v5, v6, v7, v8, v9, v10, rfl⟩ : ∃ v0 v1 v2 v3 v4 v5 v6 v7 v8 v9 v10, cs = [v0, v1, v2, v3, v4, v5, v6, v7, v8, v9, v10] := by
    match cs, hlen with
    | [v0, v1, v2, v3, v4, v5, v6, v7, v8, v9, v10], _ => exact ⟨v0, v1, v2, v3, v4, v5, v6, v7, v8, v9, v10, rfl⟩
  have g0 : DataW.trod enc Try.prog W 0 (fun _ => true) true m 3 (([v0, v1, v2, v3, v4, v5, v6, v7, v8, v9, v10].drop 0).take (Try.prog.cellsOf 3)) = ys[0]? := hg 0 _ rfl
  have g1 : DataW.trod enc Try.prog W 0 (fun _ => true) true m 9 (([v0, v1, v2, v3, v4, v5, v6, v7, v8, v9, v10].drop 1).take (Try.prog.cellsOf 9)) = ys[1]? := hg 1 _ rfl
  have g2 : DataW.trod enc Try.prog W 0 (fun _ => true) true m 9 (([v0, v1, v2, v3, v4, v5, v6, v7, v8, v9, v10].drop 2).take (Try.prog.cellsOf 9)) = ys[2]? := hg 2 _ rfl
  have g3 : DataW.trod enc Try.prog W 0 (fun _ => true) true m 24 (([v0, v1, v2, v3, v4, v5, v6, v7, v8, v9, v10].drop 3).take (Try.prog.cellsOf 24)) = ys[3]? := hg 3 _ rfl
  have g4 : DataW.trod enc Try.prog W 0 (fun _ => true) true m 24 (([v0, v1, v2, v3, v4, v5, v6, v7, v8, v9, v10].drop 7).take (Try.prog.cellsOf 24)) = ys[4]? := hg 4 _ rfl
  rw [c1] at g0
  rw [c2] at g1 g2
  rw [c3] at g3 g4
  simp only [List.drop_zero, List.take_succ_cons, List.take_zero, List.drop_succ_cons] at g0 g1 g2 g3 g4
  have hz : ys.length = 5 := hyl
  rw [List.getElem?_eq_getElem (by omega)] at g0 g1 g2 g3 g4
  obtain ⟨k, e0, _, w0⟩ := DataW.trod_int Try.underlying3 g0
  obtain ⟨sh, e1, _, w1⟩ := DataW.trod_string Try.underlying9 g1
  obtain ⟨sm, e2, _, w2⟩ := DataW.trod_string Try.underlying9 g2
  simp only [List.cons.injEq, and_true] at e0 e1 e2
  subst e0 e1 e2
  obtain ⟨te, he⟩ := trod_ex _ _ _ g3
  obtain ⟨tf, hf2⟩ := trod_ex _ _ _ g4
  exact ⟨_, ⟨k, sh, sm, te, tf⟩, rfl, [v3, v4, v5, v6], [v7, v8, v9, v10], rfl, rfl, ⟨_, he⟩, ⟨_, hf2⟩, by simpa using w1, by simpa using w2⟩
noncomputable def wtStmt (t : StmtT) : Nat := t.h.size + t.m.size + wtExpr t.e + wtExpr t.f
noncomputable def sameStmt (t u : StmtT) : Bool := (t.i == u.i) && (t.h.toList == u.h.toList) && (t.m.toList == u.m.toList) && exEq t.e u.e && exEq t.f u.f
set_option maxHeartbeats 4000000 in
set_option maxRecDepth 20000 in
theorem szStmtV (ai : Int) (ah am : ByteArray) (aek aen : Int) (aeg : ByteArray) (aeA : Option Addr) (ael aec : Nat) (afk afn : Int) (afg : ByteArray) (afA : Option Addr) (afl afc : Nat) (t : StmtT) (left : Int) (W : World) (h : IsSV W [.int .i64 ai, .string ah, .string am, .int .i64 aek, .int .i64 aen, .string aeg, .slice aeA ael aec, .int .i64 afk, .int .i64 afn, .string afg, .slice afA afl afc] t) (h0 : 0 ≤ left) (h1 : left ≤ 1048576) :
    Calls Try.prog 16 #[.agg #[.int .i64 ai, .string ah, .string am, .int .i64 aek, .int .i64 aen, .string aeg, .slice aeA ael aec, .int .i64 afk, .int .i64 afn, .string afg, .slice afA afl afc], .int .i64 left] W (SzR (wtStmt t) left W) := by
  obtain ⟨rfl, rfl, rfl, he, hf, hlh, hlm⟩ := h.parts
  clear h
  have hsh : (t.h.size : Int) ≤ 9223372036854775807 := by unfold maxLen at hlh; omega
  have hsm : (t.m.size : Int) ≤ 9223372036854775807 := by unfold maxLen at hlm; omega
  have hwt : Hid (((wtStmt t : Nat) : Int) = (t.h.size : Int) + (t.m.size : Int) + wtExpr t.e + wtExpr t.f) := by unfold Hid wtStmt; omega
  have HE := Lib.hid he
  have HF := Lib.hid hf
  clear he hf hlh hlm
  have hb0 : Below W.heap.size W (W.alloc (.cells #[.int .i64 t.i, .string t.h, .string t.m, .int .i64 aek, .int .i64 aen, .string aeg, .slice aeA ael aec, .int .i64 afk, .int .i64 afn, .string afg, .slice afA afl afc] 41)) := by go_grown
  have hA : Blk (W.alloc (.cells #[.int .i64 t.i, .string t.h, .string t.m, .int .i64 aek, .int .i64 aen, .string aeg, .slice aeA ael aec, .int .i64 afk, .int .i64 afn, .string afg, .slice afA afl afc] 41)) W.heap.size 41 [.int .i64 t.i, .string t.h, .string t.m, .int .i64 aek, .int .i64 aen, .string aeg, .slice aeA ael aec, .int .i64 afk, .int .i64 afn, .string afg, .slice afA afl afc] := Blk.alloc_ W 41 [.int .i64 t.i, .string t.h, .string t.m, .int .i64 aek, .int .i64 aen, .string aeg, .slice aeA ael aec, .int .i64 afk, .int .i64 afn, .string afg, .slice afA afl afc]
  have HB0 := Lib.hid hb0
  have HA := Lib.hid hA
  clear hb0 hA
  generalize t.i = ai at *
  generalize t.h = ah at *
  generalize t.m = am at *
  by_cases hnh : left - (ah.size : Int) < 0
  · have R : SzR (wtStmt t) left W (.returned (.int .i64 (-1))) (W.alloc (.cells #[.int .i64 ai, .string ah, .string am, .int .i64 aek, .int .i64 aen, .string aeg, .slice aeA ael aec, .int .i64 afk, .int .i64 afn, .string afg, .slice afA afl afc] 41)) := ⟨_, rfl, .inl (by omega), HB0.out⟩
    have HR := Lib.hid R; clear R
    go_enter Try.func16, Try.ntmps16
    go_wp2_with fail
    go_ret
    exact HR.out
  · have hph : 0 ≤ left - (ah.size : Int) := by omega
    by_cases hnm : left - (ah.size : Int) - (am.size : Int) < 0
    · have R : SzR (wtStmt t) left W (.returned (.int .i64 (-1))) (W.alloc (.cells #[.int .i64 ai, .string ah, .string am, .int .i64 aek, .int .i64 aen, .string aeg, .slice aeA ael aec, .int .i64 afk, .int .i64 afn, .string afg, .slice afA afl afc] 41)) := ⟨_, rfl, .inl (by omega), HB0.out⟩
      have HR := Lib.hid R; clear R
      go_enter Try.func16, Try.ntmps16
      go_wp2_with fail
      go_ret
      exact HR.out
    · have hpm : 0 ≤ left - (ah.size : Int) - (am.size : Int) := by omega
      go_enter Try.func16, Try.ntmps16
      go_wp2_with fail
      generalize W.alloc (.cells #[.int .i64 ai, .string ah, .string am, .int .i64 aek, .int .i64 aen, .string aeg, .slice aeA ael aec, .int .i64 afk, .int .i64 afn, .string afg, .slice afA afl afc] 41) = w0 at *
      refine (szExprV aek aen aeg aeA ael aec t.e (left - (ah.size : Int) - (am.size : Int)) w0 (HE.out.below HB0.out) (by omega) (by omega)).mono ?_
      rintro e w1 ⟨r, rfl, hr, hb1⟩
      have HB1 : Hid (Below W.heap.size W w1) := HB0.out.trans (hb1.mono HB0.out.size)
      have HA1 := Lib.hid (HA.out.below hb1 HA.out.lt)
      clear hb1
      by_cases hr0 : r < 0
      · have R : SzR (wtStmt t) left W (.returned (.int .i64 (-1))) w1 := ⟨_, rfl, .inl (by omega), HB1.out⟩
        have HR := Lib.hid R; clear R hr
        go_wp2_with fail
        go_ret
        exact HR.out
      · have hr1 : r = left - (ah.size : Int) - (am.size : Int) - wtExpr t.e := by omega
        have HR1 := Lib.hid hr1
        have hr2 : 0 ≤ r := by omega
        have hr3 : r ≤ 1048576 := by omega
        have q7 := HA1.out.cell 7
        have q8 := HA1.out.cell 8
        have q9 := HA1.out.cell 9
        have q10 := HA1.out.cell 10
        simp only [List.getElem?_cons_zero, List.getElem?_cons_succ] at q7 q8 q9 q10
        clear hr hr1 hr0
        go_wp2_with fail
        refine (szExprV afk afn afg afA afl afc t.f r w1 (HF.out.below HB1.out) hr2 hr3).mono ?_
        rintro e w2 ⟨r', rfl, hr4, hb2⟩
        have HB2 : Hid (Below W.heap.size W w2) := HB1.out.trans (hb2.mono HB1.out.size)
        clear hb2 q7 q8 q9 q10
        by_cases hr5 : r' < 0
        · have R : SzR (wtStmt t) left W (.returned (.int .i64 (-1))) w2 := ⟨_, rfl, .inl (by omega), HB2.out⟩
          have HR := Lib.hid R; clear R hr4
          go_wp2_with fail
          go_ret
          exact HR.out
        · have R : SzR (wtStmt t) left W (.returned (.int .i64 r')) w2 := ⟨_, rfl, .inr ⟨by omega, by have h1 := hwt.out; have h2 := HR1.out; omega⟩, HB2.out⟩
          have HR := Lib.hid R; clear R hr4
          go_wp2_with fail
          go_ret
          exact HR.out

end Go.Proofs.Ytfjmjlpobbjjdaa
