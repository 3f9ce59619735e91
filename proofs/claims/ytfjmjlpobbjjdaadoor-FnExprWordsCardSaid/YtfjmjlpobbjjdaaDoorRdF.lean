/- ExprRead: what is read are words of something. -/
import Derived.Test.YtfjmjlpobbjjdaaDoorRdE
namespace Go.Proofs.YtfjmjlpobbjjdaaDoor
open Go.RowKit Ilp
set_option linter.unusedVariables false
set_option linter.unusedSimpArgs false

theorem rdAll (N : Nat) : LvlQ N 1 := by
  have step : ∀ N, HldQ N → LvlQ N 1 := fun N hh => level13 N 1 (by omega) (by omega) (level13 N 2 (by omega) (by omega) (level13 N 3 (by omega) (by omega) (level4 N hh)))
  have all : ∀ N, HldQ N := by
    intro N
    induction N using Nat.strongRecOn with
    | ind N ih => exact rdHeld N (fun M hM => step M (ih M hM))
  exact step N (all N)
theorem row_getD {w : World} {B b o : Nat} {xs : List ByteArray} (h : Row w B (some ⟨b, o, none⟩) (strB xs)) : ∀ j, j < xs.length → w.cell? ⟨b, o + j, none⟩ = some (.string (xs.getD j ByteArray.empty)) := by
  intro j hj
  obtain ⟨b', o', e, _, hc⟩ := h j _ (strB_get hj)
  injection e with e
  injection e with e1 e2
  subst e1 e2
  rw [hc, List.getD_eq_getElem?_getD, List.getElem?_eq_getElem hj]; rfl
/-- Two lists of words: the same? -/
theorem equalWords (A1 A2 : Option Addr) (n c m d : Nat) (xs ys : List ByteArray) (w : World) (h1 : Row w w.heap.size A1 (strB xs)) (h2 : Row w w.heap.size A2 (strB ys)) (hn : xs.length = n) (hm : ys.length = m) (hnb : n ≤ 9223372036854775807) (hmb : m ≤ 9223372036854775807) :
    Calls Tryd.prog 63 #[.slice A1 n c, .slice A2 m d] w fun e w' => e = .returned (.bool (decide (xs = ys))) ∧ Below w.heap.size w w' := by
  by_cases hnm : n = m
  · cases xs with
    | nil =>
      obtain rfl : n = 0 := hn.symm
      obtain rfl : ys = [] := List.eq_nil_of_length_eq_zero (by omega)
      obtain rfl : m = 0 := hm.symm
      refine (Tryd.slices_Equal_string_empty A1 A2 c 0 d w (by omega)).mono ?_
      rintro e w' ⟨rfl, rfl⟩
      exact ⟨rfl, Below.refl _ _⟩
    | cons x xs0 =>
      cases ys with
      | nil => simp at hn hm; omega
      | cons y ys0 =>
        obtain ⟨b1, o1, rfl, _, _⟩ := h1.at_ (i := 0) (by simp [strB])
        obtain ⟨b2, o2, rfl, _, _⟩ := h2.at_ (i := 0) (by simp [strB])
        refine (Tryd.slices_Equal_string b1 o1 n c b2 o2 m d (x :: xs0) (y :: ys0) w (by omega) (by omega) hnb hmb (row_getD h1) (row_getD h2)).mono ?_
        rintro e w' ⟨rfl, q, rfl⟩
        rw [List.take_of_length_le (by omega), List.take_of_length_le (by omega)]
        exact ⟨rfl, ⟨rfl, rfl, rfl, Nat.le_refl _, fun _ _ => rfl⟩⟩
  · refine (Tryd.slices_Equal_string_lens A1 A2 n c m d w hnm).mono ?_
    rintro e w' ⟨rfl, rfl⟩
    refine ⟨?_, Below.refl _ _⟩
    rw [decide_eq_false]
    intro e; exact hnm (by rw [← hn, ← hm, e])
/-- What is read, if something is: the words are its. -/
def ReadR (xs : List ByteArray) (W : World) (e : Ending) (w' : World) : Prop :=
  ∃ (k n : Int) (s : ByteArray) (A : Option Addr) (l c : Nat) (b : Bool), e = .returned (.tuple #[.agg #[.int .i64 k, .int .i64 n, .string s, .slice A l c], .bool b]) ∧ (b = true → ∃ t, exprOk t = true ∧ xs = (wordsOf t).map mkB) ∧ Below W.heap.size W w'
set_option maxHeartbeats 4000000 in
set_option maxRecDepth 20000 in
theorem implExprRead (A : Option Addr) (n c : Nat) (xs : List ByteArray) (W : World) (hr : Row W W.heap.size A (strB xs)) (hn : xs.length = n) (hnc : n ≤ c) (hc : (c : Int) ≤ 9223372036854775807) (h8 : ∀ x ∈ xs, x.size ≤ 8) (hT : Tabs W) :
    Calls Tryd.prog 32 #[.slice A n c] W (ReadR xs W) := by
  have hb1 : Below W.heap.size W (W.alloc (.cells #[.int .i64 0, .int .i64 0, .string ⟨#[]⟩, .slice none 0 0] 25)) := (Below.refl _ _).alloc (Nat.le_refl _) _
  have hX1 : Blk (W.alloc (.cells #[.int .i64 0, .int .i64 0, .string ⟨#[]⟩, .slice none 0 0] 25)) W.heap.size 25 zero4 := Blk.alloc_ W _ zero4
  have hn1 : (n : Int) ≤ 9223372036854775807 := by omega
  go_enter Tryd.func32, Tryd.ntmps32
  by_cases hbig : (40 : Int) < (n : Int)
  · have hbig2 : (n : Int) > 40 := hbig
    go_upto_region 1 with (fail)
    have HB1 := Lib.hid hb1
    have HX1 := Lib.hid hX1
    clear hb1 hX1
    obtain ⟨w1, hw1⟩ : ∃ w1, w1 = W.alloc (.cells #[.int .i64 0, .int .i64 0, .string ⟨#[]⟩, .slice none 0 0] 25) := ⟨_, rfl⟩
    rw [← hw1] at HB1 HX1 ⊢
    clear hw1
    have HB0 := Lib.hid (HB1.out)
    have HX0 := Lib.hid (HX1.out)
    have RES : Hid (ReadR xs W (.returned (.tuple #[(.agg #[.int .i64 0, .int .i64 0, .string ⟨#[]⟩, .slice none 0 0]), .bool false])) (put4 w1 W.heap.size 0 0 ⟨#[]⟩ none 0 0)) :=
      ⟨_, _, _, _, _, _, false, rfl, (fun e => by cases e), HB0.out.trans ((put4_keep w1 W.heap.size 0 0 ⟨#[]⟩ none 0 0).below (Nat.le_refl _) HB0.out.size)⟩
    have x0 : (w1).cell? ⟨W.heap.size, 0, none⟩ = some (.int .i64 0) := HX0.out.cell 0
    have x1 : (w1).cell? ⟨W.heap.size, 1, none⟩ = some (.int .i64 0) := HX0.out.cell 1
    have x2 : (w1).cell? ⟨W.heap.size, 2, none⟩ = some (.string ⟨#[]⟩) := HX0.out.cell 2
    have x3 : (w1).cell? ⟨W.heap.size, 3, none⟩ = some (.slice none 0 0) := HX0.out.cell 3
    have y0 := HX0.out.frozen 0
    have y1 := HX0.out.frozen 1
    have y2 := HX0.out.frozen 2
    have y3 := HX0.out.frozen 3
    obtain ⟨q0, q1, q2, q3⟩ := put4_cells HX0.out 0 0 ⟨#[]⟩ none 0 0
    go_wp2_with fail
    refine bodyPost_ret (v := .tuple #[(.agg #[.int .i64 0, .int .i64 0, .string ⟨#[]⟩, .slice none 0 0]), .bool false]) (by simp [results, Tryd.results32, go_sem, q0, q1, q2, q3]) rfl ?_
    exact RES.out
  · have hbig2 : ¬ (n : Int) > 40 := hbig
    obtain ⟨w2, hw2⟩ : ∃ w2, w2 = (W.alloc (.cells #[.int .i64 0, .int .i64 0, .string ⟨#[]⟩, .slice none 0 0] 25)).alloc (.cells #[.slice A n c, .bool false, .int .i64 0] 82) := ⟨_, rfl⟩
    have hb2 : Below W.heap.size W w2 := by rw [hw2]; exact hb1.alloc hb1.size _
    have hX2 : Blk w2 W.heap.size 25 zero4 := by rw [hw2]; exact hX1.alloc _
    obtain ⟨R, hRe⟩ : ∃ R, R = W.heap.size + 1 := ⟨_, rfl⟩
    have hR2 : Blk w2 R 82 [.slice A n c, .bool false, .int .i64 0] := by rw [hw2, hRe]; have := Blk.alloc_ (W.alloc (.cells #[.int .i64 0, .int .i64 0, .string ⟨#[]⟩, .slice none 0 0] 25)) 82 [.slice A n c, .bool false, .int .i64 0]; rw [World.size_alloc] at this; exact this
    have HRE := Lib.hid hRe
    have hRW : W.heap.size < R := by omega
    have RS2 : RdS W R xs false 0 A n c w2 := ⟨hR2, hr, hn, hnc, hc, hb2, by omega, h8⟩
    have C2 : Hid (Calls Tryd.prog 62 #[.pointer (some ⟨R, 0, none⟩), .int .i64 1] w2 (TreeR W R xs w2)) := rdAll xs.length W R xs false 0 A n c w2 (Nat.le_refl _) RS2 hT
    have HX2 := Lib.hid hX2
    have HR := Lib.hid hr
    have HT := Lib.hid hT
    have HB2 := Lib.hid hb2
    have HLN := Lib.hid hn
    have hx2 := hX2.lt
    clear hr h8 hT hb1 hX1 hb2 hX2 hR2 RS2 hRe
    go_upto_region 4 with (fail)
    rw [← hw2]
    rw [show W.heap.size + 1 = R from HRE.out.symm]
    clear hw2
    go_wp2_with fail
    refine C2.out.mono ?_
    rintro e w3 ⟨k, nn, s, A1, l, c1, t, us, bd, dq, A2, m2, c2, rfl, ht, hR3, hK3, hl3, hw3⟩
    have hba := (Below.refl w3.heap.size w3).alloc (Nat.le_refl _) (.cells #[.int .i64 k, .int .i64 nn, .string s, .slice A1 l c1] 25)
    have HX4 : Hid (Blk (w3.alloc (.cells #[.int .i64 k, .int .i64 nn, .string s, .slice A1 l c1] 25)) W.heap.size 25 zero4) := (hK3.blk HX2.out (by omega)).alloc _
    have HE4 : Hid (Blk (w3.alloc (.cells #[.int .i64 k, .int .i64 nn, .string s, .slice A1 l c1] 25)) w3.heap.size 25 [.int .i64 k, .int .i64 nn, .string s, .slice A1 l c1]) := Blk.alloc_ w3 25 [.int .i64 k, .int .i64 nn, .string s, .slice A1 l c1]
    have EV4 := Lib.hid (ht.ev.below hba)
    have RS4 := Lib.hid (hR3.below hba)
    have hx4 : W.heap.size < w3.heap.size := Nat.lt_of_lt_of_le hx2 hK3.size
    have hwt : wgt t ≤ 1048576 := by omega
    clear ht hR3 hK3 hba C2 HX2 hw3
    go_upto_region 5 with (fail)
    obtain ⟨w4, hw4⟩ : ∃ w4, w4 = w3.alloc (.cells #[.int .i64 k, .int .i64 nn, .string s, .slice A1 l c1] 25) := ⟨_, rfl⟩
    obtain ⟨X5, hX5⟩ : ∃ X5, X5 = w3.heap.size := ⟨_, rfl⟩
    rw [← hw4] at HX4 HE4 EV4 RS4 ⊢
    rw [← hX5] at HE4 hx4 ⊢
    clear hw4 hX5
    obtain ⟨p0, p1, p2, pf⟩ := RS4.out.cells
    have hmc := RS4.out.mc
    have hcm := RS4.out.cm
    have hln := RS4.out.ln
    obtain ⟨a0, a1, a2, a3⟩ := blkE_cells HE4.out
    clear pf
    cases bd with
    | true =>
      have HB0 := Lib.hid (RS4.out.bv)
      have HX0 := Lib.hid (HX4.out)
      have RES : Hid (ReadR xs W (.returned (.tuple #[(.agg #[.int .i64 0, .int .i64 0, .string ⟨#[]⟩, .slice none 0 0]), .bool false])) (put4 w4 W.heap.size 0 0 ⟨#[]⟩ none 0 0)) :=
        ⟨_, _, _, _, _, _, false, rfl, (fun e => by cases e), HB0.out.trans ((put4_keep w4 W.heap.size 0 0 ⟨#[]⟩ none 0 0).below (Nat.le_refl _) HB0.out.size)⟩
      have x0 : (w4).cell? ⟨W.heap.size, 0, none⟩ = some (.int .i64 0) := HX0.out.cell 0
      have x1 : (w4).cell? ⟨W.heap.size, 1, none⟩ = some (.int .i64 0) := HX0.out.cell 1
      have x2 : (w4).cell? ⟨W.heap.size, 2, none⟩ = some (.string ⟨#[]⟩) := HX0.out.cell 2
      have x3 : (w4).cell? ⟨W.heap.size, 3, none⟩ = some (.slice none 0 0) := HX0.out.cell 3
      have y0 := HX0.out.frozen 0
      have y1 := HX0.out.frozen 1
      have y2 := HX0.out.frozen 2
      have y3 := HX0.out.frozen 3
      obtain ⟨q0, q1, q2, q3⟩ := put4_cells HX0.out 0 0 ⟨#[]⟩ none 0 0
      go_wp2_with fail
      refine bodyPost_ret (v := .tuple #[(.agg #[.int .i64 0, .int .i64 0, .string ⟨#[]⟩, .slice none 0 0]), .bool false]) (by simp [results, Tryd.results32, go_sem, q0, q1, q2, q3]) rfl ?_
      exact RES.out
    | false =>
      cases us with
      | cons u us0 =>
        simp only [List.length_cons] at hln
        have hm1 : (1 : Int) ≤ (m2 : Int) := by omega
        have hm2 : (0 : Int) < (m2 : Int) := by omega
        have hm3 : (m2 : Int) > 0 := hm2
        have HB0 := Lib.hid (RS4.out.bv)
        have HX0 := Lib.hid (HX4.out)
        have RES : Hid (ReadR xs W (.returned (.tuple #[(.agg #[.int .i64 0, .int .i64 0, .string ⟨#[]⟩, .slice none 0 0]), .bool false])) (put4 w4 W.heap.size 0 0 ⟨#[]⟩ none 0 0)) :=
          ⟨_, _, _, _, _, _, false, rfl, (fun e => by cases e), HB0.out.trans ((put4_keep w4 W.heap.size 0 0 ⟨#[]⟩ none 0 0).below (Nat.le_refl _) HB0.out.size)⟩
        have x0 : (w4).cell? ⟨W.heap.size, 0, none⟩ = some (.int .i64 0) := HX0.out.cell 0
        have x1 : (w4).cell? ⟨W.heap.size, 1, none⟩ = some (.int .i64 0) := HX0.out.cell 1
        have x2 : (w4).cell? ⟨W.heap.size, 2, none⟩ = some (.string ⟨#[]⟩) := HX0.out.cell 2
        have x3 : (w4).cell? ⟨W.heap.size, 3, none⟩ = some (.slice none 0 0) := HX0.out.cell 3
        have y0 := HX0.out.frozen 0
        have y1 := HX0.out.frozen 1
        have y2 := HX0.out.frozen 2
        have y3 := HX0.out.frozen 3
        obtain ⟨q0, q1, q2, q3⟩ := put4_cells HX0.out 0 0 ⟨#[]⟩ none 0 0
        go_wp2_with fail
        refine bodyPost_ret (v := .tuple #[(.agg #[.int .i64 0, .int .i64 0, .string ⟨#[]⟩, .slice none 0 0]), .bool false]) (by simp [results, Tryd.results32, go_sem, q0, q1, q2, q3]) rfl ?_
        exact RES.out
      | nil =>
        obtain rfl : m2 = 0 := by simpa using hln.symm
        have CO := Lib.hid (implExprOk k nn s A1 l c1 t w4 EV4.out hwt (HT.out.keep RS4.out.bv))
        cases hok : exprOk t with
        | false =>
          rw [hok] at CO
          go_upto_region 5 with (fail)
          go_wp2_with fail
          refine CO.out.mono ?_
          rintro e w5 ⟨rfl, hb5⟩
          have HB5 := Lib.hid (RS4.out.bv.trans (hb5.mono RS4.out.bv.size))
          have HX5 := Lib.hid (HX4.out.below hb5 HX4.out.lt)
          clear hb5 p0 p1 p2 a0 a1 a2 a3 CO
          have HB0 := Lib.hid (HB5.out)
          have HX0 := Lib.hid (HX5.out)
          have RES : Hid (ReadR xs W (.returned (.tuple #[(.agg #[.int .i64 0, .int .i64 0, .string ⟨#[]⟩, .slice none 0 0]), .bool false])) (put4 w5 W.heap.size 0 0 ⟨#[]⟩ none 0 0)) :=
            ⟨_, _, _, _, _, _, false, rfl, (fun e => by cases e), HB0.out.trans ((put4_keep w5 W.heap.size 0 0 ⟨#[]⟩ none 0 0).below (Nat.le_refl _) HB0.out.size)⟩
          have x0 : (w5).cell? ⟨W.heap.size, 0, none⟩ = some (.int .i64 0) := HX0.out.cell 0
          have x1 : (w5).cell? ⟨W.heap.size, 1, none⟩ = some (.int .i64 0) := HX0.out.cell 1
          have x2 : (w5).cell? ⟨W.heap.size, 2, none⟩ = some (.string ⟨#[]⟩) := HX0.out.cell 2
          have x3 : (w5).cell? ⟨W.heap.size, 3, none⟩ = some (.slice none 0 0) := HX0.out.cell 3
          have y0 := HX0.out.frozen 0
          have y1 := HX0.out.frozen 1
          have y2 := HX0.out.frozen 2
          have y3 := HX0.out.frozen 3
          obtain ⟨q0, q1, q2, q3⟩ := put4_cells HX0.out 0 0 ⟨#[]⟩ none 0 0
          go_wp2_with fail
          refine bodyPost_ret (v := .tuple #[(.agg #[.int .i64 0, .int .i64 0, .string ⟨#[]⟩, .slice none 0 0]), .bool false]) (by simp [results, Tryd.results32, go_sem, q0, q1, q2, q3]) rfl ?_
          exact RES.out
        | true =>
          rw [hok] at CO
          go_wp2_with fail
          refine CO.out.mono ?_
          rintro e w5 ⟨rfl, hb5⟩
          have HB5 := Lib.hid (RS4.out.bv.trans (hb5.mono RS4.out.bv.size))
          have HX5 := Lib.hid (HX4.out.below hb5 HX4.out.lt)
          have HE5 := Lib.hid (HE4.out.below hb5 HE4.out.lt)
          have CW := Lib.hid (implExprWords k nn s A1 l c1 t w5 (EV4.out.below hb5) hwt (HT.out.keep HB5.out))
          obtain ⟨a0, a1, a2, a3⟩ := blkE_cells HE5.out
          have hx5 := HX5.out.lt
          clear hb5 p0 p1 p2 CO HX4 HE4 EV4 RS4
          go_wp2_with fail
          refine CW.out.mono ?_
          rintro e w6 ⟨v6, rfl, hown, hb6⟩
          obtain ⟨A6, c6, rfl, _, hr6⟩ := own_row hown
          have HB6 := Lib.hid (HB5.out.trans (hb6.mono HB5.out.size))
          have HX6 := Lib.hid (HX5.out.below hb6 HX5.out.lt)
          have HE6 := Lib.hid (HE5.out.below hb6 HE5.out.lt)
          have hwl := wordsOf_len t
          have CE := Lib.hid (equalWords A6 A (wordsOf t).length c6 n c ((wordsOf t).map mkB) xs w6 hr6 ((HR.out.below HB6.out).more HB6.out.size) (by simp) HLN.out (by omega) (by omega))
          clear hown hb6 hr6 CW a0 a1 a2 a3 HX5 HE5
          by_cases hq : (wordsOf t).map mkB = xs
          · rw [decide_eq_true hq] at CE
            have HQ := Lib.hid hq
            have HOK := Lib.hid hok
            clear hq hok
            go_wp2_with fail
            refine CE.out.mono ?_
            rintro e w7 ⟨rfl, hb7⟩
            have HB7 := Lib.hid (HB6.out.trans (hb7.mono HB6.out.size))
            have HX7 := Lib.hid (HX6.out.below hb7 HX6.out.lt)
            obtain ⟨a0, a1, a2, a3⟩ := blkE_cells (HE6.out.below hb7 HE6.out.lt)
            clear hb7 CE HX6 HE6
            have HB0 := Lib.hid (HB7.out)
            have HX0 := Lib.hid (HX7.out)
            have RES : Hid (ReadR xs W (.returned (.tuple #[(.agg #[.int .i64 k, .int .i64 nn, .string s, .slice A1 l c1]), .bool true])) (put4 w7 W.heap.size k nn s A1 l c1)) :=
              ⟨_, _, _, _, _, _, true, rfl, (fun _ => ⟨t, HOK.out, HQ.out.symm⟩), HB0.out.trans ((put4_keep w7 W.heap.size k nn s A1 l c1).below (Nat.le_refl _) HB0.out.size)⟩
            have x0 : (w7).cell? ⟨W.heap.size, 0, none⟩ = some (.int .i64 0) := HX0.out.cell 0
            have x1 : (w7).cell? ⟨W.heap.size, 1, none⟩ = some (.int .i64 0) := HX0.out.cell 1
            have x2 : (w7).cell? ⟨W.heap.size, 2, none⟩ = some (.string ⟨#[]⟩) := HX0.out.cell 2
            have x3 : (w7).cell? ⟨W.heap.size, 3, none⟩ = some (.slice none 0 0) := HX0.out.cell 3
            have y0 := HX0.out.frozen 0
            have y1 := HX0.out.frozen 1
            have y2 := HX0.out.frozen 2
            have y3 := HX0.out.frozen 3
            obtain ⟨q0, q1, q2, q3⟩ := put4_cells HX0.out k nn s A1 l c1
            go_wp2_with fail
            refine bodyPost_ret (v := .tuple #[(.agg #[.int .i64 k, .int .i64 nn, .string s, .slice A1 l c1]), .bool true]) (by simp [results, Tryd.results32, go_sem, q0, q1, q2, q3]) rfl ?_
            exact RES.out
          · rw [decide_eq_false hq] at CE
            clear hq hok
            go_wp2_with fail
            refine CE.out.mono ?_
            rintro e w7 ⟨rfl, hb7⟩
            have HB7 := Lib.hid (HB6.out.trans (hb7.mono HB6.out.size))
            have HX7 := Lib.hid (HX6.out.below hb7 HX6.out.lt)
            clear hb7 CE HX6 HE6
            have HB0 := Lib.hid (HB7.out)
            have HX0 := Lib.hid (HX7.out)
            have RES : Hid (ReadR xs W (.returned (.tuple #[(.agg #[.int .i64 0, .int .i64 0, .string ⟨#[]⟩, .slice none 0 0]), .bool false])) (put4 w7 W.heap.size 0 0 ⟨#[]⟩ none 0 0)) :=
              ⟨_, _, _, _, _, _, false, rfl, (fun e => by cases e), HB0.out.trans ((put4_keep w7 W.heap.size 0 0 ⟨#[]⟩ none 0 0).below (Nat.le_refl _) HB0.out.size)⟩
            have x0 : (w7).cell? ⟨W.heap.size, 0, none⟩ = some (.int .i64 0) := HX0.out.cell 0
            have x1 : (w7).cell? ⟨W.heap.size, 1, none⟩ = some (.int .i64 0) := HX0.out.cell 1
            have x2 : (w7).cell? ⟨W.heap.size, 2, none⟩ = some (.string ⟨#[]⟩) := HX0.out.cell 2
            have x3 : (w7).cell? ⟨W.heap.size, 3, none⟩ = some (.slice none 0 0) := HX0.out.cell 3
            have y0 := HX0.out.frozen 0
            have y1 := HX0.out.frozen 1
            have y2 := HX0.out.frozen 2
            have y3 := HX0.out.frozen 3
            obtain ⟨q0, q1, q2, q3⟩ := put4_cells HX0.out 0 0 ⟨#[]⟩ none 0 0
            go_wp2_with fail
            refine bodyPost_ret (v := .tuple #[(.agg #[.int .i64 0, .int .i64 0, .string ⟨#[]⟩, .slice none 0 0]), .bool false]) (by simp [results, Tryd.results32, go_sem, q0, q1, q2, q3]) rfl ?_
            exact RES.out
end Go.Proofs.YtfjmjlpobbjjdaaDoor
