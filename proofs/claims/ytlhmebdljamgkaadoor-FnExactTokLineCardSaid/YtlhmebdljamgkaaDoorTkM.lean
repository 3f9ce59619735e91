/- Walks: the marks that a law lays into lists of words; the walk of FnExactTokLine. -/
import Derived.Test.YtlhmebdljamgkaaDoorMarkS
import Derived.Test.YtlhmebdljamgkaaDoorTkL
import Derived.Test.YtlhmebdljamgkaaDoorIl
import Derived.Test.YtlhmebdljamgkaaDoorDrawV
namespace Go.Proofs.YtlhmebdljamgkaaDoor
open Go.RowKit Ilp
set_option linter.unusedVariables false

def marksTk (k : Nat) : Nat → List Tk
  | 0 => []
  | n + 1 => ⟨(k : Int), markT (k + 1), ((k + 2 : Nat) : Int)⟩ :: marksTk (k + 3) n
theorem marksTk_length (k n : Nat) : (marksTk k n).length = n := by
  induction n generalizing k with
  | zero => rfl
  | succ n ih => simp [marksTk, ih]
theorem marksTk_get (k n i : Nat) (h : i < n) : (marksTk k n)[i]'(by rw [marksTk_length]; exact h) = ⟨((k + 3 * i : Nat) : Int), markT (k + 3 * i + 1), ((k + 3 * i + 2 : Nat) : Int)⟩ := by
  induction n generalizing k i with
  | zero => omega
  | succ n ih =>
    cases i with
    | zero => simp [marksTk]
    | succ i =>
      simp only [marksTk, List.getElem_cons_succ]
      rw [ih (k + 3) i (by omega), show k + 3 + 3 * i = k + 3 * (i + 1) by omega]
theorem marksTk_snoc (k n : Nat) : marksTk k (n + 1) = marksTk k n ++ [⟨((k + 3 * n : Nat) : Int), markT (k + 3 * n + 1), ((k + 3 * n + 2 : Nat) : Int)⟩] := by
  induction n generalizing k with
  | zero => simp [marksTk]
  | succ n ih => rw [marksTk, ih, marksTk, List.cons_append, show k + 3 + 3 * n = k + 3 * (n + 1) by omega]
def markedTk (xs : List Tk) (k i : Nat) : List Tk := marksTk k i ++ xs.drop i
theorem markedTk_zero (xs : List Tk) (k : Nat) : markedTk xs k 0 = xs := by simp [markedTk, marksTk]
theorem markedTk_all (xs : List Tk) (k : Nat) : markedTk xs k xs.length = marksTk k xs.length := by simp [markedTk]
theorem markedTk_len (xs : List Tk) (k i : Nat) (h : i ≤ xs.length) : (markedTk xs k i).length = xs.length := by simp [markedTk, marksTk_length]; omega
theorem markedTk_set (xs : List Tk) (k i : Nat) (h : i < xs.length) : (markedTk xs k i).set i ⟨((k + 3 * i : Nat) : Int), markT (k + 3 * i + 1), ((k + 3 * i + 2 : Nat) : Int)⟩ = markedTk xs k (i + 1) := by
  unfold markedTk
  rw [List.set_append_right _ _ (by rw [marksTk_length]; exact Nat.le_refl _), marksTk_length, Nat.sub_self, marksTk_snoc, List.drop_eq_getElem_cons h, List.set_cons_zero, List.append_assoc]
  rfl

set_option maxHeartbeats 2000000 in
set_option maxRecDepth 20000 in
theorem markTokS (A : Option Addr) (n c B k : Nat) (xs : List Tk) (w : World) (h : Mine w B 37 A (tksV xs)) (hl : Hid (xs.length = n)) (hB : B ≤ w.heap.size) (hn : (n : Int) ≤ 1000) (hk0 : 0 < k) (hk1 : (k : Int) ≤ 100000) :
    Calls Tryd.prog 23 #[.slice A n c, .int .i64 (k : Int)] w fun e w' => e = .returned (.int .i64 ((k + 3 * n : Nat) : Int)) ∧ Mine w' B 37 A (tksV (marksTk k n)) ∧ Below B w w' := by
  go_enter Tryd.func23, Tryd.ntmps23
  go_wp2_with fail
  go_loopw [1, 5] (fun v u wr => ∃ i : Nat, v = .int .i64 ((k + 3 * i : Nat) : Int) ∧ u = .int .i64 (i : Int) ∧ i ≤ n ∧ Mine wr B 37 A (tksV (markedTk xs k i)) ∧ Below B w wr ∧ B ≤ wr.heap.size) (fun _ u _ => n - (intOf u).toNat)
  case atStart => exact ⟨0, by simp, rfl, Nat.zero_le _, by rw [markedTk_zero]; exact h, Below.refl _ _, hB⟩
  case round =>
    clear h hB
    obtain ⟨i, rfl, rfl, hi, hm, hbw, hsz⟩ := hrel
    have HM := Lib.hid hm; clear hm
    have HB := Lib.hid hbw; clear hbw
    by_cases hlt : i < n
    · have hx : i < xs.length := by rw [hl.out]; exact hlt
      have HX := Lib.hid hx
      have hML : (tksV (markedTk xs k i)).length = n * 3 := by rw [tksV_length, markedTk_len _ _ _ (Nat.le_of_lt hx), hl.out]
      have c1 : ∀ W, Calls Tryd.prog 47 #[.int .i64 (((k + 3 * i : Nat) : Int) + 1)] W fun e w' => e = .returned (.string (markT (k + 3 * i + 1))) ∧ Below W.heap.size W w' := fun W => by
        have := markText (k + 3 * i + 1) W (by omega) (by omega)
        rwa [show ((k + 3 * i + 1 : Nat) : Int) = ((k + 3 * i : Nat) : Int) + 1 by omega] at this
      have C1 := Lib.hid c1
      clear c1
      have hqb0 : ((k + 3 * i : Nat) : Int) ≤ 1000000000 := by omega
      obtain ⟨q, hq⟩ : ∃ q, q = k + 3 * i := ⟨_, rfl⟩
      rw [← hq] at C1 hqb0 ⊢
      have HQ := Lib.hid hq
      have hq0 : (0 : Int) ≤ (q : Int) := by omega
      clear hq
      obtain ⟨g, rfl, hBg, hc0, hf0, hput0⟩ := HM.out.at_ (i := i * 3) (by rw [hML]; omega)
      have hM1 := hput0 (.int .i64 (q : Int))
      have HBS : Hid (Below B w (wr.setCell ⟨g, i * 3, none⟩ (.int .i64 (q : Int)))) := HB.out.setCell hBg _
      have HM1 := Lib.hid hM1
      have HML := Lib.hid hML
      generalize (tksV (markedTk xs k i))[i * 3]'(by rw [hML]; omega) = ov at hc0
      clear hput0 hM1 hML
      go_wp2_with fail
      refine (C1.out _).mono ?_
      rintro e w1 ⟨rfl, hb1⟩
      have hsz1 : B ≤ w1.heap.size := Nat.le_trans hsz (by have := hb1.size; simpa [World.setCell] using this)
      have HB1 : Hid (Below B w w1) := HBS.out.trans (hb1.mono (by simp [World.setCell]; exact hsz))
      have hm1 := HM1.out.below hb1
      have hl1 : ((tksV (markedTk xs k i)).set (i * 3) (.int .i64 (q : Int))).length = n * 3 := by rw [List.length_set]; exact HML.out
      obtain ⟨g1, eg1, _, hc1, hf1, hput1⟩ := hm1.at_ (i := i * 3 + 1) (by rw [hl1]; omega)
      obtain rfl : g = g1 := by simpa using eg1
      obtain ⟨g2, eg2, _, hc2, hf2, _⟩ := hm1.at_ (i := i * 3 + 2) (by rw [hl1]; omega)
      obtain rfl : g = g2 := by simpa using eg2
      have hm2 := hput1 (.string (markT (q + 1)))
      obtain ⟨g3, eg3, _, _, _, hput3⟩ := hm2.at_ (i := i * 3 + 2) (by rw [List.length_set, hl1]; omega)
      obtain rfl : g = g3 := by simpa using eg3
      have hm3 := hput3 (.int .i64 ((q : Int) + 1 + 1))
      have hfin : ((((tksV (markedTk xs k i)).set (i * 3) (.int .i64 (q : Int))).set (i * 3 + 1) (.string (markT (q + 1)))).set (i * 3 + 2) (.int .i64 ((q : Int) + 1 + 1))) = tksV (markedTk xs k (i + 1)) := by
        have h1 := tksV_set (markedTk xs k i) i ⟨((k + 3 * i : Nat) : Int), markT (k + 3 * i + 1), ((k + 3 * i + 2 : Nat) : Int)⟩ (by rw [markedTk_len _ _ _ (Nat.le_of_lt HX.out)]; exact HX.out)
        rw [markedTk_set xs k i HX.out] at h1
        rw [← h1, HQ.out]
        simp only
        congr 2
      rw [hfin] at hm3
      have HM3 := Lib.hid hm3
      generalize ((tksV (markedTk xs k i)).set (i * 3) (.int .i64 (q : Int)))[i * 3 + 1]'(by rw [hl1]; omega) = ov1 at hc1
      generalize ((tksV (markedTk xs k i)).set (i * 3) (.int .i64 (q : Int)))[i * 3 + 2]'(by rw [hl1]; omega) = ov2 at hc2
      clear hput1 hm1 hm2 hput3 hfin hm3 hb1 hx
      go_wp2_with fail
      go_roundw
      case rel =>
        refine ⟨i + 1, by have := HQ.out; subst this; go_num, by go_num, by omega, HM3.out, ((HB1.out.setCell hBg _).setCell hBg _), by simp [World.setCell]; exact hsz1⟩
      case measure => simp [intOf]; omega
    · obtain rfl : i = n := by omega
      have hm' : Mine wr B 37 A (tksV (marksTk k i)) := by have := HM.out; rw [← hl.out, markedTk_all, hl.out] at this; exact this
      have HM' := Lib.hid hm'
      clear hm'
      go_wp2_with fail
      go_ret
      exact ⟨rfl, HM'.out, HB.out⟩

set_option maxHeartbeats 2000000 in
set_option maxRecDepth 20000 in
theorem heldTokS (A : Option Addr) (n c k : Nat) (w : World) (h : Row w w.heap.size A (tksV (marksTk k n))) (hn : (n : Int) ≤ 1000) (hk0 : 0 < k) (hk1 : (k : Int) ≤ 100000) :
    Calls Tryd.prog 24 #[.slice A n c, .int .i64 (k : Int)] w fun e w' => e = .returned (.int .i64 ((k + 3 * n : Nat) : Int)) ∧ Below w.heap.size w w' := by
  have HR := Lib.hid h
  clear h
  go_enter Tryd.func24, Tryd.ntmps24
  go_wp2_with fail
  go_loopw [1, 5] (fun v u wr => ∃ i : Nat, v = .int .i64 ((k + 3 * i : Nat) : Int) ∧ u = .int .i64 (i : Int) ∧ i ≤ n ∧ Below w.heap.size w wr) (fun _ u _ => n - (intOf u).toNat)
  case atStart => exact ⟨0, by simp, rfl, Nat.zero_le _, Below.refl _ _⟩
  case round =>
    obtain ⟨i, rfl, rfl, hi, hbw⟩ := hrel
    have HB := Lib.hid hbw; clear hbw
    by_cases hlt : i < n
    · have hx : i < (marksTk k n).length := by rw [marksTk_length]; exact hlt
      obtain ⟨b, o, rfl, hbb, d0, d1, d2⟩ := HR.out.tk hx
      rw [marksTk_get k n i hlt] at d0 d1 d2
      simp only at d0 d1 d2
      have c0 := (HB.out.cell (p := ⟨b, o + i * 3, none⟩) hbb).trans d0
      have c1 := (HB.out.cell (p := ⟨b, o + i * 3 + 1, none⟩) hbb).trans d1
      have c2 := (HB.out.cell (p := ⟨b, o + i * 3 + 2, none⟩) hbb).trans d2
      have cc : ∀ d os, Calls Tryd.prog 47 #[.int .i64 (((k + 3 * i : Nat) : Int) + 1)] (Go.Sort.grow (redrawn wr d) os) fun e w'' => e = .returned (.string (markT (k + 3 * i + 1))) ∧ ∃ p : Regrown, w'' = Go.Sort.grow (redrawn wr p.d) p.os := fun d os => by
        have := markText (k + 3 * i + 1) (Go.Sort.grow (redrawn wr d) os) (by omega) (by omega)
        rw [show ((k + 3 * i + 1 : Nat) : Int) = ((k + 3 * i : Nat) : Int) + 1 by omega] at this
        exact Calls.regrown_of this
      rw [show ((k + 3 * i + 2 : Nat) : Int) = ((k + 3 * i : Nat) : Int) + 1 + 1 by omega] at c2
      have C1 := Lib.hid cc
      have hqb : ((k + 3 * i : Nat) : Int) ≤ 1000000000 := by omega
      obtain ⟨q, hq⟩ : ∃ q, q = k + 3 * i := ⟨_, rfl⟩
      rw [← hq] at C1 c0 c1 c2 hqb ⊢
      have HQ := Lib.hid hq
      have hq0 : (0 : Int) ≤ (q : Int) := by omega
      have h0 : (0 : Int) ≤ (i : Int) := by omega
      have h1 : (i : Int) < (n : Int) := by omega
      have g1 := cell_regrown c1
      clear cc d0 d1 d2 hq hx
      have e1 : ((q : Int) != (q : Int)) = false := by simp
      go_wp2_with fail
      refine wp_region_quiet_below (by kernel_rfl) (by kernel_rfl) ?_
      repeat (go_big_quiet_step (with_reducible exact C1.out _ _))
      refine wpQuiet_nil ?_
      intro w2 hw'
      have hb2 : Below wr.heap.size wr w2 := by obtain ⟨⟨dq, osq⟩, rfl⟩ := hw'; exact below_regrown _ _ _
      have c2' := (hb2.cell (p := ⟨b, o + i * 3 + 2, none⟩) (Nat.lt_of_lt_of_le hbb HB.out.size)).trans c2
      have HB2 : Hid (Below w.heap.size w w2) := HB.out.trans (hb2.mono HB.out.size)
      have e2 : ((q : Int) + 1 + 1 != (q : Int) + 1 + 1) = false := by simp
      clear hw' hb2 g1 c0 c1 c2
      go_wp2_with fail
      go_roundw
      case rel => exact ⟨i + 1, by have := HQ.out; subst this; go_num, by go_num, by omega, HB2.out⟩
      case measure => simp [intOf]; omega
    · obtain rfl : i = n := by omega
      go_wp2_with fail
      go_ret
      exact ⟨rfl, HB.out⟩

set_option maxHeartbeats 4000000 in
set_option maxRecDepth 20000 in
theorem law_FnExactTokLine (s : ByteArray) (w : World) (hsh : w.ShapedOpen Tryd.prog) (hT : Tabs w) (hs : s.size ≤ maxLen) :
    Calls Tryd.prog 7 #[.string s] w fun e w' => e = .returned (.bool true) ∧ Below w.heap.size w w' := by
  clear hsh
  have hs' : (s.size : Int) ≤ 9223372036854775807 := by unfold maxLen at hs; omega
  have HT := Lib.hid hT
  clear hs hT
  by_cases hbig : (1048576 : Int) < (s.size : Int)
  · go_enter Tryd.func7, Tryd.ntmps7
    go_wp2
    go_ret
    exact ⟨rfl, Below.refl _ _⟩
  · have hsm : (s.size : Int) ≤ 1048576 := by omega
    have hts := (lineToks_facts s).1
    have CS := fun W => specTokLine s W (by omega)
    have CI := fun W (h : Below w.heap.size w W) => implTokLine s W (HT.out.keep h) (by omega)
    unfold LineR at CS CI
    generalize lineToks s = ts at CS CI hts
    generalize (tokLine s.data.toList).isSome = ok at CS CI
    have HCS := Lib.hid CS
    have HCI := Lib.hid CI
    obtain ⟨n, hn⟩ : ∃ n, ts.length = n := ⟨_, rfl⟩
    have HN := Lib.hid hn
    rw [hn] at hts
    have hne : (ok != ok) = false := by simp
    clear CS CI hn
    go_enter Tryd.func7, Tryd.ntmps7
    go_wp2_with fail
    refine (HCS.out w).mono ?_
    rintro e w1 ⟨A0, c0, rfl, hc0, hm0, hb1⟩
    rw [HN.out] at hc0 ⊢
    have HR0 := Lib.hid hm0.row
    have HB1 := Lib.hid hb1
    clear hm0 hb1
    go_wp2_with fail
    refine (HCI.out w1 HB1.out).mono ?_
    rintro e w2 ⟨A1, c1, rfl, hc1, hm1, hb2⟩
    rw [HN.out] at hc1 ⊢
    have HR0b := Lib.hid (HR0.out.below hb2)
    have HM1 := Lib.hid hm1
    have HB2 : Hid (Below w.heap.size w w2) := HB1.out.trans (hb2.mono HB1.out.size)
    have hs12 := hb2.size
    clear hm1 hb2
    go_wp2_with fail
    refine (eqTokS_same A1 A0 c1 c0 n ts w2 HM1.out.row (HR0b.out.more hs12) HN (by omega)).mono ?_
    rintro e w3 ⟨rfl, hb3⟩
    have HM3 := Lib.hid (HM1.out.below hb3)
    have HR03 := Lib.hid (HR0b.out.keep (w' := w3) fun p hp => hb3.cell (Nat.lt_of_lt_of_le hp hs12))
    have HB3 : Hid (Below w.heap.size w w3) := HB2.out.trans (hb3.mono HB2.out.size)
    have hs13 : w1.heap.size ≤ w3.heap.size := Nat.le_trans hs12 hb3.size
    clear hb3
    go_wp2_with fail
    refine (markTokS A1 n c1 w1.heap.size 1 ts w3 HM3.out HN hs13 (by omega) (by omega) (by omega)).mono ?_
    rintro e w4 ⟨rfl, hm4, hb4⟩
    have HM4 := Lib.hid hm4
    have HR04 := Lib.hid (HR03.out.keep (w' := w4) fun p hp => hb4.cell hp)
    have HB4 : Hid (Below w.heap.size w w4) := HB3.out.trans (hb4.mono HB1.out.size)
    have hs14 : w1.heap.size ≤ w4.heap.size := Nat.le_trans hs13 hb4.size
    have hk : ((1 + 3 * n : Nat) : Int) ≤ 1000 := by omega
    have hk0 : (0 : Int) ≤ ((1 + 3 * n : Nat) : Int) := by omega
    have CH := fun W (h : Row W W.heap.size A1 (tksV (marksTk 1 n))) => heldTokS A1 n c1 1 W h (by omega) (by omega) (by omega)
    clear hm4 hb4
    obtain ⟨q, hq⟩ : ∃ q, q = 1 + 3 * n := ⟨_, rfl⟩
    rw [← hq] at hk hk0 CH ⊢
    have HCH := Lib.hid CH
    have hqq : ((q : Int) != (q : Int)) = false := by simp
    have hq0 : ¬ ((q : Int) < 0) := by omega
    clear hq CH
    go_wp2_with fail
    refine (HCH.out w4 HM4.out.row).mono ?_
    rintro e w5 ⟨rfl, hb5⟩
    have HM5 := Lib.hid (HM4.out.below hb5)
    have HR05 := Lib.hid (HR04.out.keep (w' := w5) fun p hp => hb5.cell (Nat.lt_of_lt_of_le hp hs14))
    have HB5 : Hid (Below w.heap.size w w5) := HB4.out.trans (hb5.mono HB4.out.size)
    have hs15 : w1.heap.size ≤ w5.heap.size := Nat.le_trans hs14 hb5.size
    clear hb5
    go_wp2_with fail
    refine (HCI.out w5 HB5.out).mono ?_
    rintro e w6 ⟨A6, c6, rfl, hc6, hm6, hb6⟩
    rw [HN.out] at hc6 ⊢
    have HM6 := Lib.hid (HM5.out.below hb6)
    have HX6 := Lib.hid hm6
    have HR06 := Lib.hid (HR05.out.keep (w' := w6) fun p hp => hb6.cell (Nat.lt_of_lt_of_le hp hs15))
    have HB6 : Hid (Below w.heap.size w w6) := HB5.out.trans (hb6.mono HB5.out.size)
    have hs16 : w1.heap.size ≤ w6.heap.size := Nat.le_trans hs15 hb6.size
    clear hb6 hm6
    go_wp2_with fail
    refine (eqTokS_same A6 A0 c6 c0 n ts w6 HX6.out.row (HR06.out.more hs16) HN (by omega)).mono ?_
    rintro e w7 ⟨rfl, hb7⟩
    have HM7 := Lib.hid (HM6.out.below hb7)
    have HB7 : Hid (Below w.heap.size w w7) := HB6.out.trans (hb7.mono HB6.out.size)
    clear hb7
    go_wp2_with fail
    refine (HCH.out w7 HM7.out.row).mono ?_
    rintro e w8 ⟨rfl, hb8⟩
    have HB8 : Hid (Below w.heap.size w w8) := HB7.out.trans (hb8.mono HB7.out.size)
    clear hb8
    go_wp2_with fail
    go_ret
    exact ⟨rfl, HB8.out⟩
end Go.Proofs.YtlhmebdljamgkaaDoor
