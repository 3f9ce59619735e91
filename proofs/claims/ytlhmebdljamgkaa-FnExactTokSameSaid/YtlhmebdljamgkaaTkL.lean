/- The walk of FnExactTokSame; toTokS, eqTokS. -/
import Derived.Test.YtlhmebdljamgkaaTkS
namespace Go.Proofs.Ytlhmebdljamgkaa
open Go.RowKit
set_option linter.unusedVariables false

theorem tksV_set : ∀ (ts : List Tk) (i : Nat) (t : Tk), i < ts.length → (((tksV ts).set (i * 3) (.int .i64 t.kind)).set (i * 3 + 1) (.string t.s)).set (i * 3 + 2) (.int .i64 t.col) = tksV (ts.set i t)
  | x :: ts, 0, t, _ => by simp [tksV_cons, tkV]
  | x :: ts, i + 1, t, h => by
    have e := tksV_set ts i t (by simpa using h)
    rw [List.set_cons_succ, tksV_cons, tksV_cons, ← e]
    rw [show (i + 1) * 3 = i * 3 + 3 by omega]
    simp [tkV, List.set_cons_succ]
def fillT (xs : List Tk) (k : Nat) : List Tk := xs.take k ++ List.replicate (xs.length - k) tk0
theorem fillT_zero (xs : List Tk) : fillT xs 0 = List.replicate xs.length tk0 := by simp [fillT]
theorem fillT_all (xs : List Tk) : fillT xs xs.length = xs := by simp [fillT]
theorem fillT_len (xs : List Tk) (k : Nat) (h : k ≤ xs.length) : (fillT xs k).length = xs.length := by simp [fillT]; omega
theorem fillT_set (xs : List Tk) (k : Nat) (h : k < xs.length) : (fillT xs k).set k xs[k] = fillT xs (k + 1) := by
  apply List.ext_getElem
  · simp [fillT]; omega
  · intro i h1 h2
    simp only [fillT, List.getElem_set, List.getElem_append, List.length_take, List.getElem_take, List.getElem_replicate]
    by_cases hk : k = i
    · subst hk; rw [if_pos rfl, dif_pos (by omega)]
    · rw [if_neg hk]
      by_cases hi : i < k
      · rw [dif_pos (by omega), dif_pos (by omega)]
      · rw [dif_neg (by omega), dif_neg (by omega)]

set_option maxHeartbeats 2000000 in
theorem toTokS (A : Option Addr) (c n : Nat) (xs : List Tk) (w : World) (hr : Row w w.heap.size A (tksV xs)) (hl : Hid (xs.length = n)) (hn : (n : Int) ≤ 1048576) :
    Calls Try.prog 12 #[.slice A n c] w fun e w' => e = .returned (.slice (some ⟨w.heap.size, 0, none⟩) n n) ∧ Blk w' w.heap.size 44 (tksV xs) ∧ Below w.heap.size w w' := by
  have hmk := makeToks n hn w
  go_enter Try.func12, Try.ntmps12
  go_wp2
  clear hmk
  go_loopw [4] (fun v wr => ∃ k : Nat, v = .int .i64 (k : Int) ∧ k ≤ n ∧ Blk wr w.heap.size 44 (tksV (fillT xs k)) ∧ Below w.heap.size w wr) (fun v _ => n - (intOf v).toNat)
  case atStart =>
    refine ⟨0, rfl, Nat.zero_le _, ?_, (Below.refl _ _).alloc (Nat.le_refl _) _⟩
    rw [fillT_zero, hl.out]; exact Blk.alloc_ _ _ _
  case round =>
    obtain ⟨k, rfl, hk, hb, hbw⟩ := hrel
    by_cases hlt : k < n
    · have hx : k < xs.length := by rw [hl.out]; exact hlt
      obtain ⟨b, o, rfl, hbb, d0, d1, d2⟩ := hr.tk hx
      have c0 := (hbw.cell (p := ⟨b, o + k * 3, none⟩) hbb).trans d0
      have c1 := (hbw.cell (p := ⟨b, o + k * 3 + 1, none⟩) hbb).trans d1
      have c2 := (hbw.cell (p := ⟨b, o + k * 3 + 2, none⟩) hbb).trans d2
      obtain ⟨x, ex⟩ : ∃ x, x = xs[k] := ⟨_, rfl⟩
      have HF : Hid ((fillT xs k).set k x = fillT xs (k + 1)) := by rw [ex]; exact fillT_set xs k hx
      have HL : Hid (k < (fillT xs k).length) := by unfold Hid; rw [fillT_len _ _ (by omega)]; exact hx
      rw [← ex] at d0 d1 d2 c0 c1 c2
      clear d0 d1 d2 ex
      go_wp2_with fail
      refine (toTok x wr).mono ?_
      rintro e w1 ⟨rfl, hb1⟩
      have hb2 := hb.below hb1 hb.lt
      have HB1 : Hid (Below w.heap.size w w1) := hbw.trans (hb1.mono hbw.size)
      clear c0 c1 c2 hb hb1 hbw
      have hlen : (tksV (fillT xs k)).length = xs.length * 3 := by rw [tksV_length, fillT_len _ _ (by omega)]
      have g0 : ∃ v, w1.cell? ⟨w.heap.size, k * 3, none⟩ = some v := ⟨_, by rw [hb2.cell]; exact List.getElem?_eq_getElem (by rw [hlen]; omega)⟩
      have g1 : ∃ v, w1.cell? ⟨w.heap.size, k * 3 + 1, none⟩ = some v := ⟨_, by rw [hb2.cell]; exact List.getElem?_eq_getElem (by rw [hlen]; omega)⟩
      have g2 : ∃ v, w1.cell? ⟨w.heap.size, k * 3 + 2, none⟩ = some v := ⟨_, by rw [hb2.cell]; exact List.getElem?_eq_getElem (by rw [hlen]; omega)⟩
      obtain ⟨v0, e0⟩ := g0
      obtain ⟨v1, e1⟩ := g1
      obtain ⟨v2, e2⟩ := g2
      have f0 := hb2.frozen (k * 3)
      have f1 := hb2.frozen (k * 3 + 1)
      have f2 := hb2.frozen (k * 3 + 2)
      have HB2 := Lib.hid hb2
      clear hb2 hlen
      go_wp2_with fail
      go_roundw
      case rel =>
        refine ⟨k + 1, by go_num, by omega, ?_, ((HB1.out.setCell (Nat.le_refl _) _).setCell (Nat.le_refl _) _).setCell (Nat.le_refl _) _⟩
        have := ((HB2.out.put (k * 3) (.int .i64 x.kind)).put (k * 3 + 1) (.string x.s)).put (k * 3 + 2) (.int .i64 x.col)
        rw [tksV_set _ _ _ HL.out, HF.out] at this
        exact this
      case measure => simp [intOf]; omega
    · obtain rfl : k = n := by omega
      have hb' : Blk wr w.heap.size 44 (tksV xs) := by have := hb; rw [← hl.out, fillT_all] at this; exact this
      clear hb
      go_wp2
      go_ret
      exact ⟨rfl, hb', hbw⟩

set_option maxHeartbeats 2000000 in
theorem eqTokS_same (A A' : Option Addr) (c c' n : Nat) (xs : List Tk) (w : World) (hr : Row w w.heap.size A (tksV xs)) (hr' : Row w w.heap.size A' (tksV xs)) (hl : Hid (xs.length = n)) (hn : (n : Int) ≤ 140737488355328) :
    Calls Try.prog 14 #[.slice A n c, .slice A' n c'] w fun e w' => e = .returned (.bool true) ∧ Below w.heap.size w w' := by
  go_enter Try.func14, Try.ntmps14
  have hne : ((n : Int) != n) = false := by simp
  go_wp2_with fail
  go_loopw [5] (fun v wr => ∃ k : Nat, v = .int .i64 (k : Int) ∧ k ≤ n ∧ Below w.heap.size w wr) (fun v _ => n - (intOf v).toNat)
  case atStart => exact ⟨0, rfl, Nat.zero_le _, Below.refl _ _⟩
  case round =>
    obtain ⟨k, rfl, hk, hbw⟩ := hrel
    have HB := Lib.hid hbw; clear hbw
    by_cases hlt : k < n
    · have hx : k < xs.length := by rw [hl.out]; exact hlt
      obtain ⟨b, o, rfl, hb, d0, d1, d2⟩ := hr.tk hx
      obtain ⟨b', o', rfl, hb', d0', d1', d2'⟩ := hr'.tk hx
      have c0 := (HB.out.cell (p := ⟨b, o + k * 3, none⟩) hb).trans d0
      have c1 := (HB.out.cell (p := ⟨b, o + k * 3 + 1, none⟩) hb).trans d1
      have c2 := (HB.out.cell (p := ⟨b, o + k * 3 + 2, none⟩) hb).trans d2
      have c0' := (HB.out.cell (p := ⟨b', o' + k * 3, none⟩) hb').trans d0'
      have c1' := (HB.out.cell (p := ⟨b', o' + k * 3 + 1, none⟩) hb').trans d1'
      have c2' := (HB.out.cell (p := ⟨b', o' + k * 3 + 2, none⟩) hb').trans d2'
      have h0 : (0 : Int) ≤ (k : Int) := by omega
      have h1 : (k : Int) < (n : Int) := by omega
      clear d0 d1 d2 d0' d1' d2'
      generalize xs[k] = x at *
      have cE : ∀ d os, Calls Try.prog 24 #[.agg #[.int .i64 x.kind, .string x.s, .int .i64 x.col], .agg #[.int .i64 x.kind, .string x.s, .int .i64 x.col]] (Go.Sort.grow (redrawn wr d) os) fun e w'' => e = .returned (.bool true) ∧ ∃ p : Regrown, w'' = Go.Sort.grow (redrawn wr p.d) p.os := fun d os => Calls.regrown_of (eqTok_same x _)
      have CE := Lib.hid cE; clear cE
      have q0 := cell_regrown c0
      have q1 := cell_regrown c1
      have q2 := cell_regrown c2
      have q0' := cell_regrown c0'
      have q1' := cell_regrown c1'
      have q2' := cell_regrown c2'
      go_wp2_with fail
      refine wp_region_quiet_below (by kernel_rfl) (by kernel_rfl) ?_
      repeat (go_big_quiet_step (with_reducible exact CE.out _ _))
      refine wpQuiet_nil ?_
      intro w5 hw'
      have hb5 : Below wr.heap.size wr w5 := by obtain ⟨⟨dq, osq⟩, rfl⟩ := hw'; exact below_regrown _ _ _
      have HB5 : Hid (Below w.heap.size w w5) := HB.out.trans (hb5.mono HB.out.size)
      clear hw' hb5 c0 c1 c2 c0' c1' c2' q0 q1 q2 q0' q1' q2'
      go_wp2_with fail
      go_roundw
      case rel => exact ⟨k + 1, by go_num, by omega, HB5.out⟩
      case measure => simp [intOf]; omega
    · obtain rfl : k = n := by omega
      go_wp2
      go_ret
      exact ⟨rfl, HB.out⟩
set_option maxHeartbeats 2000000 in
theorem law_FnExactTokSame (A : Option Addr) (n c : Nat) (z : List Tk) (A' : Option Addr) (n' c' : Nat) (z' : List Tk) (w : World) (hz : IsToks w A n c z) (hz' : IsToks w A' n' c' z') :
    Calls Try.prog 4 #[.slice A n c, .slice A' n' c'] w fun e w' => e = .returned (.bool true) ∧ Below w.heap.size w w' := by
  obtain ⟨hl, hnc, hcm, hr, hw⟩ := hz
  obtain ⟨hl', hnc', hcm', hr', hw'⟩ := hz'
  unfold maxLen at hcm hcm' hw hw'
  have HW : Hid (∀ t ∈ z, (t.s.size : Int) ≤ 9223372036854775807) := fun t ht => by have := (hw t ht).1; omega
  have HW' : Hid (∀ t ∈ z', (t.s.size : Int) ≤ 9223372036854775807) := fun t ht => by have := (hw' t ht).1; omega
  have HL := Lib.hid hl
  have HL' := Lib.hid hl'
  have hn : (n : Int) ≤ 9223372036854775807 := by omega
  have hn' : (n' : Int) ≤ 9223372036854775807 := by omega
  clear hl hl' hw hw' hcm hcm'
  go_enter Try.func4, Try.ntmps4
  go_wp2_with fail
  refine (szTokS A c n 1048576 z w hr HL hn HW.out (by omega) (by omega)).mono ?_
  rintro e w1 ⟨r, rfl, hr1, hb1⟩
  by_cases hneg : r < 0
  · clear hr1
    go_wp2_with fail
    go_ret
    exact ⟨rfl, hb1⟩
  · have hs1 := hb1.size
    have hN : (n : Int) ≤ 1048576 := by have := HL.out; omega
    have hr0 : 0 ≤ r := by omega
    have hr2 : r ≤ 1048576 := by omega
    have hrA1' := hr'.below hb1
    have hrA1 := hr.below hb1
    have hA1 := hrA1.more hs1
    have hA1' := hrA1'.more hs1
    clear hr1
    go_wp2_with fail
    refine (szTokS A' c' n' r z' w1 hA1' HL' hn' HW'.out hr0 hr2).mono ?_
    rintro e w2 ⟨r', rfl, hr3, hb2⟩
    have hB2 := hb1.trans (hb2.mono hs1)
    by_cases hneg' : r' < 0
    · clear hr3
      go_wp2_with fail
      go_ret
      exact ⟨rfl, hB2⟩
    · have hs2 := hb2.size
      have hN' : (n' : Int) ≤ 1048576 := by have := HL'.out; omega
      have hA2 := (hA1.below hb2).more hs2
      have hA2' := (hA1'.below hb2).more hs2
      clear hr3 hrA1 hrA1' hA1 hA1' hb1 hb2 HW HW'
      go_wp2_with fail
      refine (toTokS A c n z w2 hA2 HL hN).mono ?_
      rintro e w3 ⟨rfl, hk3, hb3⟩
      have hs3 := hb3.size
      have hA3 := (hA2.below hb3).more hs3
      have hA3' := (hA2'.below hb3).more hs3
      have hB3 := hB2.trans (hb3.mono hB2.size)
      go_wp2_with fail
      refine (toTokS A' c' n' z' w3 hA3' HL' hN').mono ?_
      rintro e w4 ⟨rfl, hk4, hb4⟩
      have hs4 := hb4.size
      have hA4 := (hA3.below hb4).more hs4
      have hA4' := (hA3'.below hb4).more hs4
      have hB4 := hB3.trans (hb4.mono hB3.size)
      have hk34 := hk3.below hb4 hk3.lt
      clear hA2 hA2' hb3 hA3 hA3' hB2 hk3
      go_wp2_with fail
      refine (specTokSame _ _ n n n' n' z z' w4 hk34.row hk4.row HL HL' (by omega) (by omega)).mono ?_
      rintro e w5 ⟨rfl, hb5⟩
      have hs5 := hb5.size
      have hA5 := (hA4.below hb5).more hs5
      have hA5' := (hA4'.below hb5).more hs5
      have hB5 := hB4.trans (hb5.mono hB4.size)
      clear hA4 hA4' hb4 hb5 hk34 hk4 hB3
      go_wp2_with fail
      refine (toTokS A c n z w5 hA5 HL hN).mono ?_
      rintro e w6 ⟨rfl, hk6, hb6⟩
      have hs6 := hb6.size
      have hA6 := (hA5.below hb6).more hs6
      have hA6' := (hA5'.below hb6).more hs6
      have hB6 := hB5.trans (hb6.mono hB5.size)
      clear hA5 hA5' hb6 hB4
      go_wp2_with fail
      refine (toTokS A' c' n' z' w6 hA6' HL' hN').mono ?_
      rintro e w7 ⟨rfl, hk7, hb7⟩
      have hs7 := hb7.size
      have hA7 := (hA6.below hb7).more hs7
      have hA7' := (hA6'.below hb7).more hs7
      have hB7 := hB6.trans (hb7.mono hB6.size)
      have hk67 := hk6.below hb7 hk6.lt
      clear hA6 hA6' hb7 hB5 hk6
      go_wp2_with fail
      refine (implTokSame _ _ n n n' n' z z' w7 hk67.row hk7.row HL HL' (by omega) (by omega)).mono ?_
      rintro e w8 ⟨rfl, hb8⟩
      have hs8 := hb8.size
      have hA8 := (hA7.below hb8).more hs8
      have hA8' := (hA7'.below hb8).more hs8
      have hB8 := hB7.trans (hb8.mono hB7.size)
      have hk68 := hk67.below hb8 hk67.lt
      have hk78 := hk7.below hb8 hk7.lt
      clear hA7 hA7' hb8 hB6 hk67 hk7
      have hne : (tkSame z z' != tkSame z z') = false := by simp
      generalize tkSame z z' = same at *
      go_wp2_with fail
      refine (toTokS A c n z w8 hA8 HL hN).mono ?_
      rintro e w9 ⟨rfl, hk9, hb9⟩
      have hs9 := hb9.size
      have hA9' := (hA8'.below hb9).more hs9
      have hB9 := hB8.trans (hb9.mono hB8.size)
      have hk69 := hk68.below hb9 hk68.lt
      have hk79 := hk78.below hb9 hk78.lt
      clear hA8 hA8' hb9 hB7 hk68 hk78
      go_wp2_with fail
      refine (eqTokS_same _ _ n n n z w9 hk69.row hk9.row HL (by omega)).mono ?_
      rintro e w10 ⟨rfl, hb10⟩
      have hs10 := hb10.size
      have hA10' := (hA9'.below hb10).more hs10
      have hB10 := hB9.trans (hb10.mono hB9.size)
      have hk710 := hk79.below hb10 hk79.lt
      clear hA9' hb10 hB8 hk69 hk9 hk79
      go_wp2_with fail
      refine (toTokS A' c' n' z' w10 hA10' HL' hN').mono ?_
      rintro e w11 ⟨rfl, hk11, hb11⟩
      have hs11 := hb11.size
      have hB11 := hB10.trans (hb11.mono hB10.size)
      have hk711 := hk710.below hb11 hk710.lt
      clear hA10' hb11 hB9 hk710
      go_wp2_with fail
      refine (eqTokS_same _ _ n' n' n' z' w11 hk711.row hk11.row HL' (by omega)).mono ?_
      rintro e w12 ⟨rfl, hb12⟩
      have hB12 := hB11.trans (hb12.mono hB11.size)
      clear hb12
      go_wp2_with fail
      go_ret
      exact ⟨rfl, hB12⟩
end Go.Proofs.Ytlhmebdljamgkaa
