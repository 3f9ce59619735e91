/- Walks over slices of words: szTokS, toTokS, eqTokS, TokSame. -/
import Derived.Test.YtlhmebdljamgkaaTkB
import Derived.Lib.QuietBelow
namespace Go.Proofs.Ytlhmebdljamgkaa
open Go.RowKit
set_option linter.unusedVariables false

open Classical in
noncomputable def tkSame (ts us : List Tk) : Bool := decide (ts = us)
theorem tkSame_true {ts us : List Tk} (h : ts = us) : tkSame ts us = true := by simp [tkSame, h]
theorem tkSame_false {ts us : List Tk} (h : ts ≠ us) : tkSame ts us = false := by simp [tkSame, h]
theorem tk_ne {x y : Tk} (h : x ≠ y) : x.kind ≠ y.kind ∨ x.kind = y.kind ∧ x.s ≠ y.s ∨ x.kind = y.kind ∧ x.s = y.s ∧ x.col ≠ y.col := by
  obtain ⟨a, b, c⟩ := x
  obtain ⟨d, e, f⟩ := y
  by_cases h1 : a = d
  · by_cases h2 : b = e
    · by_cases h3 : c = f
      · subst h1 h2 h3; exact absurd rfl h
      · exact .inr (.inr ⟨h1, h2, h3⟩)
    · exact .inr (.inl ⟨h1, h2⟩)
  · exact .inl h1
theorem str_ne {a b : ByteArray} (h : a ≠ b) : (a.toList == b.toList) = false := by
  rw [beq_eq_false_iff_ne]; intro e; apply h
  rw [ByteArray.toList_eq, ByteArray.toList_eq] at e
  apply ByteArray.ext; apply Array.ext'; exact e
theorem take_next {ts us : List Tk} {k : Nat} (h : ts.take k = us.take k) (h1 : k < ts.length) (h2 : k < us.length) (e : ts[k] = us[k]) : ts.take (k + 1) = us.take (k + 1) := by
  rw [List.take_succ_eq_append_getElem h1, List.take_succ_eq_append_getElem h2, h, e]

set_option maxHeartbeats 4000000 in
theorem specTokSame (A A' : Option Addr) (n c n' c' : Nat) (ts us : List Tk) (w : World) (hr : Row w w.heap.size A (tksV ts)) (hr' : Row w w.heap.size A' (tksV us)) (hl : Hid (ts.length = n)) (hl' : Hid (us.length = n')) (hn : (n : Int) ≤ 140737488355328) (hn' : (n' : Int) ≤ 140737488355328) :
    Calls Try.prog 11 #[.slice A n c, .slice A' n' c'] w fun e w' => e = .returned (.bool (tkSame ts us)) ∧ Below w.heap.size w w' := by
  by_cases hnn : n = n'
  · subst hnn
    have hne : ((n : Int) != n) = false := by simp
    go_enter Try.func11, Try.ntmps11
    go_wp2_with fail
    go_loopw [5] (fun v wr => ∃ k : Nat, v = .int .i64 (k : Int) ∧ k ≤ n ∧ Hid (ts.take k = us.take k) ∧ Below w.heap.size w wr) (fun v _ => n - (intOf v).toNat)
    case atStart => exact ⟨0, rfl, Nat.zero_le _, rfl, Below.refl _ _⟩
    case round =>
      obtain ⟨k, rfl, hk, ht, hbw⟩ := hrel
      have HB := Lib.hid hbw; clear hbw
      by_cases hlt : k < n
      · have hx : k < ts.length := by rw [hl.out]; exact hlt
        have hx' : k < us.length := by rw [hl'.out]; exact hlt
        obtain ⟨b, o, rfl, hb, d0, d1, d2⟩ := hr.tk hx
        obtain ⟨b', o', rfl, hb', d0', d1', d2'⟩ := hr'.tk hx'
        have c0 := (HB.out.cell (p := ⟨b, o + k * 3, none⟩) hb).trans d0
        have c1 := (HB.out.cell (p := ⟨b, o + k * 3 + 1, none⟩) hb).trans d1
        have c2 := (HB.out.cell (p := ⟨b, o + k * 3 + 2, none⟩) hb).trans d2
        have c0' := (HB.out.cell (p := ⟨b', o' + k * 3, none⟩) hb').trans d0'
        have c1' := (HB.out.cell (p := ⟨b', o' + k * 3 + 1, none⟩) hb').trans d1'
        have c2' := (HB.out.cell (p := ⟨b', o' + k * 3 + 2, none⟩) hb').trans d2'
        have h0 : (0 : Int) ≤ (k : Int) := by omega
        have h1 : (k : Int) < (n : Int) := by omega
        clear d0 d1 d2 d0' d1' d2'
        by_cases he : ts[k] = us[k]
        · have HT := Lib.hid (take_next ht.out hx hx' he)
          rw [← he] at c0' c1' c2'
          generalize ts[k] = x at *
          obtain ⟨xk, xs, xc⟩ := x
          simp only at c0 c1 c2 c0' c1' c2'
          clear he hx hx'
          go_wp2
          go_quiet (fail)
          go_wp2
          go_roundw
          case rel => exact ⟨k + 1, by go_num, by omega, HT.out, drewN_below HB.out _⟩
          case measure => simp [intOf]; omega
        · have HF : Hid (tkSame ts us = false) := tkSame_false (by rintro rfl; exact he rfl)
          have hcase := tk_ne he
          clear he
          generalize ts[k] = x at *
          generalize us[k] = y at *
          obtain ⟨xk, xs, xc⟩ := x
          obtain ⟨yk, ys, yc⟩ := y
          simp only at c0 c1 c2 c0' c1' c2' hcase
          clear hx hx'
          rcases hcase with h3 | ⟨rfl, h3⟩ | ⟨rfl, rfl, h3⟩
          · have h4 : (xk == yk) = false := by simp [h3]
            clear h3
            go_wp2
            go_quiet (fail)
            go_wp2
            go_ret
            exact ⟨by rw [HF.out]; rfl, drewN_below HB.out _⟩
          · have h4 := str_ne h3
            clear h3
            go_wp2
            go_quiet (fail)
            go_wp2
            go_ret
            exact ⟨by rw [HF.out]; rfl, drewN_below HB.out _⟩
          · have h4 : (xc == yc) = false := by simp [h3]
            clear h3
            go_wp2
            go_quiet (fail)
            go_wp2
            go_ret
            exact ⟨by rw [HF.out]; rfl, drewN_below HB.out _⟩
      · obtain rfl : k = n := by omega
        have HT : Hid (tkSame ts us = true) := tkSame_true (by
          have h1 := ht.out
          rwa [List.take_of_length_le (by rw [hl.out]; exact Nat.le_refl _), List.take_of_length_le (by rw [hl'.out]; exact Nat.le_refl _)] at h1)
        go_wp2
        go_ret
        exact ⟨by rw [HT.out]; rfl, HB.out⟩
  · have HF : Hid (tkSame ts us = false) := tkSame_false (by rintro rfl; exact hnn (hl.out.symm.trans hl'.out))
    have hne : ((n : Int) != (n' : Int)) = true := by rw [bne_iff_ne]; omega
    clear hnn
    go_enter Try.func11, Try.ntmps11
    go_wp2
    go_ret
    exact ⟨by rw [HF.out]; rfl, Below.refl _ _⟩

set_option maxHeartbeats 4000000 in
theorem slicesEqualTok (A A' : Option Addr) (n c n' c' : Nat) (ts us : List Tk) (w : World) (hr : Row w w.heap.size A (tksV ts)) (hr' : Row w w.heap.size A' (tksV us)) (hl : Hid (ts.length = n)) (hl' : Hid (us.length = n')) (hn : (n : Int) ≤ 140737488355328) (hn' : (n' : Int) ≤ 140737488355328) :
    Calls Try.prog 23 #[.slice A n c, .slice A' n' c'] w fun e w' => e = .returned (.bool (tkSame ts us)) ∧ Below w.heap.size w w' := by
  by_cases hnn : n = n'
  · subst hnn
    have hne : ((n : Int) != n) = false := by simp
    go_enter Try.func23, Try.ntmps23
    go_wp2_with fail
    go_loopw [13] (fun v wr => ∃ k : Nat, v = .int .i64 (k : Int) ∧ k ≤ n ∧ Hid (ts.take k = us.take k) ∧ Below w.heap.size w wr) (fun v _ => n - (intOf v).toNat)
    case atStart => exact ⟨0, rfl, Nat.zero_le _, rfl, Below.refl _ _⟩
    case round =>
      obtain ⟨k, rfl, hk, ht, hbw⟩ := hrel
      have HB := Lib.hid hbw; clear hbw
      by_cases hlt : k < n
      · have hx : k < ts.length := by rw [hl.out]; exact hlt
        have hx' : k < us.length := by rw [hl'.out]; exact hlt
        obtain ⟨b, o, rfl, hb, d0, d1, d2⟩ := hr.tk hx
        obtain ⟨b', o', rfl, hb', d0', d1', d2'⟩ := hr'.tk hx'
        have c0 := (HB.out.cell (p := ⟨b, o + k * 3, none⟩) hb).trans d0
        have c1 := (HB.out.cell (p := ⟨b, o + k * 3 + 1, none⟩) hb).trans d1
        have c2 := (HB.out.cell (p := ⟨b, o + k * 3 + 2, none⟩) hb).trans d2
        have c0' := (HB.out.cell (p := ⟨b', o' + k * 3, none⟩) hb').trans d0'
        have c1' := (HB.out.cell (p := ⟨b', o' + k * 3 + 1, none⟩) hb').trans d1'
        have c2' := (HB.out.cell (p := ⟨b', o' + k * 3 + 2, none⟩) hb').trans d2'
        have h0 : (0 : Int) ≤ (k : Int) := by omega
        have h1 : (k : Int) < (n : Int) := by omega
        clear d0 d1 d2 d0' d1' d2'
        by_cases he : ts[k] = us[k]
        · have HT := Lib.hid (take_next ht.out hx hx' he)
          rw [← he] at c0' c1' c2'
          generalize ts[k] = x at *
          obtain ⟨xk, xs, xc⟩ := x
          simp only at c0 c1 c2 c0' c1' c2'
          clear he hx hx'
          go_wp2
          go_quiet (fail)
          go_wp2
          go_roundw
          case rel => exact ⟨k + 1, by go_num, by omega, HT.out, drewN_below HB.out _⟩
          case measure => simp [intOf]; omega
        · have HF : Hid (tkSame ts us = false) := tkSame_false (by rintro rfl; exact he rfl)
          have hcase := tk_ne he
          clear he
          generalize ts[k] = x at *
          generalize us[k] = y at *
          obtain ⟨xk, xs, xc⟩ := x
          obtain ⟨yk, ys, yc⟩ := y
          simp only at c0 c1 c2 c0' c1' c2' hcase
          clear hx hx'
          rcases hcase with h3 | ⟨rfl, h3⟩ | ⟨rfl, rfl, h3⟩
          · have h4 : (xk == yk) = false := by simp [h3]
            clear h3
            go_wp2
            go_quiet (fail)
            go_wp2
            go_ret
            exact ⟨by rw [HF.out]; rfl, drewN_below HB.out _⟩
          · have h4 := str_ne h3
            clear h3
            go_wp2
            go_quiet (fail)
            go_wp2
            go_ret
            exact ⟨by rw [HF.out]; rfl, drewN_below HB.out _⟩
          · have h4 : (xc == yc) = false := by simp [h3]
            clear h3
            go_wp2
            go_quiet (fail)
            go_wp2
            go_ret
            exact ⟨by rw [HF.out]; rfl, drewN_below HB.out _⟩
      · obtain rfl : k = n := by omega
        have HT : Hid (tkSame ts us = true) := tkSame_true (by
          have h1 := ht.out
          rwa [List.take_of_length_le (by rw [hl.out]; exact Nat.le_refl _), List.take_of_length_le (by rw [hl'.out]; exact Nat.le_refl _)] at h1)
        go_wp2
        go_ret
        exact ⟨by rw [HT.out]; rfl, HB.out⟩
  · have HF : Hid (tkSame ts us = false) := tkSame_false (by rintro rfl; exact hnn (hl.out.symm.trans hl'.out))
    have hne : ((n : Int) != (n' : Int)) = true := by rw [bne_iff_ne]; omega
    clear hnn
    go_enter Try.func23, Try.ntmps23
    go_wp2
    go_ret
    exact ⟨by rw [HF.out]; rfl, Below.refl _ _⟩

theorem implTokSame (A A' : Option Addr) (n c n' c' : Nat) (ts us : List Tk) (w : World) (hr : Row w w.heap.size A (tksV ts)) (hr' : Row w w.heap.size A' (tksV us)) (hl : Hid (ts.length = n)) (hl' : Hid (us.length = n')) (hn : (n : Int) ≤ 140737488355328) (hn' : (n' : Int) ≤ 140737488355328) :
    Calls Try.prog 13 #[.slice A n c, .slice A' n' c'] w fun e w' => e = .returned (.bool (tkSame ts us)) ∧ Below w.heap.size w w' := by
  go_enter Try.func13, Try.ntmps13
  go_wp2_with fail
  refine (slicesEqualTok A A' n c n' c' ts us w hr hr' hl hl' hn hn').mono ?_
  rintro e w1 ⟨rfl, hb⟩
  go_wp2_with fail
  go_ret
  exact ⟨rfl, hb⟩

set_option maxHeartbeats 1000000 in
theorem toTok (x : Tk) (w : World) :
    Calls Try.prog 22 #[.agg #[.int .i64 x.kind, .string x.s, .int .i64 x.col]] w fun e w' => e = .returned (.agg #[.int .i64 x.kind, .string x.s, .int .i64 x.col]) ∧ Below w.heap.size w w' := by
  obtain ⟨k, s, c⟩ := x
  simp only
  go_enter Try.func22, Try.ntmps22
  go_wp2_with fail
  go_returns
  exact ⟨rfl, by go_grown⟩

set_option maxHeartbeats 1000000 in
theorem eqTok_same (x : Tk) (w : World) :
    Calls Try.prog 24 #[.agg #[.int .i64 x.kind, .string x.s, .int .i64 x.col], .agg #[.int .i64 x.kind, .string x.s, .int .i64 x.col]] w fun e w' => e = .returned (.bool true) ∧ Below w.heap.size w w' := by
  obtain ⟨k, s, c⟩ := x
  simp only
  have h1 : (k != k) = false := by simp
  have h2 : (c != c) = false := by simp
  have h3 : (s.toList == s.toList) = true := by simp
  go_enter Try.func24, Try.ntmps24
  go_wp2_with fail
  go_ret
  exact ⟨rfl, by go_grown⟩

set_option maxHeartbeats 1000000 in
theorem szTok (x : Tk) (left : Int) (w : World) (h0 : 0 ≤ left) (h1 : left ≤ 1048576) (hs : (x.s.size : Int) ≤ 9223372036854775807) :
    Calls Try.prog 21 #[.agg #[.int .i64 x.kind, .string x.s, .int .i64 x.col], .int .i64 left] w fun e w' => e = .returned (.int .i64 (if left - (x.s.size : Int) < 0 then -1 else left - (x.s.size : Int))) ∧ Below w.heap.size w w' := by
  obtain ⟨k, s, c⟩ := x
  simp only at hs ⊢
  by_cases h : left - (s.size : Int) < 0
  · rw [if_pos h]
    go_enter Try.func21, Try.ntmps21
    go_wp2_with fail
    go_ret
    exact ⟨rfl, by go_grown⟩
  · rw [if_neg h]
    go_enter Try.func21, Try.ntmps21
    go_wp2_with fail
    go_ret
    exact ⟨rfl, by go_grown⟩

def tkSizes (ts : List Tk) : Nat := (ts.map (·.s.size)).sum
theorem tkSizes_take {xs : List Tk} {k : Nat} (h : k < xs.length) : tkSizes (xs.take (k + 1)) = tkSizes (xs.take k) + xs[k].s.size := by
  unfold tkSizes; rw [List.take_succ_eq_append_getElem h, List.map_append, List.sum_append]; simp only [List.map_cons, List.map_nil, List.sum_cons, List.sum_nil]; omega

/-- What szTokS returns. -/
def SzT (xs : List Tk) (left : Int) (w : World) (e : Ending) (w' : World) : Prop := ∃ r : Int, e = .returned (.int .i64 r) ∧ (r < 0 ∨ (0 ≤ r ∧ r ≤ left ∧ ((xs.length + tkSizes xs : Nat) : Int) ≤ left)) ∧ Below w.heap.size w w'
set_option maxHeartbeats 1000000 in
theorem szTokS (A : Option Addr) (c n : Nat) (left : Int) (xs : List Tk) (w : World) (hr : Row w w.heap.size A (tksV xs)) (hl : Hid (xs.length = n)) (hn : (n : Int) ≤ 9223372036854775807) (hs : ∀ t ∈ xs, (t.s.size : Int) ≤ 9223372036854775807) (h0 : 0 ≤ left) (h1 : left ≤ 1048576) :
    Calls Try.prog 10 #[.slice A n c, .int .i64 left] w (SzT xs left w) := by
  by_cases hneg : left - (n : Int) < 0
  · have R : SzT xs left w (.returned (.int .i64 (-1))) w := ⟨_, rfl, .inl (by omega), Below.refl _ _⟩
    have HR := Lib.hid R; clear R
    go_enter Try.func10, Try.ntmps10
    go_wp2_with fail
    go_ret
    exact HR.out
  · have HS := Lib.hid hs; clear hs
    go_enter Try.func10, Try.ntmps10
    go_wp2_with fail
    go_loopw [1, 5] (fun v u wr => ∃ (k : Nat) (r : Int), u = .int .i64 (k : Int) ∧ v = .int .i64 r ∧ k ≤ n ∧ 0 ≤ r ∧ r ≤ left ∧ Hid (r = left - n - (tkSizes (xs.take k) : Int)) ∧ Below w.heap.size w wr) (fun _ u _ => n - (intOf u).toNat)
    case atStart => exact ⟨0, left - n, rfl, rfl, Nat.zero_le _, by omega, by omega, by unfold Hid; simp [tkSizes], Below.refl _ _⟩
    case round =>
      obtain ⟨k, r, rfl, rfl, hk, hr0, hr1, hr2, hbw⟩ := hrel
      have HB := Lib.hid hbw; clear hbw
      by_cases hlt : k < n
      · have hx : k < xs.length := by rw [hl.out]; exact hlt
        obtain ⟨b, o, rfl, hbb, d0, d1, d2⟩ := hr.tk hx
        have c0 := (HB.out.cell (p := ⟨b, o + k * 3, none⟩) hbb).trans d0
        have c1 := (HB.out.cell (p := ⟨b, o + k * 3 + 1, none⟩) hbb).trans d1
        have c2 := (HB.out.cell (p := ⟨b, o + k * 3 + 2, none⟩) hbb).trans d2
        obtain ⟨x, ex⟩ : ∃ x, x = xs[k] := ⟨_, rfl⟩
        have hxs := HS.out x (by rw [ex]; exact List.getElem_mem hx)
        have hst : Hid (tkSizes (xs.take (k + 1)) = tkSizes (xs.take k) + x.s.size) := by unfold Hid; rw [tkSizes_take hx, ex]
        rw [← ex] at c0 c1 c2
        clear d0 d1 d2 ex hx
        have CZ := Lib.hid (szTok x r wr hr0 (by omega) hxs)
        by_cases hneg2 : r - (x.s.size : Int) < 0
        · have e1 : Hid ((if r - (x.s.size : Int) < 0 then -1 else r - (x.s.size : Int)) = -1) := if_pos hneg2
          go_wp2_with fail
          refine CZ.out.mono ?_
          rw [e1.out]
          rintro e w1 ⟨rfl, hb1⟩
          have R : SzT xs left w (.returned (.int .i64 (-1))) w1 := ⟨_, rfl, .inl (by omega), HB.out.trans (hb1.mono HB.out.size)⟩
          have HR := Lib.hid R; clear R hb1
          go_wp2_with fail
          go_ret
          exact HR.out
        · have e1 : Hid ((if r - (x.s.size : Int) < 0 then -1 else r - (x.s.size : Int)) = r - (x.s.size : Int)) := if_neg hneg2
          go_wp2_with fail
          refine CZ.out.mono ?_
          rw [e1.out]
          rintro e w1 ⟨rfl, hb1⟩
          have HB1 : Hid (Below w.heap.size w w1) := HB.out.trans (hb1.mono HB.out.size)
          clear hb1 c0 c1 c2
          go_wp2_with fail
          go_roundw
          case rel => exact ⟨k + 1, r - x.s.size, by go_num, rfl, by omega, by omega, by omega, by have h1 := hr2.out; have h2 := hst.out; unfold Hid; omega, HB1.out⟩
          case measure => simp [intOf]; omega
      · obtain rfl : k = n := by omega
        have R : SzT xs left w (.returned (.int .i64 r)) wr := ⟨r, rfl, .inr ⟨hr0, hr1, by have h1 := hr2.out; rw [← hl.out, List.take_length] at h1; omega⟩, HB.out⟩
        have HR := Lib.hid R; clear R
        go_wp2_with fail
        go_ret
        exact HR.out

theorem tokInfo : (Try.prog.info? 44).map (fun i => (i.zero, i.size, i.bytes)) = some (some (.agg #[.int .i64 0, .string ByteArray.empty, .int .i64 0]), 3, 32) := by kernel_rfl
def tk0 : Tk := ⟨0, ByteArray.empty, 0⟩
theorem made_toks (n : Nat) : madeCells (Value.cells (.agg #[.int .i64 0, .string ByteArray.empty, .int .i64 0])) (n * 3) = (tksV (List.replicate n tk0)).toArray := by
  apply Array.ext_getElem?
  intro i
  by_cases h : i < n * 3
  · have hi : i / 3 < (List.replicate n tk0).length := by simp; omega
    have hg := tksV_get (List.replicate n tk0) (i / 3) (i % 3) hi (by omega)
    rw [show i / 3 * 3 + i % 3 = i by omega, List.getElem_replicate] at hg
    have hR : (tksV (List.replicate n tk0)).toArray[i]? = (tksV (List.replicate n tk0))[i]? := by simp
    rw [hR, hg]
    have e : (madeCells (Value.cells (.agg #[.int .i64 0, .string ByteArray.empty, .int .i64 0])) (n * 3))[i]? = some ((Value.cells (.agg #[.int .i64 0, .string ByteArray.empty, .int .i64 0]))[i % 3]!) := by
      simp [madeCells, h, Value.cells]
    rw [e]
    rcases (show i % 3 = 0 ∨ i % 3 = 1 ∨ i % 3 = 2 by omega) with h3 | h3 | h3 <;> rw [h3] <;> rfl
  · rw [Array.getElem?_eq_none (by rw [size_madeCells]; omega), Array.getElem?_eq_none (by simp [tksV_length]; omega)]

theorem makeToks (n : Nat) (hn : (n : Int) ≤ 1048576) (w : World) :
    (Instr.makeSlice 31 (.int .i64 (n : Int)) (.int .i64 (n : Int))).run Try.prog w = .ok (.slice (some ⟨w.heap.size, 0, none⟩) n n) (w.alloc (.cells (tksV (List.replicate n tk0)).toArray 44)) := by
  obtain ⟨i0, hi, hz0, hz1, hz2⟩ := info_parts tokInfo
  have h := run_make (P := Try.prog) w 31 44 i0 (.agg #[.int .i64 0, .string ByteArray.empty, .int .i64 0]) Try.underlying31 hi hz0 .i64 .i64 (n : Int) (n : Int) (by omega) (by omega) (by rw [hz2]; omega) (by omega)
  rw [hz1, Int.toNat_natCast, made_toks] at h
  exact h
end Go.Proofs.Ytlhmebdljamgkaa
