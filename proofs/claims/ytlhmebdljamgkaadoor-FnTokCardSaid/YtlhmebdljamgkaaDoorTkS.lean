/- Walks over slices of words: szTokS, toTokS, eqTokS, TokSame. -/
import Derived.Test.YtlhmebdljamgkaaDoorTkB
import Derived.Lib.QuietBelow
namespace Go.Proofs.YtlhmebdljamgkaaDoor
open Go.RowKit
set_option linter.unusedVariables false

open Classical in
noncomputable def tkSame (ts us : List Tk) : Bool := decide (ts = us)
theorem tkSame_true {ts us : List Tk} (h : ts = us) : tkSame ts us = true := by simp [tkSame, h]
theorem tkSame_false {ts us : List Tk} (h : ts ≠ us) : tkSame ts us = false := by simp [tkSame, h]
theorem tk_ne {x y : Tk} (h : x ≠ y) : x.kind ≠ y.kind ∨ x.kind = y.kind ∧ x.s ≠ y.s ∨ x.kind = y.kind ∧ x.s = y.s ∧ x.col ≠ y.col := by
  obtain ⟨a, b, c⟩ := x
  obtain ⟨d, e, f⟩ := y
  by_cases h1 : a = d
  · by_cases h2 : b = e
    · by_cases h3 : c = f
      · subst h1 h2 h3; exact absurd rfl h
      · exact .inr (.inr ⟨h1, h2, h3⟩)
    · exact .inr (.inl ⟨h1, h2⟩)
  · exact .inl h1
theorem str_ne {a b : ByteArray} (h : a ≠ b) : (a.toList == b.toList) = false := by
  rw [beq_eq_false_iff_ne]; intro e; apply h
  rw [ByteArray.toList_eq, ByteArray.toList_eq] at e
  apply ByteArray.ext; apply Array.ext'; exact e
theorem take_next {ts us : List Tk} {k : Nat} (h : ts.take k = us.take k) (h1 : k < ts.length) (h2 : k < us.length) (e : ts[k] = us[k]) : ts.take (k + 1) = us.take (k + 1) := by
  rw [List.take_succ_eq_append_getElem h1, List.take_succ_eq_append_getElem h2, h, e]

set_option maxHeartbeats 4000000 in
theorem specTokSame (A A' : Option Addr) (n c n' c' : Nat) (ts us : List Tk) (w : World) (hr : Row w w.heap.size A (tksV ts)) (hr' : Row w w.heap.size A' (tksV us)) (hl : Hid (ts.length = n)) (hl' : Hid (us.length = n')) (hn : (n : Int) ≤ 140737488355328) (hn' : (n' : Int) ≤ 140737488355328) :
    Calls Tryd.prog 28 #[.slice A n c, .slice A' n' c'] w fun e w' => e = .returned (.bool (tkSame ts us)) ∧ Below w.heap.size w w' := by
  by_cases hnn : n = n'
  · subst hnn
    have hne : ((n : Int) != n) = false := by simp
    go_enter Tryd.func28, Tryd.ntmps28
    go_wp2_with fail
    go_loopw [5] (fun v wr => ∃ k : Nat, v = .int .i64 (k : Int) ∧ k ≤ n ∧ Hid (ts.take k = us.take k) ∧ Below w.heap.size w wr) (fun v _ => n - (intOf v).toNat)
    case atStart => exact ⟨0, rfl, Nat.zero_le _, rfl, Below.refl _ _⟩
    case round =>
      obtain ⟨k, rfl, hk, ht, hbw⟩ := hrel
      have HB := Lib.hid hbw; clear hbw
      by_cases hlt : k < n
      · have hx : k < ts.length := by rw [hl.out]; exact hlt
        have hx' : k < us.length := by rw [hl'.out]; exact hlt
        obtain ⟨b, o, rfl, hb, d0, d1, d2⟩ := hr.tk hx
        obtain ⟨b', o', rfl, hb', d0', d1', d2'⟩ := hr'.tk hx'
        have c0 := (HB.out.cell (p := ⟨b, o + k * 3, none⟩) hb).trans d0
        have c1 := (HB.out.cell (p := ⟨b, o + k * 3 + 1, none⟩) hb).trans d1
        have c2 := (HB.out.cell (p := ⟨b, o + k * 3 + 2, none⟩) hb).trans d2
        have c0' := (HB.out.cell (p := ⟨b', o' + k * 3, none⟩) hb').trans d0'
        have c1' := (HB.out.cell (p := ⟨b', o' + k * 3 + 1, none⟩) hb').trans d1'
        have c2' := (HB.out.cell (p := ⟨b', o' + k * 3 + 2, none⟩) hb').trans d2'
        have h0 : (0 : Int) ≤ (k : Int) := by omega
        have h1 : (k : Int) < (n : Int) := by omega
        clear d0 d1 d2 d0' d1' d2'
        by_cases he : ts[k] = us[k]
        · have HT := Lib.hid (take_next ht.out hx hx' he)
          rw [← he] at c0' c1' c2'
          generalize ts[k] = x at *
          obtain ⟨xk, xs, xc⟩ := x
          simp only at c0 c1 c2 c0' c1' c2'
          clear he hx hx'
          go_wp2
          go_quiet (fail)
          go_wp2
          go_roundw
          case rel => exact ⟨k + 1, by go_num, by omega, HT.out, drewN_below HB.out _⟩
          case measure => simp [intOf]; omega
        · have HF : Hid (tkSame ts us = false) := tkSame_false (by rintro rfl; exact he rfl)
          have hcase := tk_ne he
          clear he
          generalize ts[k] = x at *
          generalize us[k] = y at *
          obtain ⟨xk, xs, xc⟩ := x
          obtain ⟨yk, ys, yc⟩ := y
          simp only at c0 c1 c2 c0' c1' c2' hcase
          clear hx hx'
          rcases hcase with h3 | ⟨rfl, h3⟩ | ⟨rfl, rfl, h3⟩
          · have h4 : (xk == yk) = false := by simp [h3]
            clear h3
            go_wp2
            go_quiet (fail)
            go_wp2
            go_ret
            exact ⟨by rw [HF.out]; rfl, drewN_below HB.out _⟩
          · have h4 := str_ne h3
            clear h3
            go_wp2
            go_quiet (fail)
            go_wp2
            go_ret
            exact ⟨by rw [HF.out]; rfl, drewN_below HB.out _⟩
          · have h4 : (xc == yc) = false := by simp [h3]
            clear h3
            go_wp2
            go_quiet (fail)
            go_wp2
            go_ret
            exact ⟨by rw [HF.out]; rfl, drewN_below HB.out _⟩
      · obtain rfl : k = n := by omega
        have HT : Hid (tkSame ts us = true) := tkSame_true (by
          have h1 := ht.out
          rwa [List.take_of_length_le (by rw [hl.out]; exact Nat.le_refl _), List.take_of_length_le (by rw [hl'.out]; exact Nat.le_refl _)] at h1)
        go_wp2
        go_ret
        exact ⟨by rw [HT.out]; rfl, HB.out⟩
  · have HF : Hid (tkSame ts us = false) := tkSame_false (by rintro rfl; exact hnn (hl.out.symm.trans hl'.out))
    have hne : ((n : Int) != (n' : Int)) = true := by rw [bne_iff_ne]; omega
    clear hnn
    go_enter Tryd.func28, Tryd.ntmps28
    go_wp2
    go_ret
    exact ⟨by rw [HF.out]; rfl, Below.refl _ _⟩

set_option maxHeartbeats 4000000 in
theorem slicesEqualTok (A A' : Option Addr) (n c n' c' : Nat) (ts us : List Tk) (w : World) (hr : Row w w.heap.size A (tksV ts)) (hr' : Row w w.heap.size A' (tksV us)) (hl : Hid (ts.length = n)) (hl' : Hid (us.length = n')) (hn : (n : Int) ≤ 140737488355328) (hn' : (n' : Int) ≤ 140737488355328) :
    Calls Tryd.prog 50 #[.slice A n c, .slice A' n' c'] w fun e w' => e = .returned (.bool (tkSame ts us)) ∧ Below w.heap.size w w' := by
  by_cases hnn : n = n'
  · subst hnn
    have hne : ((n : Int) != n) = false := by simp
    go_enter Tryd.func50, Tryd.ntmps50
    go_wp2_with fail
    go_loopw [13] (fun v wr => ∃ k : Nat, v = .int .i64 (k : Int) ∧ k ≤ n ∧ Hid (ts.take k = us.take k) ∧ Below w.heap.size w wr) (fun v _ => n - (intOf v).toNat)
    case atStart => exact ⟨0, rfl, Nat.zero_le _, rfl, Below.refl _ _⟩
    case round =>
      obtain ⟨k, rfl, hk, ht, hbw⟩ := hrel
      have HB := Lib.hid hbw; clear hbw
      by_cases hlt : k < n
      · have hx : k < ts.length := by rw [hl.out]; exact hlt
        have hx' : k < us.length := by rw [hl'.out]; exact hlt
        obtain ⟨b, o, rfl, hb, d0, d1, d2⟩ := hr.tk hx
        obtain ⟨b', o', rfl, hb', d0', d1', d2'⟩ := hr'.tk hx'
        have c0 := (HB.out.cell (p := ⟨b, o + k * 3, none⟩) hb).trans d0
        have c1 := (HB.out.cell (p := ⟨b, o + k * 3 + 1, none⟩) hb).trans d1
        have c2 := (HB.out.cell (p := ⟨b, o + k * 3 + 2, none⟩) hb).trans d2
        have c0' := (HB.out.cell (p := ⟨b', o' + k * 3, none⟩) hb').trans d0'
        have c1' := (HB.out.cell (p := ⟨b', o' + k * 3 + 1, none⟩) hb').trans d1'
        have c2' := (HB.out.cell (p := ⟨b', o' + k * 3 + 2, none⟩) hb').trans d2'
        have h0 : (0 : Int) ≤ (k : Int) := by omega
        have h1 : (k : Int) < (n : Int) := by omega
        clear d0 d1 d2 d0' d1' d2'
        by_cases he : ts[k] = us[k]
        · have HT := Lib.hid (take_next ht.out hx hx' he)
          rw [← he] at c0' c1' c2'
          generalize ts[k] = x at *
          obtain ⟨xk, xs, xc⟩ := x
          simp only at c0 c1 c2 c0' c1' c2'
          clear he hx hx'
          go_wp2
          go_quiet (fail)
          go_wp2
          go_roundw
          case rel => exact ⟨k + 1, by go_num, by omega, HT.out, drewN_below HB.out _⟩
          case measure => simp [intOf]; omega
        · have HF : Hid (tkSame ts us = false) := tkSame_false (by rintro rfl; exact he rfl)
          have hcase := tk_ne he
          clear he
          generalize ts[k] = x at *
          generalize us[k] = y at *
          obtain ⟨xk, xs, xc⟩ := x
          obtain ⟨yk, ys, yc⟩ := y
          simp only at c0 c1 c2 c0' c1' c2' hcase
          clear hx hx'
          rcases hcase with h3 | ⟨rfl, h3⟩ | ⟨rfl, rfl, h3⟩
          · have h4 : (xk == yk) = false := by simp [h3]
            clear h3
            go_wp2
            go_quiet (fail)
            go_wp2
            go_ret
            exact ⟨by rw [HF.out]; rfl, drewN_below HB.out _⟩
          · have h4 := str_ne h3
            clear h3
            go_wp2
            go_quiet (fail)
            go_wp2
            go_ret
            exact ⟨by rw [HF.out]; rfl, drewN_below HB.out _⟩
          · have h4 : (xc == yc) = false := by simp [h3]
            clear h3
            go_wp2
            go_quiet (fail)
            go_wp2
            go_ret
            exact ⟨by rw [HF.out]; rfl, drewN_below HB.out _⟩
      · obtain rfl : k = n := by omega
        have HT : Hid (tkSame ts us = true) := tkSame_true (by
          have h1 := ht.out
          rwa [List.take_of_length_le (by rw [hl.out]; exact Nat.le_refl _), List.take_of_length_le (by rw [hl'.out]; exact Nat.le_refl _)] at h1)
        go_wp2
        go_ret
        exact ⟨by rw [HT.out]; rfl, HB.out⟩
  · have HF : Hid (tkSame ts us = false) := tkSame_false (by rintro rfl; exact hnn (hl.out.symm.trans hl'.out))
    have hne : ((n : Int) != (n' : Int)) = true := by rw [bne_iff_ne]; omega
    clear hnn
    go_enter Tryd.func50, Tryd.ntmps50
    go_wp2
    go_ret
    exact ⟨by rw [HF.out]; rfl, Below.refl _ _⟩

theorem implTokSame (A A' : Option Addr) (n c n' c' : Nat) (ts us : List Tk) (w : World) (hr : Row w w.heap.size A (tksV ts)) (hr' : Row w w.heap.size A' (tksV us)) (hl : Hid (ts.length = n)) (hl' : Hid (us.length = n')) (hn : (n : Int) ≤ 140737488355328) (hn' : (n' : Int) ≤ 140737488355328) :
    Calls Tryd.prog 26 #[.slice A n c, .slice A' n' c'] w fun e w' => e = .returned (.bool (tkSame ts us)) ∧ Below w.heap.size w w' := by
  go_enter Tryd.func26, Tryd.ntmps26
  go_wp2_with fail
  refine (slicesEqualTok A A' n c n' c' ts us w hr hr' hl hl' hn hn').mono ?_
  rintro e w1 ⟨rfl, hb⟩
  go_wp2_with fail
  go_ret
  exact ⟨rfl, hb⟩


set_option maxHeartbeats 1000000 in
theorem eqTok_same (x : Tk) (w : World) :
    Calls Tryd.prog 46 #[.agg #[.int .i64 x.kind, .string x.s, .int .i64 x.col], .agg #[.int .i64 x.kind, .string x.s, .int .i64 x.col]] w fun e w' => e = .returned (.bool true) ∧ Below w.heap.size w w' := by
  obtain ⟨k, s, c⟩ := x
  simp only
  have h1 : (k != k) = false := by simp
  have h2 : (c != c) = false := by simp
  have h3 : (s.toList == s.toList) = true := by simp
  go_enter Tryd.func46, Tryd.ntmps46
  go_wp2_with fail
  go_ret
  exact ⟨rfl, by go_grown⟩


def tkSizes (ts : List Tk) : Nat := (ts.map (·.s.size)).sum
theorem tkSizes_take {xs : List Tk} {k : Nat} (h : k < xs.length) : tkSizes (xs.take (k + 1)) = tkSizes (xs.take k) + xs[k].s.size := by
  unfold tkSizes; rw [List.take_succ_eq_append_getElem h, List.map_append, List.sum_append]; simp only [List.map_cons, List.map_nil, List.sum_cons, List.sum_nil]; omega


theorem tokInfo : (Tryd.prog.info? 37).map (fun i => (i.zero, i.size, i.bytes)) = some (some (.agg #[.int .i64 0, .string ByteArray.empty, .int .i64 0]), 3, 32) := by kernel_rfl
def tk0 : Tk := ⟨0, ByteArray.empty, 0⟩
theorem made_toks (n : Nat) : madeCells (Value.cells (.agg #[.int .i64 0, .string ByteArray.empty, .int .i64 0])) (n * 3) = (tksV (List.replicate n tk0)).toArray := by
  apply Array.ext_getElem?
  intro i
  by_cases h : i < n * 3
  · have hi : i / 3 < (List.replicate n tk0).length := by simp; omega
    have hg := tksV_get (List.replicate n tk0) (i / 3) (i % 3) hi (by omega)
    rw [show i / 3 * 3 + i % 3 = i by omega, List.getElem_replicate] at hg
    have hR : (tksV (List.replicate n tk0)).toArray[i]? = (tksV (List.replicate n tk0))[i]? := by simp
    rw [hR, hg]
    have e : (madeCells (Value.cells (.agg #[.int .i64 0, .string ByteArray.empty, .int .i64 0])) (n * 3))[i]? = some ((Value.cells (.agg #[.int .i64 0, .string ByteArray.empty, .int .i64 0]))[i % 3]!) := by
      simp [madeCells, h, Value.cells]
    rw [e]
    rcases (show i % 3 = 0 ∨ i % 3 = 1 ∨ i % 3 = 2 by omega) with h3 | h3 | h3 <;> rw [h3] <;> rfl
  · rw [Array.getElem?_eq_none (by rw [size_madeCells]; omega), Array.getElem?_eq_none (by simp [tksV_length]; omega)]

theorem makeToks (n : Nat) (hn : (n : Int) ≤ 1048576) (w : World) :
    (Instr.makeSlice 33 (.int .i64 (n : Int)) (.int .i64 (n : Int))).run Tryd.prog w = .ok (.slice (some ⟨w.heap.size, 0, none⟩) n n) (w.alloc (.cells (tksV (List.replicate n tk0)).toArray 37)) := by
  obtain ⟨i0, hi, hz0, hz1, hz2⟩ := info_parts tokInfo
  have h := run_make (P := Tryd.prog) w 33 37 i0 (.agg #[.int .i64 0, .string ByteArray.empty, .int .i64 0]) Tryd.underlying33 hi hz0 .i64 .i64 (n : Int) (n : Int) (by omega) (by omega) (by rw [hz2]; omega) (by omega)
  rw [hz1, Int.toNat_natCast, made_toks] at h
  exact h
end Go.Proofs.YtlhmebdljamgkaaDoor
