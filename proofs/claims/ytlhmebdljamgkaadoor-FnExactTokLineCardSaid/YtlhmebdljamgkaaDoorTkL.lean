/- The walk of FnExactTokSame; toTokS, eqTokS. -/
import Derived.Test.YtlhmebdljamgkaaDoorTkS
namespace Go.Proofs.YtlhmebdljamgkaaDoor
open Go.RowKit
set_option linter.unusedVariables false

theorem tksV_set : ∀ (ts : List Tk) (i : Nat) (t : Tk), i < ts.length → (((tksV ts).set (i * 3) (.int .i64 t.kind)).set (i * 3 + 1) (.string t.s)).set (i * 3 + 2) (.int .i64 t.col) = tksV (ts.set i t)
  | x :: ts, 0, t, _ => by simp [tksV_cons, tkV]
  | x :: ts, i + 1, t, h => by
    have e := tksV_set ts i t (by simpa using h)
    rw [List.set_cons_succ, tksV_cons, tksV_cons, ← e]
    rw [show (i + 1) * 3 = i * 3 + 3 by omega]
    simp [tkV, List.set_cons_succ]
def fillT (xs : List Tk) (k : Nat) : List Tk := xs.take k ++ List.replicate (xs.length - k) tk0
theorem fillT_zero (xs : List Tk) : fillT xs 0 = List.replicate xs.length tk0 := by simp [fillT]
theorem fillT_all (xs : List Tk) : fillT xs xs.length = xs := by simp [fillT]
theorem fillT_len (xs : List Tk) (k : Nat) (h : k ≤ xs.length) : (fillT xs k).length = xs.length := by simp [fillT]; omega
theorem fillT_set (xs : List Tk) (k : Nat) (h : k < xs.length) : (fillT xs k).set k xs[k] = fillT xs (k + 1) := by
  apply List.ext_getElem
  · simp [fillT]; omega
  · intro i h1 h2
    simp only [fillT, List.getElem_set, List.getElem_append, List.length_take, List.getElem_take, List.getElem_replicate]
    by_cases hk : k = i
    · subst hk; rw [if_pos rfl, dif_pos (by omega)]
    · rw [if_neg hk]
      by_cases hi : i < k
      · rw [dif_pos (by omega), dif_pos (by omega)]
      · rw [dif_neg (by omega), dif_neg (by omega)]


set_option maxHeartbeats 2000000 in
set_option maxRecDepth 20000 in
theorem eqTokS_same (A A' : Option Addr) (c c' n : Nat) (xs : List Tk) (w : World) (hr : Row w w.heap.size A (tksV xs)) (hr' : Row w w.heap.size A' (tksV xs)) (hl : Hid (xs.length = n)) (hn : (n : Int) ≤ 140737488355328) :
    Calls Tryd.prog 22 #[.slice A n c, .slice A' n c'] w fun e w' => e = .returned (.bool true) ∧ Below w.heap.size w w' := by
  go_enter Tryd.func22, Tryd.ntmps22
  have hne : ((n : Int) != n) = false := by simp
  go_wp2_with fail
  go_loopw [5] (fun v wr => ∃ k : Nat, v = .int .i64 (k : Int) ∧ k ≤ n ∧ Below w.heap.size w wr) (fun v _ => n - (intOf v).toNat)
  case atStart => exact ⟨0, rfl, Nat.zero_le _, Below.refl _ _⟩
  case round =>
    obtain ⟨k, rfl, hk, hbw⟩ := hrel
    have HB := Lib.hid hbw; clear hbw
    by_cases hlt : k < n
    · have hx : k < xs.length := by rw [hl.out]; exact hlt
      obtain ⟨b, o, rfl, hb, d0, d1, d2⟩ := hr.tk hx
      obtain ⟨b', o', rfl, hb', d0', d1', d2'⟩ := hr'.tk hx
      have c0 := (HB.out.cell (p := ⟨b, o + k * 3, none⟩) hb).trans d0
      have c1 := (HB.out.cell (p := ⟨b, o + k * 3 + 1, none⟩) hb).trans d1
      have c2 := (HB.out.cell (p := ⟨b, o + k * 3 + 2, none⟩) hb).trans d2
      have c0' := (HB.out.cell (p := ⟨b', o' + k * 3, none⟩) hb').trans d0'
      have c1' := (HB.out.cell (p := ⟨b', o' + k * 3 + 1, none⟩) hb').trans d1'
      have c2' := (HB.out.cell (p := ⟨b', o' + k * 3 + 2, none⟩) hb').trans d2'
      have h0 : (0 : Int) ≤ (k : Int) := by omega
      have h1 : (k : Int) < (n : Int) := by omega
      clear d0 d1 d2 d0' d1' d2'
      generalize xs[k] = x at *
      have cE : ∀ d os, Calls Tryd.prog 46 #[.agg #[.int .i64 x.kind, .string x.s, .int .i64 x.col], .agg #[.int .i64 x.kind, .string x.s, .int .i64 x.col]] (Go.Sort.grow (redrawn wr d) os) fun e w'' => e = .returned (.bool true) ∧ ∃ p : Regrown, w'' = Go.Sort.grow (redrawn wr p.d) p.os := fun d os => Calls.regrown_of (eqTok_same x _)
      have CE := Lib.hid cE; clear cE
      have q0 := cell_regrown c0
      have q1 := cell_regrown c1
      have q2 := cell_regrown c2
      have q0' := cell_regrown c0'
      have q1' := cell_regrown c1'
      have q2' := cell_regrown c2'
      go_wp2_with fail
      refine wp_region_quiet_below (by kernel_rfl) (by kernel_rfl) ?_
      repeat (go_big_quiet_step (with_reducible exact CE.out _ _))
      refine wpQuiet_nil ?_
      intro w5 hw'
      have hb5 : Below wr.heap.size wr w5 := by obtain ⟨⟨dq, osq⟩, rfl⟩ := hw'; exact below_regrown _ _ _
      have HB5 : Hid (Below w.heap.size w w5) := HB.out.trans (hb5.mono HB.out.size)
      clear hw' hb5 c0 c1 c2 c0' c1' c2' q0 q1 q2 q0' q1' q2'
      go_wp2_with fail
      go_roundw
      case rel => exact ⟨k + 1, by go_num, by omega, HB5.out⟩
      case measure => simp [intOf]; omega
    · obtain rfl : k = n := by omega
      go_wp2
      go_ret
      exact ⟨rfl, HB.out⟩
end Go.Proofs.YtlhmebdljamgkaaDoor
