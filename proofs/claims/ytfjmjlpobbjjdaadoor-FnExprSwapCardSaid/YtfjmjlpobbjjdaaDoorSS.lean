/- Walks over slices of strings: szStringS, toStringS, eqStringS. -/
import Derived.Test.YtfjmjlpobbjjdaaDoorGround
import Derived.Laws.MakeOwn
import Derived.Deep.QuietTactic
import Derived.BigQuiet
import Derived.Outline
namespace Go.Proofs.YtfjmjlpobbjjdaaDoor
open Go.RowKit
set_option linter.unusedVariables false

def strB (xs : List ByteArray) : List Value := xs.map .string
theorem strB_length (xs : List ByteArray) : (strB xs).length = xs.length := by simp [strB]
theorem strB_get {xs : List ByteArray} {i : Nat} (h : i < xs.length) : (strB xs)[i]? = some (.string xs[i]) := by simp [strB, h]
def sizes (xs : List ByteArray) : Nat := (xs.map (·.size)).sum
theorem sizes_take {xs : List ByteArray} {k : Nat} (h : k < xs.length) : sizes (xs.take (k + 1)) = sizes (xs.take k) + xs[k].size := by
  unfold sizes; rw [List.take_succ_eq_append_getElem h, List.map_append, List.sum_append]; simp only [List.map_cons, List.map_nil, List.sum_cons, List.sum_nil]; omega
theorem sizes_all (xs : List ByteArray) : sizes (xs.take xs.length) = sizes xs := by rw [List.take_length]

/-- A slice of strings that came in. -/
def IsStrs (w : World) (a : Option Addr) (len cap : Nat) (ss : List ByteArray) : Prop :=
  (a = none ∧ len = 0 ∧ cap = 0 ∧ ss = []) ∨
  ∃ x, a = some x ∧ len ≤ cap ∧ cap ≤ maxLen ∧ ss.length = cap ∧ (∀ i, i < ss.length → w.cell? (x.add i) = some (.string (ss.getD i ByteArray.empty))) ∧ ∀ s ∈ ss, s.size ≤ maxLen

theorem IsStrs.row {w : World} {a : Option Addr} {len cap : Nat} {zs : List ByteArray} (h : IsStrs w a len cap zs) :
    Row w w.heap.size a (strB (zs.take len)) ∧ (zs.take len).length = len ∧ len ≤ cap ∧ (len : Int) ≤ 9223372036854775807 ∧ (cap : Int) ≤ 9223372036854775807 ∧ (∀ s ∈ zs.take len, (s.size : Int) ≤ 9223372036854775807) := by
  rcases h with ⟨rfl, rfl, rfl, rfl⟩ | ⟨x, rfl, hl, hm, hz, hc, hw⟩
  · refine ⟨by simpa [strB] using Row.nil w w.heap.size none, by simp, by omega, by omega, by omega, by simp⟩
  · unfold maxLen at hm hw
    refine ⟨fun i v hv => ?_, by simp; omega, hl, by omega, by omega, fun n hn => by have := hw n (List.mem_of_mem_take hn); omega⟩
    have hi : i < len ∧ i < zs.length := by
      have := (List.getElem?_eq_some_iff.1 hv).1
      simp [strB] at this; omega
    have h1 := hc i hi.2
    obtain ⟨b, o, s⟩ := x
    have hs : s = none := by
      simpa [Addr.add] using World.cell?_spot (hc 0 (by omega))
    subst hs
    have e : (Addr.mk b o none).add i = ⟨b, o + i, none⟩ := by unfold Addr.add; split <;> simp_all
    rw [e] at h1
    refine ⟨b, o, rfl, cell_lt h1, ?_⟩
    rw [h1, ← hv]
    simp [strB, hi.1, List.getD_eq_getElem?_getD, List.getElem?_eq_getElem hi.2]

theorem isStrs_below {w w' : World} {a : Option Addr} {len cap : Nat} {zs : List ByteArray} (h : IsStrs w a len cap zs) (hb : Below w.heap.size w w') : IsStrs w' a len cap zs := by
  rcases h with h | ⟨x, hx, hl, hm, hz, hc, hw⟩
  · exact .inl h
  · exact .inr ⟨x, hx, hl, hm, hz, fun i hi => by rw [hb.cell (cell_lt (hc i hi))]; exact hc i hi, hw⟩

theorem strInfo : (Tryd.prog.info? 9).map (fun i => (i.zero, i.size, i.bytes)) = some (some (.string ByteArray.empty), 1, 16) := by kernel_rfl

theorem made_strs (n : Nat) : madeCells (Value.cells (.string ByteArray.empty)) n = (strB (List.replicate n ByteArray.empty)).toArray := by
  apply Array.ext
  · simp [size_madeCells, strB]
  · intro i h1 h2
    simp [madeCells, Value.cells, strB, Nat.mod_one]

theorem makeStrs (n : Nat) (hn : (n : Int) ≤ 1048576) (w : World) :
    (Instr.makeSlice 26 (.int .i64 (n : Int)) (.int .i64 (n : Int))).run Tryd.prog w = .ok (.slice (some ⟨w.heap.size, 0, none⟩) n n) (w.alloc (.cells (strB (List.replicate n ByteArray.empty)).toArray 9)) := by
  obtain ⟨i0, hi, hz0, hz1, hz2⟩ := info_parts strInfo
  have h := run_make (P := Tryd.prog) w 26 9 i0 (.string ByteArray.empty) Tryd.underlying26 hi hz0 .i64 .i64 (n : Int) (n : Int) (by omega) (by omega) (by rw [hz2]; omega) (by omega)
  rw [hz1, Int.toNat_natCast, Nat.mul_one, made_strs] at h
  exact h

def fillS (xs : List ByteArray) (k : Nat) : List Value := strB (xs.take k ++ List.replicate (xs.length - k) ByteArray.empty)
theorem fillS_zero (xs : List ByteArray) : fillS xs 0 = strB (List.replicate xs.length ByteArray.empty) := by simp [fillS]
theorem fillS_all (xs : List ByteArray) : fillS xs xs.length = strB xs := by simp [fillS]
theorem fillS_len (xs : List ByteArray) (k : Nat) (h : k ≤ xs.length) : (fillS xs k).length = xs.length := by simp [fillS, strB]; omega
theorem fillS_set (xs : List ByteArray) (k : Nat) (h : k < xs.length) : (fillS xs k).set k (.string xs[k]) = fillS xs (k + 1) := by
  apply List.ext_getElem
  · simp [fillS, strB]; omega
  · intro i h1 h2
    simp only [fillS, strB, List.getElem_set, List.getElem_map, List.getElem_append, List.length_take, List.getElem_take, List.getElem_replicate]
    by_cases hk : k = i
    · subst hk; rw [if_pos rfl, dif_pos (by omega)]
    · rw [if_neg hk]
      by_cases hi : i < k
      · rw [dif_pos (by omega), dif_pos (by omega)]
      · rw [dif_neg (by omega), dif_neg (by omega)]

set_option maxHeartbeats 1000000 in
theorem toStringS (A : Option Addr) (c n : Nat) (xs : List ByteArray) (w : World) (hr : Row w w.heap.size A (strB xs)) (hl : Hid (xs.length = n)) (hn : (n : Int) ≤ 1048576) :
    Calls Tryd.prog 21 #[.slice A n c] w fun e w' => e = .returned (.slice (some ⟨w.heap.size, 0, none⟩) n n) ∧ Blk w' w.heap.size 9 (strB xs) ∧ Below w.heap.size w w' := by
  have hmk := makeStrs n hn w
  go_enter Tryd.func21, Tryd.ntmps21
  go_wp2
  clear hmk
  go_loopw [4] (fun v wr => ∃ k : Nat, v = .int .i64 (k : Int) ∧ k ≤ n ∧ Blk wr w.heap.size 9 (fillS xs k) ∧ Below w.heap.size w wr) (fun v _ => n - (intOf v).toNat)
  case atStart =>
    refine ⟨0, rfl, Nat.zero_le _, ?_, (Below.refl _ _).alloc (Nat.le_refl _) _⟩
    rw [fillS_zero, hl.out]; exact Blk.alloc_ _ _ _
  case round =>
    obtain ⟨k, rfl, hk, hb, hbw⟩ := hrel
    by_cases hlt : k < n
    · have hx : k < xs.length := by rw [hl.out]; exact hlt
      obtain ⟨b, o, rfl, hbb, hc⟩ := hr.at_ (i := k) (by rw [strB_length]; exact hx)
      have hc1 : wr.cell? ⟨b, o + k, none⟩ = some (.string xs[k]) := by rw [hbw.cell hbb, hc]; simp [strB]
      have hc2 : wr.cell? ⟨w.heap.size, k, none⟩ = some ((fillS xs k)[k]'(by rw [fillS_len _ _ (by omega)]; exact hx)) := by
        rw [hb.cell]; exact List.getElem?_eq_getElem _
      have hf := hb.frozen k
      have HX := Lib.hid hx
      clear hc
      go_wp2
      go_roundw
      case rel =>
        refine ⟨k + 1, by go_num, by omega, ?_, hbw.setCell (Nat.le_refl _) _⟩
        exact (fillS_set xs k hx) ▸ hb.put k (.string xs[k])
      case measure => simp [intOf]; omega
    · obtain rfl : k = n := by omega
      have hb' : Blk wr w.heap.size 9 (strB xs) := by have := hb; rw [← hl.out, fillS_all] at this; exact this
      clear hb
      go_wp2
      go_ret
      exact ⟨rfl, hb', hbw⟩

/-- What szStringS returns. -/
def Szd (xs : List ByteArray) (left : Int) (w : World) (e : Ending) (w' : World) : Prop := ∃ r : Int, e = .returned (.int .i64 r) ∧ (r < 0 ∨ (0 ≤ r ∧ r ≤ left ∧ ((xs.length + sizes xs : Nat) : Int) ≤ left)) ∧ w = w'
set_option maxHeartbeats 1000000 in
theorem szStringS (A : Option Addr) (c n : Nat) (left : Int) (xs : List ByteArray) (w : World) (hr : Row w w.heap.size A (strB xs)) (hl : Hid (xs.length = n)) (hn : (n : Int) ≤ 9223372036854775807) (hs : ∀ s ∈ xs, (s.size : Int) ≤ 9223372036854775807) (h0 : 0 ≤ left) (h1 : left ≤ 1048576) :
    Calls Tryd.prog 19 #[.slice A n c, .int .i64 left] w (Szd xs left w) := by
  by_cases hneg : left - (n : Int) < 0
  · have R : Szd xs left w (.returned (.int .i64 (-1))) w := ⟨_, rfl, .inl (by omega), rfl⟩
    have HR := Lib.hid R; clear R
    go_enter Tryd.func19, Tryd.ntmps19
    go_wp2_with fail
    go_ret
    exact HR.out
  · have HS := Lib.hid hs; clear hs
    go_enter Tryd.func19, Tryd.ntmps19
    go_wp2_with fail
    go_loop [1, 5] (fun v u => ∃ (k : Nat) (r : Int), u = .int .i64 (k : Int) ∧ v = .int .i64 r ∧ k ≤ n ∧ 0 ≤ r ∧ r ≤ left ∧ Hid (r = left - n - (sizes (xs.take k) : Int))) (fun _ u => n - (intOf u).toNat)
    case atStart => exact ⟨0, left - n, rfl, rfl, Nat.zero_le _, by omega, by omega, by unfold Hid; simp [sizes]⟩
    case round =>
      obtain ⟨k, r, rfl, rfl, hk, hr0, hr1, hr2⟩ := hrel
      by_cases hlt : k < n
      · have hx : k < xs.length := by rw [hl.out]; exact hlt
        obtain ⟨b, o, rfl, hbb, hc⟩ := hr.at_ (i := k) (by rw [strB_length]; exact hx)
        obtain ⟨x, ex⟩ : ∃ x, x = xs[k] := ⟨_, rfl⟩
        have hc1 : w.cell? ⟨b, o + k, none⟩ = some (.string x) := by rw [hc, ex]; simp [strB]
        have hxs := HS.out x (by rw [ex]; exact List.getElem_mem hx)
        have hst : Hid (sizes (xs.take (k + 1)) = sizes (xs.take k) + x.size) := by unfold Hid; rw [sizes_take hx, ex]
        clear hc ex
        by_cases hneg2 : r - (x.size : Int) < 0
        · have R : Szd xs left w (.returned (.int .i64 (-1))) w := ⟨_, rfl, .inl (by omega), rfl⟩
          have HR := Lib.hid R; clear R
          go_wp2_with fail
          go_ret
          exact HR.out
        · go_wp2_with fail
          go_round
          case rel => exact ⟨k + 1, r - x.size, by go_num, rfl, by omega, by omega, by omega, by have h1 := hr2.out; have h2 := hst.out; unfold Hid; omega⟩
          case measure => simp [intOf]; omega
      · obtain rfl : k = n := by omega
        have R : Szd xs left w (.returned (.int .i64 r)) w := ⟨r, rfl, .inr ⟨hr0, hr1, by have h1 := hr2.out; rw [← hl.out, sizes_all] at h1; omega⟩, rfl⟩
        have HR := Lib.hid R; clear R
        go_wp2_with fail
        go_ret
        exact HR.out

set_option maxHeartbeats 1000000 in
theorem eqStringS_same (A A' : Option Addr) (c c' n : Nat) (xs : List ByteArray) (w : World) (hr : Row w w.heap.size A (strB xs)) (hr' : Row w w.heap.size A' (strB xs)) (hl : Hid (xs.length = n)) (hn : (n : Int) ≤ 140737488355328) :
    Calls Tryd.prog 24 #[.slice A n c, .slice A' n c'] w fun e w' => e = .returned (.bool true) ∧ Below w.heap.size w w' := by
  have hnn : ((n : Int) != n) = false := by simp
  go_enter Tryd.func24, Tryd.ntmps24
  go_wp2
  go_loopw [5] (fun v wr => ∃ k : Nat, v = .int .i64 (k : Int) ∧ k ≤ n ∧ Below w.heap.size w wr) (fun v _ => n - (intOf v).toNat)
  case atStart => exact ⟨0, rfl, Nat.zero_le _, Below.refl _ _⟩
  case round =>
    obtain ⟨k, rfl, hk, hbw⟩ := hrel
    by_cases hlt : k < n
    · have hx : k < xs.length := by rw [hl.out]; exact hlt
      obtain ⟨b, o, rfl, hbb, hc⟩ := hr.at_ (i := k) (by rw [strB_length]; exact hx)
      obtain ⟨b', o', rfl, hbb', hc'⟩ := hr'.at_ (i := k) (by rw [strB_length]; exact hx)
      obtain ⟨x, ex⟩ : ∃ x, x = xs[k] := ⟨_, rfl⟩
      have hc1 : wr.cell? ⟨b, o + k, none⟩ = some (.string x) := by rw [hbw.cell hbb, hc, ex]; simp [strB]
      have hc2 : wr.cell? ⟨b', o' + k, none⟩ = some (.string x) := by rw [hbw.cell hbb', hc', ex]; simp [strB]
      have h0 : (0 : Int) ≤ (k : Int) := by omega
      have h1 : (k : Int) < (n : Int) := by omega
      clear hc hc' ex
      go_wp2
      go_quiet (fail)
      go_wp2
      go_roundw
      case rel => exact ⟨k + 1, by go_num, by omega, drewN_below hbw _⟩
      case measure => simp [intOf]; omega
    · obtain rfl : k = n := by omega
      go_wp2
      go_ret
      exact ⟨rfl, hbw⟩
end Go.Proofs.YtfjmjlpobbjjdaaDoor
