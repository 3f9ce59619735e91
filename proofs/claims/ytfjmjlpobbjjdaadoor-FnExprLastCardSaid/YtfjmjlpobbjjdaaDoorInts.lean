/- Walks over slices of integers: toIntS, eqIntS. -/
import Derived.Test.YtfjmjlpobbjjdaaDoorGA
import Derived.Laws.MakeOwn
import Derived.Deep.QuietTactic
import Derived.BigQuiet
import Derived.Outline
namespace Go.Proofs.YtfjmjlpobbjjdaaDoor
open Go.RowKit

theorem intInfo : (Tryd.prog.info? 3).map (fun i => (i.zero, i.size, i.bytes)) = some (some (.int .i64 0), 1, 8) := by kernel_rfl

theorem made_ints (n : Nat) : madeCells (Value.cells (.int .i64 0)) n = (ints (List.replicate n 0)).toArray := by
  apply Array.ext
  · simp [size_madeCells, ints]
  · intro i h1 h2
    have : i % 1 = 0 := by omega
    simp [madeCells, Value.cells, ints, Nat.mod_one]

theorem makeInts (n : Nat) (hn : (n : Int) ≤ 1048576) (w : World) :
    (Instr.makeSlice 27 (.int .i64 (n : Int)) (.int .i64 (n : Int))).run Tryd.prog w = .ok (.slice (some ⟨w.heap.size, 0, none⟩) n n) (w.alloc (.cells (ints (List.replicate n 0)).toArray 3)) := by
  obtain ⟨i0, hi, hz0, hz1, hz2⟩ := info_parts intInfo
  have h := run_make (P := Tryd.prog) w 27 3 i0 (.int .i64 0) Tryd.underlying27 hi hz0 .i64 .i64 (n : Int) (n : Int) (by omega) (by omega) (by rw [hz2]; omega) (by omega)
  rw [hz1, Int.toNat_natCast, Nat.mul_one, made_ints] at h
  exact h

def fillTo (xs : List Int) (k : Nat) : List Value := ints (xs.take k ++ List.replicate (xs.length - k) 0)
theorem fillTo_zero (xs : List Int) : fillTo xs 0 = ints (List.replicate xs.length 0) := by simp [fillTo]
theorem fillTo_all (xs : List Int) : fillTo xs xs.length = ints xs := by simp [fillTo]
theorem fillTo_len (xs : List Int) (k : Nat) (h : k ≤ xs.length) : (fillTo xs k).length = xs.length := by simp [fillTo, ints]; omega
theorem fillTo_set (xs : List Int) (k : Nat) (h : k < xs.length) : (fillTo xs k).set k (.int .i64 xs[k]) = fillTo xs (k + 1) := by
  apply List.ext_getElem
  · simp [fillTo, ints]; omega
  · intro i h1 h2
    simp only [fillTo, ints, List.getElem_set, List.getElem_map, List.getElem_append, List.length_take, List.getElem_take, List.getElem_replicate]
    by_cases hk : k = i
    · subst hk; rw [if_pos rfl, dif_pos (by omega)]
    · rw [if_neg hk]
      by_cases hi : i < k
      · rw [dif_pos (by omega), dif_pos (by omega)]
      · rw [dif_neg (by omega), dif_neg (by omega)]

set_option maxHeartbeats 1000000 in
theorem toIntS (A : Option Addr) (c n : Nat) (xs : List Int) (w : World) (hr : Row w w.heap.size A (ints xs)) (hl : Hid (xs.length = n)) (hn : (n : Int) ≤ 1048576) :
    Calls Tryd.prog 22 #[.slice A n c] w fun e w' => e = .returned (.slice (some ⟨w.heap.size, 0, none⟩) n n) ∧ Blk w' w.heap.size 3 (ints xs) ∧ Below w.heap.size w w' := by
  have hmk := makeInts n hn w
  go_enter Tryd.func22, Tryd.ntmps22
  go_wp2
  clear hmk
  go_loopw [4] (fun v wr => ∃ k : Nat, v = .int .i64 (k : Int) ∧ k ≤ n ∧ Blk wr w.heap.size 3 (fillTo xs k) ∧ Below w.heap.size w wr) (fun v _ => n - (intOf v).toNat)
  case atStart =>
    refine ⟨0, rfl, Nat.zero_le _, ?_, (Below.refl _ _).alloc (Nat.le_refl _) _⟩
    rw [fillTo_zero, hl.out]; exact Blk.alloc_ _ _ _
  case round =>
    obtain ⟨k, rfl, hk, hb, hbw⟩ := hrel
    by_cases hlt : k < n
    · have hx : k < xs.length := by rw [hl.out]; exact hlt
      obtain ⟨b, o, rfl, hbb, hc⟩ := hr.at_ (i := k) (by rw [ints_length]; exact hx)
      have hc1 : wr.cell? ⟨b, o + k, none⟩ = some (.int .i64 xs[k]) := by rw [hbw.cell hbb, hc]; simp [ints]
      have hc2 : wr.cell? ⟨w.heap.size, k, none⟩ = some ((fillTo xs k)[k]'(by rw [fillTo_len _ _ (by omega)]; exact hx)) := by
        rw [hb.cell]; exact List.getElem?_eq_getElem _
      have hf := hb.frozen k
      have HX := Lib.hid hx
      clear hc
      go_wp2
      go_roundw
      case rel =>
        refine ⟨k + 1, by go_num, by omega, ?_, hbw.setCell (Nat.le_refl _) _⟩
        exact (fillTo_set xs k hx) ▸ hb.put k (.int .i64 xs[k])
      case measure => simp [intOf]; omega
    · obtain rfl : k = n := by omega
      have hb' : Blk wr w.heap.size 3 (ints xs) := by have := hb; rw [← hl.out, fillTo_all] at this; exact this
      clear hb
      go_wp2
      go_ret
      exact ⟨rfl, hb', hbw⟩

set_option maxHeartbeats 1000000 in
theorem eqIntS_same (A A' : Option Addr) (c c' n : Nat) (xs : List Int) (w : World) (hr : Row w w.heap.size A (ints xs)) (hr' : Row w w.heap.size A' (ints xs)) (hl : Hid (xs.length = n)) (hn : (n : Int) ≤ 140737488355328) :
    Calls Tryd.prog 25 #[.slice A n c, .slice A' n c'] w fun e w' => e = .returned (.bool true) ∧ Below w.heap.size w w' := by
  have hnn : ((n : Int) != n) = false := by simp
  go_enter Tryd.func25, Tryd.ntmps25
  go_wp2
  go_loopw [5] (fun v wr => ∃ k : Nat, v = .int .i64 (k : Int) ∧ k ≤ n ∧ Below w.heap.size w wr) (fun v _ => n - (intOf v).toNat)
  case atStart => exact ⟨0, rfl, Nat.zero_le _, Below.refl _ _⟩
  case round =>
    obtain ⟨k, rfl, hk, hbw⟩ := hrel
    by_cases hlt : k < n
    · have hx : k < xs.length := by rw [hl.out]; exact hlt
      obtain ⟨b, o, rfl, hbb, hc⟩ := hr.at_ (i := k) (by rw [ints_length]; exact hx)
      obtain ⟨b', o', rfl, hbb', hc'⟩ := hr'.at_ (i := k) (by rw [ints_length]; exact hx)
      have hc1 : wr.cell? ⟨b, o + k, none⟩ = some (.int .i64 xs[k]) := by rw [hbw.cell hbb, hc]; simp [ints]
      have hc2 : wr.cell? ⟨b', o' + k, none⟩ = some (.int .i64 xs[k]) := by rw [hbw.cell hbb', hc']; simp [ints]
      have h0 : (0 : Int) ≤ (k : Int) := by omega
      have h1 : (k : Int) < (n : Int) := by omega
      clear hc hc'
      go_wp2
      go_quiet (fail)
      go_wp2
      go_roundw
      case rel => exact ⟨k + 1, by go_num, by omega, drewN_below hbw _⟩
      case measure => simp [intOf]; omega
    · obtain rfl : k = n := by omega
      go_wp2
      go_ret
      exact ⟨rfl, hbw⟩
end Go.Proofs.YtfjmjlpobbjjdaaDoor
