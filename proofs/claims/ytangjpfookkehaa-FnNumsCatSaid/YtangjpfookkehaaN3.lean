/- Walk: what NumText of the program returns. -/
import Derived.Test.YtangjpfookkehaaN2
namespace Go.Proofs.Ytangjpfookkehaa
open Go.RowKit Ilp

theorem letterAt : ∀ j (h : j < 32), (ByteArray.mk #[97, 98, 99, 100, 101, 102, 103, 104, 105, 106, 107, 108, 109, 110, 111, 112, 65, 66, 67, 68, 69, 70, 71, 72, 73, 74, 75, 76, 77, 78, 79, 80])[j]'(show j < (ByteArray.mk #[97, 98, 99, 100, 101, 102, 103, 104, 105, 106, 107, 108, 109, 110, 111, 112, 65, 66, 67, 68, 69, 70, 71, 72, 73, 74, 75, 76, 77, 78, 79, 80]).size from h) = letr j := by decide

theorem idxLetter (i : Nat) (hi : i < 32) (w : World) : (Instr.index 9 (.string ⟨#[97, 98, 99, 100, 101, 102, 103, 104, 105, 106, 107, 108, 109, 110, 111, 112, 65, 66, 67, 68, 69, 70, 71, 72, 73, 74, 75, 76, 77, 78, 79, 80]⟩) (.int .i64 (i : Int))).run Try.prog w = .ok (.int .u8 (letr i).toNat) w := by
  rw [run_index_string w 9 _ .i64 (i : Int) Try.underlying9]
  have hs : (ByteArray.mk #[97, 98, 99, 100, 101, 102, 103, 104, 105, 106, 107, 108, 109, 110, 111, 112, 65, 66, 67, 68, 69, 70, 71, 72, 73, 74, 75, 76, 77, 78, 79, 80]).size = 32 := rfl
  rw [dif_pos (by rw [hs]; omega)]
  have := letterAt i hi
  simp only [Int.toNat_natCast]
  rw [this]

theorem byteCells_snoc (acc : List UInt8) (c : UInt8) : Lib.byteCells acc ++ [.int .u8 c.toNat] = Lib.byteCells (acc ++ [c]) := by simp [Lib.byteCells]

set_option maxHeartbeats 2000000 in
theorem implNumText (n : Int) (w : World) : Calls Try.prog 18 #[.int .i64 n] w fun e w' => e = .returned (.string ⟨(numText n).toArray⟩) ∧ Below w.heap.size w w' := by
  cases h : numOk n with
  | false =>
    rw [numText_no h]
    have HB := Lib.hid h.symm; clear h
    go_enter Try.func18, Try.ntmps18
    go_wp2_with (go_at_call 38; refine (isNumIs false _ _ HB.out).mono ?_; rintro e w' ⟨rfl, rfl⟩)
    go_ret
    exact ⟨rfl, Below.refl _ _⟩
  | true =>
    rw [numText_ok h]
    have hb := numOk_of h
    have hz := zig_le h
    have HB := Lib.hid h.symm; clear h
    have hl := digs_le 5 (zig n) (by omega)
    have HZ := Lib.hid hz; clear hz
    by_cases h0 : n < 0
    all_goals
      have e1 : ((zig n : Nat) : Int) = if n < 0 then -2 * n + 1 else 2 * n := by unfold zig; split <;> omega
      first | rw [if_pos h0] at e1 | rw [if_neg h0] at e1
      have E1 := Lib.hid e1; clear e1
      go_enter Try.func18, Try.ntmps18
      go_wp2_with (go_at_call 38; refine (isNumIs true _ _ HB.out).mono ?_; rintro e w' ⟨rfl, rfl⟩)
      go_loopw [3] (fun v wr => ∃ (m : Nat) (acc : List UInt8), v = .int .i64 (m : Int) ∧ (m : Int) ≤ 2000001 ∧ acc ++ digs m = digs (zig n) ∧ Lib.IsBuilder 49 5 w.heap.size w.heap.size (Lib.byteCells acc) wr ∧ Below w.heap.size w wr) (fun v _ => (intOf v).toNat)
      case atStart =>
        refine ⟨zig n, [], ?_, by have := HZ.out; omega, rfl, Lib.fresh_isBuilder _ _ _, (Below.refl _ _).alloc (Nat.le_refl _) _⟩
        rw [E1.out]
      case round =>
        obtain ⟨m, acc, rfl, hm, hacc, hI, hbw⟩ := hrel
        have ha : acc.length ≤ 6 := by have := congrArg List.length hacc; rw [List.length_append] at this; omega
        by_cases hlt : (m : Int) < 16
        · have hx := idxLetter m (by omega)
          rw [digs_small (by omega)] at hacc
          have HA := Lib.hid hacc; clear hacc
          have HI := Lib.hid hI; clear hI
          have hsz := hbw.size
          go_wp2_with fail
          refine (writeByte _ _ _ _ _ HI.out (by rw [Lib.byteCells_length]; omega) (by omega)).mono ?_
          rintro e w1 ⟨rfl, hI1, hb1⟩
          rw [byteCells_snoc, HA.out] at hI1
          have HI1 := Lib.hid hI1; clear hI1
          have hs1 := hb1.size
          go_wp2_with fail
          refine (Try.Builder_String_any _ _ (digs (zig n)) _ HI1.out (by omega)).mono ?_
          rintro e w2 ⟨rfl, hb2⟩
          go_wp2_with fail
          go_ret
          exact ⟨rfl, (hbw.trans hb1).trans hb2⟩
        · have hx := idxLetter (16 + m % 16) (by omega)
          have hx' : ∀ wx, (Instr.index 9 (.string ⟨#[97, 98, 99, 100, 101, 102, 103, 104, 105, 106, 107, 108, 109, 110, 111, 112, 65, 66, 67, 68, 69, 70, 71, 72, 73, 74, 75, 76, 77, 78, 79, 80]⟩) (.int .i64 ((m : Int) % 16 + 16))).run Try.prog wx = .ok (.int .u8 (letr (16 + m % 16)).toNat) wx := by
            intro wx; rw [← hx wx]; congr 3; omega
          clear hx
          rw [digs_big (by omega)] at hacc
          have HA := Lib.hid hacc; clear hacc
          have HI := Lib.hid hI; clear hI
          have hsz := hbw.size
          go_wp2_with fail
          refine (writeByte _ _ _ _ _ HI.out (by rw [Lib.byteCells_length]; omega) (by omega)).mono ?_
          rintro e w1 ⟨rfl, hI1, hb1⟩
          rw [byteCells_snoc] at hI1
          have HI1 := Lib.hid hI1; clear hI1
          go_wp2_with fail
          go_roundw
          case rel => exact ⟨m / 16, acc ++ [letr (16 + m % 16)], by go_num, by omega, by rw [List.append_assoc]; exact HA.out, HI1.out, hbw.trans hb1⟩
          case measure => simp [intOf]; omega
end Go.Proofs.Ytangjpfookkehaa
