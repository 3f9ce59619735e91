/- Walks: what PosOf of the reference and of the program returns. -/
import Derived.Test.YtdimljolinmofaaDoorT1
import Derived.Test.YtdimljolinmofaaDoorJ
import Derived.Test.YtdimljolinmofaaDoorShelf
import Derived.Handy
namespace Go.Proofs.YtdimljolinmofaaDoor
open Go.RowKit Ilp
set_option linter.unusedVariables false

theorem inS (n lo hi : Int) (w : World) :
    Calls Tryd.prog 36 #[.int .i64 n, .int .i64 lo, .int .i64 hi] w fun e w' => e = .returned (.bool (decide (lo ≤ n) && decide (n ≤ hi))) ∧ w = w' := by
  go_enter Tryd.func36, Tryd.ntmps36
  by_cases h : lo ≤ n
  · have H := Lib.hid (decide_eq_true h)
    go_wp2_with fail
    go_ret
    exact ⟨by rw [H.out]; rfl, rfl⟩
  · have H := Lib.hid (decide_eq_false h)
    go_wp2_with fail
    go_ret
    exact ⟨by rw [H.out]; rfl, rfl⟩

theorem pos_take {s : ByteArray} {k : Nat} (h : k < s.size) : pos (s.data.toList.take (k + 1)) = if s[k] = 10 then ((pos (s.data.toList.take k)).1 + 1, 0) else ((pos (s.data.toList.take k)).1, (pos (s.data.toList.take k)).2 + 1) := by
  rw [← pos_snoc, List.take_add_one, List.getElem?_eq_getElem (by simpa using h)]; rfl

/-- What PosOf returns. -/
def posRes (s : ByteArray) (off : Int) : (Nat × Nat) × Bool := if textOk s.data.toList = true ∧ 0 ≤ off ∧ off ≤ s.size then (pos (s.data.toList.take off.toNat), true) else ((0, 0), false)
theorem posRes_bad {s : ByteArray} {off : Int} (h : ¬ (textOk s.data.toList = true ∧ 0 ≤ off ∧ off ≤ s.size)) : posRes s off = ((0, 0), false) := if_neg h
theorem posRes_good {s : ByteArray} {m : Nat} (h : textOk s.data.toList = true) (h' : m ≤ s.size) : posRes s m = (pos (s.data.toList.take m), true) := if_pos ⟨h, by omega, by omega⟩
def posT (r : (Nat × Nat) × Bool) : Value := .tuple #[.agg #[.int .i64 (r.1.1 : Int), .int .i64 (r.1.2 : Int)], .bool r.2]
def Posed (r : (Nat × Nat) × Bool) (w : World) (e : Ending) (w' : World) : Prop := e = .returned (posT r) ∧ Below w.heap.size w w'
theorem blk_posed {w : World} {g : Nat} {T : TypeId} {L C : Nat} {u v : Value} (h : Blk w g T [u, v]) : Blk ((w.setCell ⟨g, 0, none⟩ (.int .i64 (L : Int))).setCell ⟨g, 1, none⟩ (.int .i64 (C : Int))) g T [.int .i64 (L : Int), .int .i64 (C : Int)] := by
  have := (h.put 0 (.int .i64 (L : Int))).put 1 (.int .i64 (C : Int))
  simpa using this

set_option maxHeartbeats 2000000 in
set_option maxRecDepth 20000 in
theorem specPosOf (s : ByteArray) (off : Int) (w : World) (hs : (s.size : Int) ≤ 1000000000000) :
    Calls Tryd.prog 27 #[.string s, .int .i64 off] w (Posed (posRes s off) w) := by
  go_enter Tryd.func27, Tryd.ntmps27
  go_wp2_with fail
  refine (specTextOk s _ (by omega)).mono ?_; rintro e w2 ⟨rfl, rfl⟩
  cases hok : textOk s.data.toList with
  | false =>
    have R : Posed (posRes s off) w (.returned (posT ((0, 0), false))) (w.alloc (.cells #[.int .i64 0, .int .i64 0] 24)) := ⟨by rw [posRes_bad (by simp [hok])], (Below.refl _ _).alloc (Nat.le_refl _) _⟩
    have HR := Lib.hid R; clear R hok
    go_wp2_with fail
    go_returns
    exact HR.out
  | true =>
    have HO := Lib.hid hok; clear hok
    by_cases h0 : off < 0
    · have R : Posed (posRes s off) w (.returned (posT ((0, 0), false))) (w.alloc (.cells #[.int .i64 0, .int .i64 0] 24)) := ⟨by rw [posRes_bad (by omega)], (Below.refl _ _).alloc (Nat.le_refl _) _⟩
      have HR := Lib.hid R; clear R
      go_wp2_with fail
      go_returns
      exact HR.out
    · by_cases h1 : (s.size : Int) < off
      · have R : Posed (posRes s off) w (.returned (posT ((0, 0), false))) (w.alloc (.cells #[.int .i64 0, .int .i64 0] 24)) := ⟨by rw [posRes_bad (by omega)], (Below.refl _ _).alloc (Nat.le_refl _) _⟩
        have HR := Lib.hid R; clear R
        go_wp2_with fail
        go_returns
        exact HR.out
      · obtain ⟨m, rfl⟩ : ∃ m : Nat, off = (m : Int) := ⟨off.toNat, by omega⟩
        have HP := Lib.hid (posRes_good HO.out (show m ≤ s.size by omega))
        have hm0 : (0 : Int) ≤ (m : Int) := by omega
        have hm : (m : Int) ≤ (s.size : Int) := by omega
        clear h0 h1
        go_wp2_with fail
        go_loopw [7] (fun v wr => ∃ k L C : Nat, v = .int .i64 (k : Int) ∧ k ≤ m ∧ (L : Int) ≤ k ∧ (C : Int) ≤ k ∧ Hid (pos (s.data.toList.take k) = (L, C)) ∧ Blk wr w.heap.size 24 [.int .i64 0, .int .i64 0] ∧ Blk wr (w.heap.size + 1) 24 [.int .i64 (L : Int), .int .i64 (C : Int)] ∧ Below w.heap.size w wr) (fun v _ => m - (intOf v).toNat)
        case atStart => exact ⟨0, 0, 0, rfl, Nat.zero_le _, by omega, by omega, rfl, (Blk.alloc_ w _ [.int .i64 0, .int .i64 0]).alloc _, by have := Blk.alloc_ (w.alloc (.cells #[.int .i64 0, .int .i64 0] 24)) 24 [.int .i64 0, .int .i64 0]; simpa using this, by go_grown⟩
        case round =>
          obtain ⟨k, L, C, rfl, hk, hL, hC, hp, hb0, hb1, hbw⟩ := hrel
          have c0 : wr.cell? ⟨w.heap.size + 1, 0, none⟩ = some (.int .i64 (L : Int)) := by rw [hb1.cell]; rfl
          have c1 : wr.cell? ⟨w.heap.size + 1, 1, none⟩ = some (.int .i64 (C : Int)) := by rw [hb1.cell]; rfl
          have f0 := hb1.frozen 0
          have f1 := hb1.frozen 1
          have HB0 := Lib.hid hb0
          have HB1 := Lib.hid hb1
          clear hb0 hb1
          by_cases hlt : k < m
          · have hlt' : k < s.size := by omega
            have hst := pos_take hlt'
            rw [hp.out] at hst
            have hnl := nl_iff s[k]
            by_cases h10 : s[k] = 10
            · rw [if_pos h10] at hst
              have hb : ((s[k].toNat : Int) == 10) = true := by rw [hnl, h10]; rfl
              have HST := Lib.hid hst
              clear hst hnl h10
              go_wp2_with fail
              go_roundw
              case rel =>
                refine ⟨k + 1, L + 1, 0, by go_num, by omega, by omega, by omega, HST.out, ?_, ?_, ?_⟩
                · exact (HB0.out.far (by simp) _).far (by simp) _ |>.far (by simp) _
                · have := ((HB1.out.put 1 (.int .i64 ((C : Int) + 1))).put 0 (.int .i64 ((L : Int) + 1))).put 1 (.int .i64 0)
                  simpa using this
                · exact ((hbw.setCell (by simp) _).setCell (by simp) _).setCell (by simp) _
              case measure => simp [intOf]; omega
            · rw [if_neg h10] at hst
              have hb : ((s[k].toNat : Int) == 10) = false := by rw [hnl]; exact decide_eq_false h10
              have HST := Lib.hid hst
              clear hst hnl h10
              go_wp2_with fail
              go_roundw
              case rel =>
                refine ⟨k + 1, L, C + 1, by go_num, by omega, by omega, by omega, HST.out, ?_, ?_, ?_⟩
                · exact HB0.out.far (by simp) _
                · have := HB1.out.put 1 (.int .i64 ((C : Int) + 1))
                  simpa using this
                · exact hbw.setCell (by simp) _
              case measure => simp [intOf]; omega
          · obtain rfl : k = m := by omega
            have d0 : wr.cell? ⟨w.heap.size, 0, none⟩ = some (.int .i64 0) := by rw [HB0.out.cell]; rfl
            have d1 : wr.cell? ⟨w.heap.size, 1, none⟩ = some (.int .i64 0) := by rw [HB0.out.cell]; rfl
            have g0 := HB0.out.frozen 0
            have g1 := HB0.out.frozen 1
            have R : Posed (posRes s k) w (.returned (posT ((L, C), true))) ((wr.setCell ⟨w.heap.size, 0, none⟩ (.int .i64 (L : Int))).setCell ⟨w.heap.size, 1, none⟩ (.int .i64 (C : Int))) := ⟨by rw [HP.out, hp.out], (hbw.setCell (Nat.le_refl _) _).setCell (Nat.le_refl _) _⟩
            have HR := Lib.hid R; clear R
            have q0 : (wr.setCell ⟨w.heap.size, 0, none⟩ (.int .i64 (L : Int))).cell? ⟨w.heap.size, 0, none⟩ = some (.int .i64 (L : Int)) := by rw [(HB0.out.put 0 _).cell]; rfl
            have q1 : ((wr.setCell ⟨w.heap.size, 0, none⟩ (.int .i64 (L : Int))).setCell ⟨w.heap.size, 1, none⟩ (.int .i64 (C : Int))).cell? ⟨w.heap.size, 1, none⟩ = some (.int .i64 (C : Int)) := by rw [((HB0.out.put 0 _).put 1 _).cell]; rfl
            go_wp2_with fail
            refine bodyPost_ret (v := posT ((L, C), true)) (by simp [results, Tryd.results27, go_sem, q0, q1, posT]) rfl ?_
            exact HR.out

set_option maxHeartbeats 2000000 in
set_option maxRecDepth 20000 in
theorem implPosOf (s : ByteArray) (off : Int) (w : World) (hs : (s.size : Int) ≤ 1000000000000) :
    Calls Tryd.prog 26 #[.string s, .int .i64 off] w (Posed (posRes s off) w) := by
  go_enter Tryd.func26, Tryd.ntmps26
  go_wp2_with fail
  refine (implTextOk s _ (by omega)).mono ?_; rintro e w2 ⟨rfl, rfl⟩
  cases hok : textOk s.data.toList with
  | false =>
    have R : Posed (posRes s off) w (.returned (posT ((0, 0), false))) (w.alloc (.cells #[.int .i64 0, .int .i64 0] 24)) := ⟨by rw [posRes_bad (by simp [hok])], (Below.refl _ _).alloc (Nat.le_refl _) _⟩
    have HR := Lib.hid R; clear R hok
    go_wp2_with fail
    go_returns
    exact HR.out
  | true =>
    have HO := Lib.hid hok; clear hok
    by_cases hin : 0 ≤ off ∧ off ≤ s.size
    · obtain ⟨m, rfl⟩ : ∃ m : Nat, off = (m : Int) := ⟨off.toNat, by omega⟩
      have hm : m ≤ s.size := by omega
      have hm' : (m : Int) ≤ (s.size : Int) := by omega
      have HP := Lib.hid (posRes_good HO.out hm)
      have hd : (decide ((0 : Int) ≤ (m : Int)) && decide ((m : Int) ≤ (s.size : Int))) = true := by simp; omega
      have HD := Lib.hid hd
      clear hin hd
      go_wp2_with fail
      refine (inS _ _ _ _).mono ?_; rintro e w3 ⟨rfl, rfl⟩
      rw [HD.out]
      go_wp2_with fail
      have hx : (s.extract 0 m).size = m := by rw [ByteArray.size_extract]; omega
      have hxl : (s.extract 0 m).data.toList = s.data.toList.take m := by rw [ByteArray.data_extract]; simp
      have hcount : Lib.countByte (s.extract 0 m).data.toList 10 = (pos (s.data.toList.take m)).1 := by rw [hxl, pos_count]; rfl
      have hlast : (m : Int) - Lib.lastIndexByte (s.extract 0 m) 10 - 1 = ((pos (s.data.toList.take m)).2 : Int) := by
        have h := pos_last (s.extract 0 m) m (by omega)
        rw [hxl, List.take_take, Nat.min_self] at h
        rw [h]; unfold Lib.lastIndexByte; rw [hx]
      have HC := Lib.hid hcount
      have HL := Lib.hid hlast
      have hxs : (s.extract 0 m).size < 4611686018427387904 := by omega
      have hle := (pos_le (s.data.toList.take m)).2
      have hle2 : ((pos (s.data.toList.take m)).2 : Int) ≤ 1000000000000 := by
        have : (s.data.toList.take m).length ≤ m := List.length_take_le _ _
        omega
      have HLE := Lib.hid hle2
      clear hx hxl hcount hlast hle hle2
      refine (Tryd.strings_Count_one _ 10 _).mono ?_; rintro e w3 ⟨rfl, rfl⟩
      rw [HC.out]
      go_wp2_with fail
      refine (Tryd.strings_LastIndexByte _ 10 hxs _).mono ?_; rintro e w3 ⟨rfl, rfl⟩
      have hB := HL.out
      have hB2 := HLE.out
      have R : Posed (posRes s m) w (.returned (posT ((pos (s.data.toList.take m)), true))) (w.alloc (.cells #[.int .i64 ((pos (s.data.toList.take m)).1 : Int), .int .i64 ((pos (s.data.toList.take m)).2 : Int)] 24)) := ⟨by rw [HP.out], (Below.refl _ _).alloc (Nat.le_refl _) _⟩
      have HR := Lib.hid R; clear R
      generalize Lib.lastIndexByte (s.extract 0 m) 10 = li at *
      generalize hpp : pos (s.data.toList.take m) = p at *
      obtain ⟨L, C⟩ := p
      simp only at hB hB2
      obtain rfl : li = (m : Int) - (C : Int) - 1 := by omega
      have hCm : (C : Int) ≤ 1000000000000 := hB2
      have hC0 : (0 : Int) ≤ (C : Int) := by omega
      have HB := Lib.hid hB
      have e1 : (m : Int) - ((m : Int) - (C : Int) - 1) - 1 = (C : Int) := by omega
      clear hB hB2 hpp
      go_wp2_with fail
      go_returns
      exact HR.out
    · have hd : (decide ((0 : Int) ≤ off) && decide (off ≤ (s.size : Int))) = false := by simp; omega
      have HD := Lib.hid hd
      have R : Posed (posRes s off) w (.returned (posT ((0, 0), false))) (w.alloc (.cells #[.int .i64 0, .int .i64 0] 24)) := ⟨by rw [posRes_bad (by omega)], (Below.refl _ _).alloc (Nat.le_refl _) _⟩
      have HR := Lib.hid R; clear R hd hin
      go_wp2_with fail
      refine (inS _ _ _ _).mono ?_; rintro e w3 ⟨rfl, rfl⟩
      rw [HD.out]
      go_wp2_with fail
      go_returns
      exact HR.out
end Go.Proofs.YtdimljolinmofaaDoor
