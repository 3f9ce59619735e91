/- Walks of the reference: the words of a line. -/
import Derived.Test.YtlhmebdljamgkaaDoorTy
namespace Ilp
theorem cls_one (c : UInt8) : cls c = 1 ↔ isLet c = true := by
  unfold cls
  split
  · simp [*]
  · split
    · simp [*]
    · split
      · simp [*]
      · split
        · rename_i h; subst h; decide
        · simp [*]
theorem cls_two (c : UInt8) : cls c = 2 ↔ isDig c = true := by
  unfold cls
  split
  · rename_i h; simp [let_not_dig h]
  · split
    · simp [*]
    · split
      · simp [*]
      · split
        · rename_i h; subst h; decide
        · simp [*]
theorem cls_le (c : UInt8) : cls c ≤ 4 := by
  unfold cls; split
  · omega
  · split
    · omega
    · split
      · omega
      · split <;> omega
theorem cls_none {c : UInt8} (h : cls c = 0) : isLet c = false ∧ isDig c = false ∧ isMark c = false ∧ c ≠ 32 := by
  unfold cls at h
  split at h
  · cases h
  · split at h
    · cases h
    · split at h
      · cases h
      · split at h
        · cases h
        · simp_all
theorem kind_cls {c : UInt8} (h : cls c = 0) (t : List UInt8) : tokKind (c :: t) = 0 := by
  obtain ⟨h1, h2, h3, _⟩ := cls_none h
  unfold tokKind
  rw [if_neg (by simp [tokWord, h1]), if_neg (by simp [tokNum, h2]), if_neg]
  cases t with
  | nil => simp [tokMark, h3]
  | cons d t => simp [tokMark]
end Ilp
namespace Go.Proofs.YtlhmebdljamgkaaDoor
open Go.RowKit Ilp
set_option linter.unusedVariables false

theorem len_data (s : ByteArray) : s.data.toList.length = s.size := by simp
theorem get_data (s : ByteArray) (k : Nat) (h : k < s.size) : s.data.toList[k]'(by rw [len_data]; exact h) = s[k] := by simp; rfl
theorem piece_data (s : ByteArray) (f i : Nat) : (s.extract f i).data.toList = (s.data.toList.drop f).take (i - f) := by
  rw [ByteArray.data_extract, Array.toList_extract, List.extract_eq_take_drop]

def Ends (s : ByteArray) (k : Nat) (w : World) (e : Ending) (w' : World) : Prop := ∃ j : Nat, e = .returned (.int .i64 (j : Int)) ∧ k < j ∧ j ≤ s.size ∧ (∀ h : k < s.size, cls s[k] ≠ 0 → j = k + wlen (s.data.toList.drop k)) ∧ w = w'
set_option maxHeartbeats 4000000 in
theorem l3End (s : ByteArray) (k : Nat) (w : World) (hs : (s.size : Int) ≤ 4611686018427387904) (hk : k < s.size) :
    Calls Tryd.prog 45 #[.string s, .int .i64 (k : Int)] w (Ends s k w) := by
  have hkI : (k : Int) < (s.size : Int) := by omega
  have hk0 : (0 : Int) ≤ (k : Int) := by omega
  have hwl := wlen_at (L := s.data.toList) (k := k) (by rw [len_data]; exact hk)
  rw [get_data s k hk] at hwl
  have hle := cls_le s[k]
  rcases (show cls s[k] = 0 ∨ cls s[k] = 1 ∨ cls s[k] = 2 ∨ 3 ≤ cls s[k] by omega) with hc | hc | hc | hc
  · have HC := Lib.hid hc
    clear hc hwl hle
    go_enter Tryd.func45, Tryd.ntmps45
    go_wp2_with fail
    refine (l3Class s[k] w).mono ?_
    rw [HC.out]
    rintro e w1 ⟨rfl, rfl⟩
    go_wp2_with fail
    go_loop [6] (fun v => ∃ j : Nat, v = .int .i64 (j : Int) ∧ k < j ∧ j ≤ s.size) (fun v => s.size - (intOf v).toNat)
    case atStart => exact ⟨k + 1, by go_num, by omega, by omega⟩
    case round =>
      obtain ⟨j, rfl, hj1, hj2⟩ := hrel
      by_cases hlt : (j : Int) < (s.size : Int)
      · have hj : j < s.size := by omega
        have CC := l3Class s[j] w
        generalize cls s[j] = q at CC
        have HCC := Lib.hid CC
        clear CC
        go_wp2_with fail
        refine HCC.out.mono ?_
        rintro e w1 ⟨rfl, rfl⟩
        by_cases hq : q = 0
        · subst hq
          go_wp2_with fail
          go_round
          case rel => exact ⟨j + 1, by go_num, by omega, by omega⟩
          case measure => simp [intOf]; omega
        · have hqb : ((q : Int) == 0) = false := by rw [beq_eq_false_iff_ne]; omega
          have R : Ends s k w (.returned (.int .i64 (j : Int))) w := ⟨j, rfl, hj1, hj2, fun _ h => absurd HC.out h, rfl⟩
          have HR := Lib.hid R
          clear R hq
          go_wp2_with fail
          go_ret
          exact HR.out
      · have R : Ends s k w (.returned (.int .i64 (j : Int))) w := ⟨j, rfl, hj1, hj2, fun _ h => absurd HC.out h, rfl⟩
        have HR := Lib.hid R
        clear R
        go_wp2_with fail
        go_ret
        exact HR.out
  · have HC := Lib.hid hc
    have hp : isLet s[k] = true := (cls_one s[k]).1 hc
    have HW : Hid (wlen (s.data.toList.drop k) = 1 + runOf isLet (s.data.toList.drop (k + 1))) := by
      unfold Hid; rw [hwl]; rw [if_pos hp]
    clear hc hwl hle hp
    go_enter Tryd.func45, Tryd.ntmps45
    go_wp2_with fail
    refine (l3Class s[k] w).mono ?_
    rw [HC.out]
    rintro e w1 ⟨rfl, rfl⟩
    go_wp2_with fail
    go_loop [6] (fun v => ∃ j : Nat, v = .int .i64 (j : Int) ∧ k < j ∧ j ≤ s.size ∧ Hid (wlen (s.data.toList.drop k) = (j - k) + runOf isLet (s.data.toList.drop j))) (fun v => s.size - (intOf v).toNat)
    case atStart => exact ⟨k + 1, by go_num, by omega, by omega, by unfold Hid; rw [HW.out, show k + 1 - k = 1 by omega]⟩
    case round =>
      obtain ⟨j, rfl, hj1, hj2, hw⟩ := hrel
      by_cases hlt : (j : Int) < (s.size : Int)
      · have hj : j < s.size := by omega
        have hst := runOf_at (p := isLet) (L := s.data.toList) (k := j) (by rw [len_data]; exact hj)
        rw [get_data s j hj] at hst
        have hcl := cls_one s[j]
        have CC := l3Class s[j] w
        generalize cls s[j] = q at CC hcl
        have HCC := Lib.hid CC
        clear CC
        go_wp2_with fail
        refine HCC.out.mono ?_
        rintro e w1 ⟨rfl, rfl⟩
        by_cases hq : q = 1
        · have HW2 : Hid (wlen (s.data.toList.drop k) = (j + 1 - k) + runOf isLet (s.data.toList.drop (j + 1))) := by
            unfold Hid; rw [hw.out, hst, if_pos (hcl.1 hq)]; omega
          subst hq
          clear hst hcl
          go_wp2_with fail
          go_round
          case rel => exact ⟨j + 1, by go_num, by omega, by omega, HW2⟩
          case measure => simp [intOf]; omega
        · have hqb : ((q : Int) == 1) = false := by rw [beq_eq_false_iff_ne]; omega
          have R : Ends s k w (.returned (.int .i64 (j : Int))) w := ⟨j, rfl, hj1, hj2, fun _ h => by
            have := hw.out
            rw [hst, if_neg (fun e => hq (hcl.2 e))] at this; omega, rfl⟩
          have HR := Lib.hid R
          clear R hq hst hcl
          go_wp2_with fail
          go_ret
          exact HR.out
      · have R : Ends s k w (.returned (.int .i64 (j : Int))) w := ⟨j, rfl, hj1, hj2, fun _ h => by
          have := hw.out
          rw [runOf_nil _ (by rw [len_data]; omega)] at this; omega, rfl⟩
        have HR := Lib.hid R
        clear R
        go_wp2_with fail
        go_ret
        exact HR.out
  · have HC := Lib.hid hc
    have hp : isDig s[k] = true := (cls_two s[k]).1 hc
    have HW : Hid (wlen (s.data.toList.drop k) = 1 + runOf isDig (s.data.toList.drop (k + 1))) := by
      unfold Hid; rw [hwl]; rw [if_neg (by rw [dig_not_let hp]; simp), if_pos hp]
    clear hc hwl hle hp
    go_enter Tryd.func45, Tryd.ntmps45
    go_wp2_with fail
    refine (l3Class s[k] w).mono ?_
    rw [HC.out]
    rintro e w1 ⟨rfl, rfl⟩
    go_wp2_with fail
    go_loop [6] (fun v => ∃ j : Nat, v = .int .i64 (j : Int) ∧ k < j ∧ j ≤ s.size ∧ Hid (wlen (s.data.toList.drop k) = (j - k) + runOf isDig (s.data.toList.drop j))) (fun v => s.size - (intOf v).toNat)
    case atStart => exact ⟨k + 1, by go_num, by omega, by omega, by unfold Hid; rw [HW.out, show k + 1 - k = 1 by omega]⟩
    case round =>
      obtain ⟨j, rfl, hj1, hj2, hw⟩ := hrel
      by_cases hlt : (j : Int) < (s.size : Int)
      · have hj : j < s.size := by omega
        have hst := runOf_at (p := isDig) (L := s.data.toList) (k := j) (by rw [len_data]; exact hj)
        rw [get_data s j hj] at hst
        have hcl := cls_two s[j]
        have CC := l3Class s[j] w
        generalize cls s[j] = q at CC hcl
        have HCC := Lib.hid CC
        clear CC
        go_wp2_with fail
        refine HCC.out.mono ?_
        rintro e w1 ⟨rfl, rfl⟩
        by_cases hq : q = 2
        · have HW2 : Hid (wlen (s.data.toList.drop k) = (j + 1 - k) + runOf isDig (s.data.toList.drop (j + 1))) := by
            unfold Hid; rw [hw.out, hst, if_pos (hcl.1 hq)]; omega
          subst hq
          clear hst hcl
          go_wp2_with fail
          go_round
          case rel => exact ⟨j + 1, by go_num, by omega, by omega, HW2⟩
          case measure => simp [intOf]; omega
        · have hqb : ((q : Int) == 2) = false := by rw [beq_eq_false_iff_ne]; omega
          have R : Ends s k w (.returned (.int .i64 (j : Int))) w := ⟨j, rfl, hj1, hj2, fun _ h => by
            have := hw.out
            rw [hst, if_neg (fun e => hq (hcl.2 e))] at this; omega, rfl⟩
          have HR := Lib.hid R
          clear R hq hst hcl
          go_wp2_with fail
          go_ret
          exact HR.out
      · have R : Ends s k w (.returned (.int .i64 (j : Int))) w := ⟨j, rfl, hj1, hj2, fun _ h => by
          have := hw.out
          rw [runOf_nil _ (by rw [len_data]; omega)] at this; omega, rfl⟩
        have HR := Lib.hid R
        clear R
        go_wp2_with fail
        go_ret
        exact HR.out
  · have hl1 : isLet s[k] = false := Bool.eq_false_iff.2 fun e => by have := (cls_one s[k]).2 e; omega
    have hl2 : isDig s[k] = false := Bool.eq_false_iff.2 fun e => by have := (cls_two s[k]).2 e; omega
    have hw1 : wlen (s.data.toList.drop k) = 1 := by rw [hwl, hl1, hl2]; rfl
    have R : Ends s k w (.returned (.int .i64 ((k : Int) + 1))) w := ⟨k + 1, by go_num, by omega, by omega, fun _ h => by rw [hw1], rfl⟩
    have HR := Lib.hid R
    have hcI : ¬ ((cls s[k] : Int) < 3) := by omega
    have CC := l3Class s[k] w
    generalize cls s[k] = q at CC hcI
    have HCC := Lib.hid CC
    clear R hl1 hl2 hw1 hwl hc hle CC
    go_enter Tryd.func45, Tryd.ntmps45
    go_wp2_with fail
    refine HCC.out.mono ?_
    rintro e w1 ⟨rfl, rfl⟩
    go_wp2_with fail
    go_loop [6] (fun v => v = .int .i64 ((k : Int) + 1)) (fun v => 0)
    case atStart => rfl
    case round =>
      subst hrel
      by_cases hlt : ((k : Int) + 1) < (s.size : Int)
      · go_wp2_with fail
        go_ret
        exact HR.out
      · go_wp2_with fail
        go_ret
        exact HR.out
end Go.Proofs.YtlhmebdljamgkaaDoor
