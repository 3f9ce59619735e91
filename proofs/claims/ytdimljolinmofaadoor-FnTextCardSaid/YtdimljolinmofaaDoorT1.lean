/- Walks: what TextOk of the reference and of the program returns. -/
import Derived.Test.YtdimljolinmofaaDoorGround
import Derived.Test.YtdimljolinmofaaDoorP1
import Derived.Lib.Strings
namespace Go.Proofs.YtdimljolinmofaaDoor
open Go.RowKit Ilp
set_option linter.unusedVariables false

theorem byte_at (s : ByteArray) (k : Nat) (h : k < s.size) : s.data.toList.drop k = s[k] :: s.data.toList.drop (k + 1) := by
  rw [List.drop_eq_getElem_cons (by simpa using h)]; rfl
theorem okFrom_drop {s : ByteArray} {k v : Nat} (h : k < s.size) : okFrom v (s.data.toList.drop k) = if s[k] = 10 then okFrom 0 (s.data.toList.drop (k + 1)) else decide (32 ≤ s[k].toNat) && decide (s[k].toNat ≤ 126) && decide (v + 1 ≤ 120) && okFrom (v + 1) (s.data.toList.drop (k + 1)) := by
  rw [byte_at s k h, okFrom]
theorem textOk_bad {T : List UInt8} (h : okFrom 0 T = false) : textOk T = false := by unfold textOk; rw [h]; simp
theorem textOk_good {T : List UInt8} (h : okFrom 0 T = true) : textOk T = decide (T.length ≤ 4000) := by unfold textOk; rw [h]; simp
theorem nl_iff (c : UInt8) : ((c.toNat : Int) == 10) = decide (c = 10) := by
  rw [Bool.eq_iff_iff]; simp only [beq_iff_eq, decide_eq_true_eq]
  constructor
  · intro h; apply UInt8.toNat_inj.1; show c.toNat = 10; omega
  · intro h; subst h; rfl

set_option maxHeartbeats 2000000 in
set_option maxRecDepth 20000 in
theorem specTextOk (s : ByteArray) (w : World) (hs : (s.size : Int) ≤ 4611686018427387904) :
    Calls Tryd.prog 23 #[.string s] w fun e w' => e = .returned (.bool (textOk s.data.toList)) ∧ w = w' := by
  go_enter Tryd.func23, Tryd.ntmps23
  go_wp2_with fail
  go_loop [3, 4] (fun v i => ∃ k d : Nat, i = .int .i64 (k : Int) ∧ v = .int .i64 (d : Int) ∧ k ≤ s.size ∧ (d : Int) ≤ 120 ∧ Hid (okFrom 0 s.data.toList = okFrom d (s.data.toList.drop k))) (fun _ i => s.size - (intOf i).toNat)
  case atStart => exact ⟨0, 0, rfl, rfl, Nat.zero_le _, by omega, rfl⟩
  case round =>
    obtain ⟨k, d, rfl, rfl, hk, hd, hok⟩ := hrel
    by_cases hlt : k < s.size
    · have hst := okFrom_drop (v := d) hlt
      have hnl := nl_iff s[k]
      have hc0 : (0 : Int) ≤ (s[k].toNat : Int) := by omega
      have hc1 : (s[k].toNat : Int) ≤ 255 := by have := s[k].toNat_lt; omega
      by_cases h10 : s[k] = 10
      · rw [if_pos h10] at hst
        have hb : ((s[k].toNat : Int) == 10) = true := by rw [hnl, h10]; rfl
        have hb' : ((s[k].toNat : Int) != 10) = false := by simp [bne, hb]
        have hok2 : Hid (okFrom 0 s.data.toList = okFrom 0 (s.data.toList.drop (k + 1))) := by unfold Hid; rw [hok.out, hst]
        clear hst hnl h10
        go_wp2_with fail
        go_round
        case rel => exact ⟨k + 1, 0, by go_num, rfl, by omega, by omega, hok2⟩
        case measure => simp [intOf]; omega
      · rw [if_neg h10] at hst
        have hb : ((s[k].toNat : Int) == 10) = false := by rw [hnl]; exact decide_eq_false h10
        have hb' : ((s[k].toNat : Int) != 10) = true := by simp [bne, hb]
        clear hnl h10
        by_cases h32 : (s[k].toNat : Int) < 32
        · have H := Lib.hid (textOk_bad (by rw [hok.out, hst, decide_eq_false (by omega)]; simp))
          clear hst
          go_wp2_with fail
          go_ret
          exact ⟨by rw [H.out]; rfl, rfl⟩
        · by_cases h126 : (126 : Int) < (s[k].toNat : Int)
          · have H := Lib.hid (textOk_bad (by rw [hok.out, hst, decide_eq_false (by omega : ¬ s[k].toNat ≤ 126)]; simp))
            clear hst
            go_wp2_with fail
            go_ret
            exact ⟨by rw [H.out]; rfl, rfl⟩
          · by_cases h120 : (120 : Int) ≤ (d : Int)
            · have H := Lib.hid (textOk_bad (by rw [hok.out, hst, decide_eq_false (by omega : ¬ d + 1 ≤ 120)]; simp))
              clear hst
              go_wp2_with fail
              go_ret
              exact ⟨by rw [H.out]; rfl, rfl⟩
            · have hok2 : Hid (okFrom 0 s.data.toList = okFrom (d + 1) (s.data.toList.drop (k + 1))) := by
                unfold Hid; rw [hok.out, hst, decide_eq_true (by omega), decide_eq_true (by omega), decide_eq_true (by omega)]; rfl
              clear hst
              go_wp2_with fail
              go_round
              case rel => exact ⟨k + 1, d + 1, by go_num, by go_num, by omega, by omega, hok2⟩
              case measure => simp [intOf]; omega
    · obtain rfl : k = s.size := by omega
      have hg : okFrom 0 s.data.toList = true := by rw [hok.out, List.drop_eq_nil_of_le (by simp)]; rfl
      have hl : s.data.toList.length = s.size := by simp
      by_cases h4 : (s.size : Int) ≤ 4000
      · have H := Lib.hid (show textOk s.data.toList = true by rw [textOk_good hg, hl]; exact decide_eq_true (by omega))
        clear hg hl
        go_wp2_with fail
        go_ret
        exact ⟨by rw [H.out]; rfl, rfl⟩
      · have H := Lib.hid (show textOk s.data.toList = false by rw [textOk_good hg, hl]; exact decide_eq_false (by omega))
        clear hg hl
        go_wp2_with fail
        go_ret
        exact ⟨by rw [H.out]; rfl, rfl⟩

set_option maxHeartbeats 2000000 in
set_option maxRecDepth 20000 in
theorem implTextOk (s : ByteArray) (w : World) (hs : (s.size : Int) ≤ 4611686018427387904) :
    Calls Tryd.prog 29 #[.string s] w fun e w' => e = .returned (.bool (textOk s.data.toList)) ∧ w = w' := by
  go_enter Tryd.func29, Tryd.ntmps29
  go_wp2_with fail
  go_loop [3, 7] (fun v i => ∃ k d : Nat, i = .int .i64 (k : Int) ∧ v = .int .i64 (d : Int) ∧ k ≤ s.size ∧ (d : Int) ≤ 120 ∧ Hid (okFrom 0 s.data.toList = okFrom d (s.data.toList.drop k))) (fun _ i => s.size - (intOf i).toNat)
  case atStart => exact ⟨0, 0, rfl, rfl, Nat.zero_le _, by omega, rfl⟩
  case round =>
    obtain ⟨k, d, rfl, rfl, hk, hd, hok⟩ := hrel
    by_cases hlt : k < s.size
    · have hst := okFrom_drop (v := d) hlt
      have hnl := nl_iff s[k]
      have hc0 : (0 : Int) ≤ (s[k].toNat : Int) := by omega
      have hc1 : (s[k].toNat : Int) ≤ 255 := by have := s[k].toNat_lt; omega
      by_cases h10 : s[k] = 10
      · rw [if_pos h10] at hst
        have hb : ((s[k].toNat : Int) == 10) = true := by rw [hnl, h10]; rfl
        have hb' : ((s[k].toNat : Int) != 10) = false := by simp [bne, hb]
        have hok2 : Hid (okFrom 0 s.data.toList = okFrom 0 (s.data.toList.drop (k + 1))) := by unfold Hid; rw [hok.out, hst]
        clear hst hnl h10
        go_wp2_with fail
        go_round
        case rel => exact ⟨k + 1, 0, by go_num, rfl, by omega, by omega, hok2⟩
        case measure => simp [intOf]; omega
      · rw [if_neg h10] at hst
        have hb : ((s[k].toNat : Int) == 10) = false := by rw [hnl]; exact decide_eq_false h10
        have hb' : ((s[k].toNat : Int) != 10) = true := by simp [bne, hb]
        clear hnl h10
        by_cases h32 : (s[k].toNat : Int) < 32
        · have H := Lib.hid (textOk_bad (by rw [hok.out, hst, decide_eq_false (by omega)]; simp))
          clear hst
          go_wp2_with fail
          go_ret
          exact ⟨by rw [H.out]; rfl, rfl⟩
        · by_cases h126 : (126 : Int) < (s[k].toNat : Int)
          · have H := Lib.hid (textOk_bad (by rw [hok.out, hst, decide_eq_false (by omega : ¬ s[k].toNat ≤ 126)]; simp))
            clear hst
            go_wp2_with fail
            go_ret
            exact ⟨by rw [H.out]; rfl, rfl⟩
          · by_cases h120 : (120 : Int) ≤ (d : Int)
            · have H := Lib.hid (textOk_bad (by rw [hok.out, hst, decide_eq_false (by omega : ¬ d + 1 ≤ 120)]; simp))
              clear hst
              go_wp2_with fail
              go_ret
              exact ⟨by rw [H.out]; rfl, rfl⟩
            · have hok2 : Hid (okFrom 0 s.data.toList = okFrom (d + 1) (s.data.toList.drop (k + 1))) := by
                unfold Hid; rw [hok.out, hst, decide_eq_true (by omega), decide_eq_true (by omega), decide_eq_true (by omega)]; rfl
              clear hst
              go_wp2_with fail
              go_round
              case rel => exact ⟨k + 1, d + 1, by go_num, by go_num, by omega, by omega, hok2⟩
              case measure => simp [intOf]; omega
    · obtain rfl : k = s.size := by omega
      have hg : okFrom 0 s.data.toList = true := by rw [hok.out, List.drop_eq_nil_of_le (by simp)]; rfl
      have hl : s.data.toList.length = s.size := by simp
      by_cases h4 : (s.size : Int) ≤ 4000
      · have H := Lib.hid (show textOk s.data.toList = true by rw [textOk_good hg, hl]; exact decide_eq_true (by omega))
        clear hg hl
        go_wp2_with fail
        go_ret
        exact ⟨by rw [H.out]; rfl, rfl⟩
      · have H := Lib.hid (show textOk s.data.toList = false by rw [textOk_good hg, hl]; exact decide_eq_false (by omega))
        clear hg hl
        go_wp2_with fail
        go_ret
        exact ⟨by rw [H.out]; rfl, rfl⟩
end Go.Proofs.YtdimljolinmofaaDoor
