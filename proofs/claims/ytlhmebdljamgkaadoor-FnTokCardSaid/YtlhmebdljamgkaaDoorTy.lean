/- Walks of the reference: the words of a line. -/
import Derived.Test.YtlhmebdljamgkaaDoorTx
namespace Go.Proofs.YtlhmebdljamgkaaDoor
open Go.RowKit Ilp
set_option linter.unusedVariables false

theorem kind_is {s : List UInt8} {k : Nat} (h : ∀ j : Nat, 1 ≤ j → j < k → tokOk j s = false) (hk : k ≤ 3) (h1 : 1 ≤ k) (hb : tokOk k s = true) : tokKind s = k := by
  have := (tokOk_kind (k : Int) s).1 hb
  omega
theorem kind_none {s : List UInt8} (h : ∀ j : Nat, 1 ≤ j → j < 4 → tokOk j s = false) : tokKind s = 0 := by
  have h3 := tokKind_le s
  by_cases h0 : tokKind s = 0
  · exact h0
  · have := h (tokKind s) (by omega) (by omega)
    rw [(tokOk_kind (tokKind s : Int) s).2 ⟨rfl, h0⟩] at this
    cases this
set_option maxHeartbeats 2000000 in
theorem specTokKind (s : ByteArray) (w : World) (hs : (s.size : Int) ≤ 4611686018427387904) :
    Calls Tryd.prog 13 #[.string s] w fun e w' => e = .returned (.int .i64 (tokKind s.data.toList : Int)) ∧ Drew w w' := by
  go_enter Tryd.func13, Tryd.ntmps13
  go_wp2_with fail
  go_loopw [3] (fun v wr => ∃ k : Nat, v = .int .i64 (k : Int) ∧ 1 ≤ k ∧ k ≤ 4 ∧ Hid (∀ j : Nat, 1 ≤ j → j < k → tokOk j s.data.toList = false) ∧ Drew w wr) (fun v _ => 4 - (intOf v).toNat)
  case atStart => exact ⟨1, rfl, Nat.le_refl _, by omega, fun j h1 h2 => by omega, 0, rfl⟩
  case round =>
    obtain ⟨k, rfl, hk1, hk4, hno, hd⟩ := hrel
    have HD := Lib.hid hd; clear hd
    by_cases hlt : k ≤ 3
    · have hlt' : (k : Int) ≤ 3 := by omega
      go_wp2_with fail
      refine (specTokOk (k : Int) s wr hs).mono ?_
      rintro e w1 ⟨rfl, hd1⟩
      have HD1 : Hid (Drew w w1) := by
        obtain ⟨a, ha⟩ := HD.out
        obtain ⟨b, rfl⟩ := hd1
        exact ⟨a + b, by rw [ha, World.drewN_drewN]⟩
      cases hb : tokOk (k : Int) s.data.toList with
      | true =>
        have HK := Lib.hid (kind_is hno.out hlt hk1 hb)
        clear hb hd1
        go_wp2_with fail
        go_ret
        exact ⟨by rw [HK.out]; rfl, HD1.out⟩
      | false =>
        have HN : Hid (∀ j : Nat, 1 ≤ j → j < k + 1 → tokOk j s.data.toList = false) := fun j h1 h2 => by
          by_cases e : j = k
          · subst e; exact hb
          · exact hno.out j h1 (by omega)
        clear hb hd1
        go_wp2_with fail
        go_roundw
        case rel => exact ⟨k + 1, by go_num, by omega, by omega, HN, HD1.out⟩
        case measure => simp [intOf]; omega
    · obtain rfl : k = 4 := by omega
      have HK := Lib.hid (kind_none hno.out)
      go_wp2_with fail
      go_ret
      exact ⟨by rw [HK.out]; rfl, HD.out⟩

theorem cls_let {c : UInt8} (h : isLet c = true) : cls c = 1 := by unfold cls; rw [if_pos h]
theorem cls_dig {c : UInt8} (h : isDig c = true) : cls c = 2 := by unfold cls; rw [if_neg (by rw [dig_not_let h]; simp), if_pos h]
theorem cls_rest {c : UInt8} (h : isLet c = false) (h2 : isDig c = false) : 3 ≤ cls c ∨ cls c = 0 := by
  unfold cls; rw [if_neg (by simp [h]), if_neg (by simp [h2])]
  split
  · exact .inl (by omega)
  · split
    · exact .inl (by omega)
    · exact .inr rfl

set_option maxHeartbeats 2000000 in
theorem l3Class (c : UInt8) (w : World) :
    Calls Tryd.prog 58 #[.int .u8 (c.toNat : Int)] w fun e w' => e = .returned (.int .i64 (cls c : Int)) ∧ w = w' := by
  obtain ⟨r0, r1⟩ := byte_rng c
  have hli := let_iff c
  have hdi := dig_iff' c
  cases hl : isLet c with
  | true =>
    have := hli.1 hl
    have h1 : (97 : Int) ≤ (c.toNat : Int) := this.1
    have h2 : (c.toNat : Int) ≤ 122 := this.2
    have H := Lib.hid (cls_let hl)
    clear hl hli hdi this
    go_enter Tryd.func58, Tryd.ntmps58
    go_wp2_with fail
    go_ret
    exact ⟨by rw [H.out]; rfl, rfl⟩
  | false =>
    have hnl : ¬ ((97 : Int) ≤ (c.toNat : Int) ∧ (c.toNat : Int) ≤ 122) := fun e => by rw [hli.2 e] at hl; cases hl
    cases hd : isDig c with
    | true =>
      have := hdi.1 hd
      have h1 : (48 : Int) ≤ (c.toNat : Int) := this.1
      have h2 : (c.toNat : Int) ≤ 57 := this.2
      have h3 : (c.toNat : Int) < 97 := by omega
      have H := Lib.hid (cls_dig hd)
      clear hl hli hdi this hd hnl
      go_enter Tryd.func58, Tryd.ntmps58
      go_wp2_with fail
      go_ret
      exact ⟨by rw [H.out]; rfl, rfl⟩
    | false =>
      have hnd : ¬ ((48 : Int) ≤ (c.toNat : Int) ∧ (c.toNat : Int) ≤ 57) := fun e => by rw [hdi.2 e] at hd; cases hd
      have hm := marks_index c
      have HM := Lib.hid hm
      have HCL : Hid (cls c = if isMark c = true then 3 else if c = 32 then 4 else 0) := by unfold Hid cls; rw [if_neg (by simp [hl]), if_neg (by simp [hd])]
      have HF := fun W => l12Find marksB c W (by decide)
      have hi := (index_mark marksB.data.toList c).2
      obtain ⟨ix, hix⟩ : ∃ ix, ix = Lib.indexByte marksB.data.toList c := ⟨_, rfl⟩
      rw [← hix] at hm hi
      have HF2 : ∀ W, Calls Tryd.prog 31 #[.string marksB, .int .u8 (c.toNat : Int)] W fun e w'' => e = .returned (.int .i64 ix) ∧ W = w'' := fun W => by rw [hix]; exact HF W
      have HHF := Lib.hid HF2
      clear HF HF2 hix HM hl hd hli hdi
      have key : ∀ (H : Hid (cls c = if (0 : Int) ≤ ix then 3 else if (c.toNat : Int) = 32 then 4 else 0)), Calls Tryd.prog 58 #[.int .u8 (c.toNat : Int)] w fun e w' => e = .returned (.int .i64 (cls c : Int)) ∧ w = w' := by
        intro H
        clear hm HCL
        by_cases hp : (0 : Int) ≤ ix
        · have HP : Hid (cls c = 3) := by unfold Hid; rw [H.out, if_pos hp]
          by_cases g1 : (97 : Int) ≤ (c.toNat : Int)
          · have g2 : (122 : Int) < (c.toNat : Int) := by omega
            have g3 : (57 : Int) < (c.toNat : Int) := by omega
            have g4 : (48 : Int) ≤ (c.toNat : Int) := by omega
            clear hnl hnd
            go_enter Tryd.func58, Tryd.ntmps58
            go_wp2_with fail
            refine (l3Marks w).mono ?_; rintro e w1 ⟨rfl, rfl⟩
            go_wp2_with fail
            refine (HHF.out w).mono ?_; rintro e w1 ⟨rfl, rfl⟩
            go_wp2_with fail
            go_ret
            exact ⟨by rw [HP.out]; rfl, rfl⟩
          · by_cases g4 : (48 : Int) ≤ (c.toNat : Int)
            · have g3 : (57 : Int) < (c.toNat : Int) := by omega
              clear hnl hnd
              go_enter Tryd.func58, Tryd.ntmps58
              go_wp2_with fail
              refine (l3Marks w).mono ?_; rintro e w1 ⟨rfl, rfl⟩
              go_wp2_with fail
              refine (HHF.out w).mono ?_; rintro e w1 ⟨rfl, rfl⟩
              go_wp2_with fail
              go_ret
              exact ⟨by rw [HP.out]; rfl, rfl⟩
            · clear hnl hnd
              go_enter Tryd.func58, Tryd.ntmps58
              go_wp2_with fail
              refine (l3Marks w).mono ?_; rintro e w1 ⟨rfl, rfl⟩
              go_wp2_with fail
              refine (HHF.out w).mono ?_; rintro e w1 ⟨rfl, rfl⟩
              go_wp2_with fail
              go_ret
              exact ⟨by rw [HP.out]; rfl, rfl⟩
        · by_cases h32 : (c.toNat : Int) = 32
          · have HP : Hid (cls c = 4) := by unfold Hid; rw [H.out, if_neg hp, if_pos h32]
            have hb : ((c.toNat : Int) == 32) = true := by rw [h32]; rfl
            have g1 : (c.toNat : Int) < 97 := by omega
            have g2 : (c.toNat : Int) < 48 := by omega
            clear hnl hnd h32 H
            go_enter Tryd.func58, Tryd.ntmps58
            go_wp2_with fail
            refine (l3Marks w).mono ?_; rintro e w1 ⟨rfl, rfl⟩
            go_wp2_with fail
            refine (HHF.out w).mono ?_; rintro e w1 ⟨rfl, rfl⟩
            go_wp2_with fail
            go_ret
            exact ⟨by rw [HP.out]; rfl, rfl⟩
          · have HP : Hid (cls c = 0) := by unfold Hid; rw [H.out, if_neg hp, if_neg h32]
            have hb : ((c.toNat : Int) == 32) = false := by rw [beq_eq_false_iff_ne]; exact h32
            clear h32 H
            by_cases g1 : (97 : Int) ≤ (c.toNat : Int)
            · have g2 : (122 : Int) < (c.toNat : Int) := by omega
              have g3 : (57 : Int) < (c.toNat : Int) := by omega
              have g4 : (48 : Int) ≤ (c.toNat : Int) := by omega
              clear hnl hnd
              go_enter Tryd.func58, Tryd.ntmps58
              go_wp2_with fail
              refine (l3Marks w).mono ?_; rintro e w1 ⟨rfl, rfl⟩
              go_wp2_with fail
              refine (HHF.out w).mono ?_; rintro e w1 ⟨rfl, rfl⟩
              go_wp2_with fail
              go_ret
              exact ⟨by rw [HP.out]; rfl, rfl⟩
            · by_cases g4 : (48 : Int) ≤ (c.toNat : Int)
              · have g3 : (57 : Int) < (c.toNat : Int) := by omega
                clear hnl hnd
                go_enter Tryd.func58, Tryd.ntmps58
                go_wp2_with fail
                refine (l3Marks w).mono ?_; rintro e w1 ⟨rfl, rfl⟩
                go_wp2_with fail
                refine (HHF.out w).mono ?_; rintro e w1 ⟨rfl, rfl⟩
                go_wp2_with fail
                go_ret
                exact ⟨by rw [HP.out]; rfl, rfl⟩
              · clear hnl hnd
                go_enter Tryd.func58, Tryd.ntmps58
                go_wp2_with fail
                refine (l3Marks w).mono ?_; rintro e w1 ⟨rfl, rfl⟩
                go_wp2_with fail
                refine (HHF.out w).mono ?_; rintro e w1 ⟨rfl, rfl⟩
                go_wp2_with fail
                go_ret
                exact ⟨by rw [HP.out]; rfl, rfl⟩
      apply key
      unfold Hid
      rw [HCL.out]
      by_cases hp : (0 : Int) ≤ ix
      · rw [if_pos (hm.2 hp), if_pos hp]
      · rw [if_neg (fun e => hp (hm.1 e)), if_neg hp]
        by_cases h32 : c = 32
        · subst h32; rfl
        · rw [if_neg h32, if_neg (fun e => h32 (UInt8.toNat_inj.1 (by show c.toNat = 32; omega)))]
end Go.Proofs.YtlhmebdljamgkaaDoor
