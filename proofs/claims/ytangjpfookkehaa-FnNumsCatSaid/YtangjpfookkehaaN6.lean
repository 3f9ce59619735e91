/- Walk: what NumRead of the program returns. -/
import Derived.Test.YtangjpfookkehaaN5
namespace Go.Proofs.Ytangjpfookkehaa
open Go.RowKit Ilp
set_option linter.unusedVariables false

set_option maxHeartbeats 4000000 in
set_option maxRecDepth 10000 in
theorem implRead (s : ByteArray) (a : Int) (w : World) (hs : (s.size : Int) ≤ 4611686018427387904) :
    Calls Try.prog 25 #[.string s, .int .i64 a] w fun e w' => e = .returned (readV s.data.toList a) ∧ Below w.heap.size w w' := by
  by_cases h0 : a < 0 ∨ (s.size : Int) ≤ a
  · have hn : readAt s.data.toList a = (0, -1) := by
      by_cases h1 : a < 0
      · exact readAt_neg h1
      · obtain ⟨p, rfl⟩ := Int.eq_ofNat_of_zero_le (by omega : 0 ≤ a)
        exact readAt_none (rd_end (scanned_zero _) (by simp; omega))
    have H := Lib.hid (readV_none hn)
    have hb : false = (decide (0 ≤ a) && decide (a ≤ (s.size : Int) - 1)) := by
      rcases h0 with h0 | h0
      · rw [decide_eq_false (by omega)]; rfl
      · rw [decide_eq_false (by omega : ¬ a ≤ (s.size : Int) - 1)]; simp
    have HB := Lib.hid hb
    clear hb hn h0
    go_enter Try.func25, Try.ntmps25
    go_wp2_with (go_at_call 35; refine (inIs false _ _ _ _ HB.out).mono ?_; rintro e w' ⟨rfl, rfl⟩)
    go_ret2
    exact ⟨by rw [H.out]; rfl, Below.refl _ _⟩
  · obtain ⟨p, rfl⟩ := Int.eq_ofNat_of_zero_le (by omega : 0 ≤ a)
    have hps : (p : Int) < s.size := by omega
    have hb : true = (decide (0 ≤ (p : Int)) && decide ((p : Int) ≤ (s.size : Int) - 1)) := by
      rw [decide_eq_true (by omega), decide_eq_true (by omega)]; rfl
    have HB := Lib.hid hb
    clear hb h0
    go_enter Try.func25, Try.ntmps25
    go_wp2_with (go_at_call 35; refine (inIs true _ _ _ _ HB.out).mono ?_; rintro e w' ⟨rfl, rfl⟩)
    go_loopw [6, 7, 8] (fun n b i wr => ∃ k v B : Nat, n = .int .i64 (v : Int) ∧ b = .int .i64 (B : Int) ∧ i = .int .i64 ((p : Int) + (k : Int)) ∧ k ≤ 8 ∧ Hid (B = 16 ^ k) ∧ (v : Int) < B ∧ (B : Int) ≤ 4294967296 ∧ scanned (s.data.toList.drop p) k v ∧ Below w.heap.size w wr) (fun _ b i _ => 8 + p - (intOf i).toNat)
    case atStart => exact ⟨0, 0, 1, rfl, rfl, by simp, by omega, rfl, by omega, by omega, scanned_zero _, Below.refl _ _⟩
    case round =>
      obtain ⟨k, v, B, rfl, rfl, rfl, hk, hB, hv, hB2, hsc, hbw⟩ := hrel
      have HS := Lib.hid hsc; clear hsc
      by_cases hend : (s.size : Int) ≤ (p : Int) + k
      · have H := Lib.hid (readV_none (readAt_none (rd_end HS.out (by simp; omega))))
        go_wp2_with fail
        go_ret2
        exact ⟨by rw [H.out]; rfl, hbw⟩
      · have hlt : p + k < s.size := by omega
        by_cases hk7 : k = 8
        · have H := Lib.hid (readV_none (readAt_none (rd_long HS.out (by omega))))
          have hb7 : (8 : Int) ≤ k := by omega
          clear hk7
          go_wp2_with fail
          go_ret2
          exact ⟨by rw [H.out]; rfl, hbw⟩
        · have hb8 : (B : Int) ≤ 268435456 := by
            have := hB.out
            have h6 := Nat.pow_le_pow_right (n := 16) (by omega) (by omega : k ≤ 7)
            have e6 : 16 ^ 7 = 268435456 := by decide
            omega
          have hk6 : k + 1 ≤ 8 := by omega
          have hk8 : (k : Int) < 8 := by omega
          clear hk7 hend
          have hg := drop_get s p k hlt
          have HG := Lib.hid hg; clear hg
          have hlt' : (p : Int) + k < s.size := by omega
          cases hd : dig s[p + k] with
          | none =>
            have H := Lib.hid (readV_none (readAt_none (rd_bad HS.out HG.out hd)))
            have HD := Lib.hid (digI_none hd)
            clear hd
            go_wp2_with fail
            refine (implDigit _ _).mono ?_; rintro e w2 ⟨rfl, rfl⟩
            rw [HD.out]
            go_wp2_with fail
            go_ret2
            exact ⟨by rw [H.out]; rfl, hbw⟩
          | some d =>
            have HD := Lib.hid (digI_some hd)
            have hd32 := (letr_of_dig _ _ hd).1
            obtain ⟨P, hP⟩ : ∃ P : Nat, P = d % 16 * B := ⟨_, rfl⟩
            have hP1 : (P : Int) ≤ 15 * B := by
              have : d % 16 * B ≤ 15 * B := Nat.mul_le_mul_right _ (by omega)
              omega
            have hmul : ((d : Int) % 16) * (B : Int) = (P : Int) := by rw [hP, Int.natCast_mul, Int.natCast_emod]; rfl
            by_cases h16 : 16 ≤ d
            · have HS2 := Lib.hid (scanned_step HS.out HG.out hd h16)
              have h16' : (16 : Int) ≤ d := by omega
              have HP := Lib.hid hP
              have hdi : (d : Int) < 32 := by omega
              clear hd hP h16
              go_wp2_with fail
              refine (implDigit _ _).mono ?_; rintro e w2 ⟨rfl, rfl⟩
              rw [HD.out]
              go_wp2_with fail
              go_roundw
              case rel =>
                refine ⟨k + 1, v + P, B * 16, by go_num, by go_num, by go_num, hk6, ?_, by omega, by omega, ?_, hbw⟩
                · show B * 16 = 16 ^ (k + 1); rw [Nat.pow_succ, ← hB.out]
                · have := HS2.out; rw [HP.out, hB.out]; exact this
              case measure => simp [intOf]; omega
            · have hP' : P = d * B := by rw [hP, Nat.mod_eq_of_lt (by omega)]
              have hlast := rd_last HS.out HG.out hd (by omega)
              rw [← hB.out, ← hP'] at hlast
              have h16' : (d : Int) < 16 := by omega
              have HR := Lib.hid hlast
              clear hd hP hP' h16 hlast
              have hV : (v : Int) + P ≤ 4294967296 := by omega
              go_wp2_with fail
              refine (implDigit _ _).mono ?_; rintro e w2 ⟨rfl, rfl⟩
              rw [HD.out]
              obtain ⟨M, hM⟩ : ∃ M : Int, M = unzig (v + P) := ⟨_, rfl⟩
              have hM1 : ((v : Int) + P) % 2 = 1 → -(((v : Int) + P) / 2) = M := fun h => by rw [hM, unzig_val, if_pos (by omega)]; omega
              have hM2 : ¬ ((v : Int) + P) % 2 = 1 → ((v : Int) + P) / 2 = M := fun h => by rw [hM, unzig_val, if_neg (by omega)]; omega
              have HM1 := Lib.hid hM1; have HM2 := Lib.hid hM2
              rw [← hM] at HR
              clear hM1 hM2 hM
              go_wp2_with fail
              all_goals
                first
                  | (have hodd : (((v : Int) + P) % 2 == 1) = true := by assumption
                     rw [HM1.out (by simpa using hodd)])
                  | (have hodd : (((v : Int) + P) % 2 == 1) = false := by assumption
                     rw [HM2.out (by simpa using hodd)])
                clear hodd
                have hx1 : IntKind.i64.wrap ((p : Int) + (k : Int) + 1) = (p : Int) + (k : Int) + 1 := by rw [IntKind.wrap_i64]; omega
                have hx2 : ((p : Int) + (k : Int) + 1).toNat = p + k + 1 := by omega
                have hx3 : (p : Int) ≤ (p : Int) + (k : Int) + 1 := by omega
                have hx4 : (p : Int) + (k : Int) + 1 ≤ s.size := by omega
                have hcut : (s.extract p (p + k + 1)).toList = (s.data.toList.drop p).take (k + 1) := cut_list s p k
                have hsz := hbw.size
                by_cases heq : numText M = (s.data.toList.drop p).take (k + 1)
                · have H := Lib.hid (readV_some (n := M) (e := (p : Int) + (k : Int) + 1) (by rw [readAt_some (by rw [HR.out, if_pos heq])]; congr 1))
                  rw [← heq] at hcut
                  clear heq
                  go_region_with (go_at_call 18; refine (implNumText _ _).mono ?_; rintro e w3 ⟨rfl, hb3⟩)
                  all_goals
                    go_wp2_with fail
                    go_ret2
                    refine ⟨by rw [H.out]; rfl, ?_⟩
                    exact Below.trans (Below.drew hbw) (Below.mono hb3 hsz)
                · have H := Lib.hid (readV_none (readAt_none (by rw [HR.out, if_neg heq])))
                  have hne : (numText M == (s.data.toList.drop p).take (k + 1)) = false := by rw [beq_eq_false_iff_ne]; exact heq
                  generalize (s.data.toList.drop p).take (k + 1) = Y at hne hcut
                  clear heq
                  go_region_with (go_at_call 18; refine (implNumText _ _).mono ?_; rintro e w3 ⟨rfl, hb3⟩)
                  all_goals
                    go_wp2_with fail
                    go_ret2
                    refine ⟨by rw [H.out]; rfl, ?_⟩
                    exact Below.trans (Below.drew hbw) (Below.mono hb3 hsz)
end Go.Proofs.Ytangjpfookkehaa
