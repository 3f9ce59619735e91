/- Walks: what NumRead of the reference and of the program returns. -/
import Derived.Test.YtangjpfookkehaaN3
import Derived.Test.YtangjpfookkehaaFind
import Derived.Deep.QuietTactic
import Derived.BigQuiet
import Derived.Deep.RegionWith
import Derived.Outline
namespace Go.Proofs.Ytangjpfookkehaa
open Go.RowKit Ilp
set_option linter.unusedVariables false

def digI (c : UInt8) : Int := match dig c with
  | some d => (d : Int)
  | none => -1
theorem letters_find : ∀ n, n < 256 → Lib.indexByte [97, 98, 99, 100, 101, 102, 103, 104, 105, 106, 107, 108, 109, 110, 111, 112, 65, 66, 67, 68, 69, 70, 71, 72, 73, 74, 75, 76, 77, 78, 79, 80] (UInt8.ofNat n) = digI (UInt8.ofNat n) := by decide +kernel
theorem letters_digI (c : UInt8) : Lib.indexByte [97, 98, 99, 100, 101, 102, 103, 104, 105, 106, 107, 108, 109, 110, 111, 112, 65, 66, 67, 68, 69, 70, 71, 72, 73, 74, 75, 76, 77, 78, 79, 80] c = digI c := by
  have := letters_find c.toNat c.toNat_lt
  rwa [UInt8.ofNat_toNat] at this

theorem l2Digit (c : UInt8) (w : World) :
    Calls Try.prog 46 #[.int .u8 (c.toNat : Int)] w fun e w' => e = .returned (.int .i64 (digI c)) ∧ w = w' := by
  have hd := letters_digI c
  have HD := Lib.hid hd; clear hd
  go_enter Try.func46, Try.ntmps46
  go_wp2_with (first
    | (go_at_call 52; refine (l12Find _ c _ ?_).mono ?_; · (show ((32 : Nat) : Int) ≤ _; omega)
       rintro e w' ⟨rfl, rfl⟩)
    | go_in)
  go_ret
  exact ⟨by rw [← HD.out]; rfl, rfl⟩

theorem implDigit (c : UInt8) (w : World) :
    Calls Try.prog 45 #[.string ⟨#[97, 98, 99, 100, 101, 102, 103, 104, 105, 106, 107, 108, 109, 110, 111, 112, 65, 66, 67, 68, 69, 70, 71, 72, 73, 74, 75, 76, 77, 78, 79, 80]⟩, .int .u8 (c.toNat : Int)] w fun e w' => e = .returned (.int .i64 (digI c)) ∧ w = w' :=
  (Try.strings_IndexByte _ _ w).mono fun e w' ⟨he, hw⟩ => ⟨by
    rw [he, ← letters_digI c]
    have : (c.toNat : Int).toNat.toUInt8 = c := by simp
    rw [this], hw.symm⟩

/-- What both return. -/
def readV (s : List UInt8) (a : Int) : Value := .tuple #[.int .i64 (readAt s a).1, .int .i64 (readAt s a).2]
theorem readV_none {s : List UInt8} {a : Int} (h : readAt s a = (0, -1)) : readV s a = .tuple #[.int .i64 0, .int .i64 (-1)] := by unfold readV; rw [h]
theorem readV_some {s : List UInt8} {a : Int} {n e : Int} (h : readAt s a = (n, e)) : readV s a = .tuple #[.int .i64 n, .int .i64 e] := by unfold readV; rw [h]
theorem digI_some {c : UInt8} {d : Nat} (h : dig c = some d) : digI c = d := by unfold digI; rw [h]
theorem digI_none {c : UInt8} (h : dig c = none) : digI c = -1 := by unfold digI; rw [h]
theorem drop_get (s : ByteArray) (a k : Nat) (h : a + k < s.size) : (s.data.toList.drop a)[k]? = some s[a + k] := by
  rw [List.getElem?_drop]; exact byte_get s (a + k) h
theorem unzig_val (v : Nat) : unzig v = if v % 2 = 1 then -((v / 2 : Nat) : Int) else ((v / 2 : Nat) : Int) := rfl

theorem cut_list (s : ByteArray) (p k : Nat) : (s.extract p (p + k + 1)).toList = (s.data.toList.drop p).take (k + 1) := by
  rw [ByteArray.toList_eq, ByteArray.data_extract, Array.toList_extract, List.extract_eq_take_drop, show p + k + 1 - p = k + 1 by omega]

set_option maxHeartbeats 4000000 in
set_option maxRecDepth 10000 in
theorem specRead (s : ByteArray) (a : Int) (w : World) (hs : (s.size : Int) ≤ 4611686018427387904) :
    Calls Try.prog 26 #[.string s, .int .i64 a] w fun e w' => e = .returned (readV s.data.toList a) ∧ Below w.heap.size w w' := by
  by_cases h0 : a < 0
  · have H := Lib.hid (readV_none (readAt_neg (s := s.data.toList) h0))
    go_enter Try.func26, Try.ntmps26
    go_wp2_with fail
    refine wp_loop_rounds 1 ?_; rw [rounds_succ]
    go_wp2_with fail
    go_ret2
    exact ⟨by rw [H.out]; rfl, Below.refl _ _⟩
  · obtain ⟨p, rfl⟩ := Int.eq_ofNat_of_zero_le (by omega : 0 ≤ a)
    clear h0
    go_enter Try.func26, Try.ntmps26
    go_wp2_with fail
    go_loopw [6, 7, 8] (fun n b i wr => ∃ k v B : Nat, n = .int .i64 (v : Int) ∧ b = .int .i64 (B : Int) ∧ i = .int .i64 ((p : Int) + (k : Int)) ∧ k ≤ 7 ∧ Hid (B = 16 ^ k) ∧ (v : Int) < B ∧ (B : Int) ≤ 268435456 ∧ scanned (s.data.toList.drop p) k v ∧ Below w.heap.size w wr) (fun _ b i _ => 7 + p - (intOf i).toNat)
    case atStart => exact ⟨0, 0, 1, rfl, rfl, by simp, by omega, rfl, by omega, by omega, scanned_zero _, Below.refl _ _⟩
    case round =>
      obtain ⟨k, v, B, rfl, rfl, rfl, hk, hB, hv, hB2, hsc, hbw⟩ := hrel
      have HS := Lib.hid hsc; clear hsc
      by_cases hend : (s.size : Int) ≤ (p : Int) + k
      · have H := Lib.hid (readV_none (readAt_none (rd_end HS.out (by simp; omega))))
        go_wp2_with fail
        go_ret2
        exact ⟨by rw [H.out]; rfl, hbw⟩
      · have hlt : p + k < s.size := by omega
        by_cases hk7 : k = 7
        · have H := Lib.hid (readV_none (readAt_none (rd_long HS.out (by omega))))
          have hb7 : (B : Int) = 268435456 := by have := hB.out; rw [this, hk7]; rfl
          have hb8 : (16777216 : Int) < B := by omega
          clear hb7 hk7
          go_wp2_with fail
          go_ret2
          exact ⟨by rw [H.out]; rfl, hbw⟩
        · have hb8 : (B : Int) ≤ 16777216 := by
            have := hB.out
            have h6 := Nat.pow_le_pow_right (n := 16) (by omega) (by omega : k ≤ 6)
            have e6 : 16 ^ 6 = 16777216 := by decide
            omega
          have hk6 : k + 1 ≤ 7 := by omega
          clear hk7 hend
          have hg := drop_get s p k hlt
          have HG := Lib.hid hg; clear hg
          have hlt' : (p : Int) + k < s.size := by omega
          cases hd : dig s[p + k] with
          | none =>
            have H := Lib.hid (readV_none (readAt_none (rd_bad HS.out HG.out hd)))
            have HD := Lib.hid (digI_none hd)
            clear hd
            go_wp2_with fail
            refine (l2Digit _ _).mono ?_; rintro e w2 ⟨rfl, rfl⟩
            rw [HD.out]
            go_wp2_with fail
            go_ret2
            exact ⟨by rw [H.out]; rfl, hbw⟩
          | some d =>
            have HD := Lib.hid (digI_some hd)
            have hd32 := (letr_of_dig _ _ hd).1
            obtain ⟨P, hP⟩ : ∃ P : Nat, P = d % 16 * B := ⟨_, rfl⟩
            have hP1 : (P : Int) ≤ 15 * B := by
              have : d % 16 * B ≤ 15 * B := Nat.mul_le_mul_right _ (by omega)
              omega
            have hmul : ((d : Int) % 16) * (B : Int) = (P : Int) := by rw [hP, Int.natCast_mul, Int.natCast_emod]; rfl
            by_cases h16 : 16 ≤ d
            · have HS2 := Lib.hid (scanned_step HS.out HG.out hd h16)
              have h16' : (16 : Int) ≤ d := by omega
              have HP := Lib.hid hP
              have hdi : (d : Int) < 32 := by omega
              clear hd hP h16
              go_wp2_with fail
              refine (l2Digit _ _).mono ?_; rintro e w2 ⟨rfl, rfl⟩
              rw [HD.out]
              go_wp2_with fail
              go_roundw
              case rel =>
                refine ⟨k + 1, v + P, B * 16, by go_num, by go_num, by go_num, hk6, ?_, by omega, by omega, ?_, hbw⟩
                · show B * 16 = 16 ^ (k + 1); rw [Nat.pow_succ, ← hB.out]
                · have := HS2.out; rw [HP.out, hB.out]; exact this
              case measure => simp [intOf]; omega
            · have hP' : P = d * B := by rw [hP, Nat.mod_eq_of_lt (by omega)]
              have hlast := rd_last HS.out HG.out hd (by omega)
              rw [← hB.out, ← hP'] at hlast
              have h16' : (d : Int) < 16 := by omega
              have HR := Lib.hid hlast
              clear hd hP hP' h16 hlast
              have hV : (v : Int) + P ≤ 4294967296 := by omega
              go_wp2_with fail
              refine (l2Digit _ _).mono ?_; rintro e w2 ⟨rfl, rfl⟩
              rw [HD.out]
              obtain ⟨M, hM⟩ : ∃ M : Int, M = unzig (v + P) := ⟨_, rfl⟩
              have hM1 : ((v : Int) + P) % 2 = 1 → -(((v : Int) + P) / 2) = M := fun h => by rw [hM, unzig_val, if_pos (by omega)]; omega
              have hM2 : ¬ ((v : Int) + P) % 2 = 1 → ((v : Int) + P) / 2 = M := fun h => by rw [hM, unzig_val, if_neg (by omega)]; omega
              have HM1 := Lib.hid hM1; have HM2 := Lib.hid hM2
              rw [← hM] at HR
              clear hM1 hM2 hM
              go_wp2_with fail
              all_goals
                first
                  | (have hodd : (((v : Int) + P) % 2 == 1) = true := by assumption
                     rw [HM1.out (by simpa using hodd)])
                  | (have hodd : (((v : Int) + P) % 2 == 1) = false := by assumption
                     rw [HM2.out (by simpa using hodd)])
                clear hodd
                cases hm : numOk M with
                | false =>
                  have hq : ∀ wx, Calls Try.prog 36 #[.int .i64 M] wx fun e w' => e = .returned (.bool false) ∧ w' = wx := fun wx =>
                    (l2InIs false M wx hm.symm).mono fun e w' ⟨he, hw⟩ => ⟨he, hw.symm⟩
                  have HQ := Lib.hid hq; clear hq
                  have hno : numText M = (s.data.toList.drop p).take (k + 1) → False := fun e => by
                    rw [numText_no hm] at e
                    have := congrArg List.length e
                    simp at this; omega
                  have H := Lib.hid (readV_none (readAt_none (by rw [HR.out, if_neg hno])))
                  clear hm hno
                  go_quiet ((go_at_call 36; exact Calls.quiet_of_same (HQ.out _)))
                  go_wp2_with fail
                  go_ret2
                  exact ⟨by rw [H.out]; rfl, drewN_below hbw _⟩
                | true =>
                  have hq : ∀ wx, Calls Try.prog 36 #[.int .i64 M] wx fun e w' => e = .returned (.bool true) ∧ w' = wx := fun wx =>
                    (l2InIs true M wx hm.symm).mono fun e w' ⟨he, hw⟩ => ⟨he, hw.symm⟩
                  have ht : ∀ wx, Calls Try.prog 17 #[.int .i64 M] wx fun e w' => e = .returned (.string ⟨(numText M).toArray⟩) ∧ w' = wx := fun wx =>
                    (specNumText M wx).mono fun e w' ⟨he, hw⟩ => ⟨he, hw.symm⟩
                  have HQ := Lib.hid hq; clear hq
                  have HT := Lib.hid ht; clear ht
                  have hx1 : IntKind.i64.wrap ((p : Int) + (k : Int) + 1) = (p : Int) + (k : Int) + 1 := by rw [IntKind.wrap_i64]; omega
                  have hx2 : ((p : Int) + (k : Int) + 1).toNat = p + k + 1 := by omega
                  have hx3 : (p : Int) ≤ (p : Int) + (k : Int) + 1 := by omega
                  have hx4 : (p : Int) + (k : Int) + 1 ≤ s.size := by omega
                  have hcut : (s.extract p (p + k + 1)).toList = (s.data.toList.drop p).take (k + 1) := cut_list s p k
                  clear hm
                  by_cases heq : numText M = (s.data.toList.drop p).take (k + 1)
                  · have H := Lib.hid (readV_some (n := M) (e := (p : Int) + (k : Int) + 1) (by rw [readAt_some (by rw [HR.out, if_pos heq])]; congr 1))
                    rw [← heq] at hcut
                    clear heq
                    go_quiet (first
                      | (go_at_call 36; exact Calls.quiet_of_same (HQ.out _))
                      | (go_at_call 17; exact Calls.quiet_of_same (HT.out _)))
                    go_wp2_with fail
                    go_ret2
                    exact ⟨by rw [H.out]; rfl, drewN_below hbw _⟩
                  · have H := Lib.hid (readV_none (readAt_none (by rw [HR.out, if_neg heq])))
                    have hne : (numText M == (s.data.toList.drop p).take (k + 1)) = false := by rw [beq_eq_false_iff_ne]; exact heq
                    generalize (s.data.toList.drop p).take (k + 1) = Y at hne hcut
                    clear heq
                    go_quiet (first
                      | (go_at_call 36; exact Calls.quiet_of_same (HQ.out _))
                      | (go_at_call 17; exact Calls.quiet_of_same (HT.out _)))
                    go_wp2_with fail
                    go_ret2
                    exact ⟨by rw [H.out]; rfl, drewN_below hbw _⟩
end Go.Proofs.Ytangjpfookkehaa
