/- Walks: drawn lines and texts. -/
import Derived.Test.YtdimljolinmofaaDoorDrawS
import Derived.Test.YtdimljolinmofaaDoorOwn
import Derived.Test.YtdimljolinmofaaDoorStr
namespace Go.Proofs.YtdimljolinmofaaDoor
open Go.RowKit
set_option linter.unusedVariables false

theorem many_le (s n M o : Nat) (h : o + s * n ≤ M) (hn : 1 ≤ n) : s ≤ M ∧ o + (s + s) * (n / 2) + s * (n % 2) ≤ M := by
  have h1 : s ≤ s * n := Nat.le_mul_of_pos_right s hn
  have h2 : s * n = (s + s) * (n / 2) + s * (n % 2) := by
    conv => lhs; rw [← Nat.div_add_mod n 2]
    rw [Nat.mul_add, ← Nat.mul_assoc]; congr 2; omega
  omega

set_option maxHeartbeats 1000000 in
theorem l12Many (s : ByteArray) (n M : Nat) (w : World) (h : s.size * n ≤ M) (hs : s.size ≤ 8000) (hM : M ≤ 8000) (hn : (n : Int) ≤ 100000) :
    Calls Tryd.prog 48 #[.string s, .int .i64 (n : Int)] w fun e w' => (∃ r : ByteArray, e = .returned (.string r) ∧ r.size ≤ M) ∧ w = w' := by
  go_enter Tryd.func48, Tryd.ntmps48
  go_wp2_with fail
  go_loop [0, 1, 5] (fun a b o => ∃ (t r : ByteArray) (k : Nat), a = .string t ∧ b = .int .i64 (k : Int) ∧ o = .string r ∧ Hid (r.size + t.size * k ≤ M) ∧ t.size ≤ 16000 ∧ r.size ≤ M ∧ (k : Int) ≤ 100000) (fun _ b _ => (intOf b).toNat)
  case atStart => exact ⟨s, ⟨#[]⟩, n, rfl, rfl, rfl, by (show 0 + s.size * n ≤ M); omega, by omega, Nat.zero_le _, hn⟩
  case round =>
    obtain ⟨t, r, k, rfl, rfl, rfl, hp, ht, hr, hkb⟩ := hrel
    by_cases hk : k = 0
    · subst hk
      have R : ∃ r' : ByteArray, Ending.returned (.string r) = .returned (.string r') ∧ r'.size ≤ M := ⟨r, rfl, hr⟩
      have HR := Lib.hid R
      clear R
      go_wp2_with fail
      go_ret
      exact ⟨HR.out, rfl⟩
    · have hk1 : (0 : Int) < k := by omega
      have hm := many_le _ _ _ _ hp.out (by omega)
      have hm1 := hm.1
      have HM := Lib.hid hm.2
      clear hm
      by_cases ho : k % 2 = 1
      · have ho' : ((k : Int) % 2 == 1) = true := by rw [beq_iff_eq]; omega
        have HO := Lib.hid ho
        clear ho
        go_wp2_with fail
        go_round
        case rel =>
          refine ⟨t ++ t, r ++ t, k / 2, rfl, by go_num, rfl, ?_, by rw [ByteArray.size_append]; omega, ?_, by omega⟩
          · have := HM.out; rw [HO.out] at this
            show (r ++ t).size + (t ++ t).size * (k / 2) ≤ M
            rw [ByteArray.size_append, ByteArray.size_append]; omega
          · have := HM.out; rw [HO.out] at this
            rw [ByteArray.size_append]; omega
        case measure => simp [intOf]; omega
      · have ho' : ((k : Int) % 2 == 1) = false := by rw [beq_eq_false_iff_ne]; omega
        have HO : Hid (k % 2 = 0) := by unfold Hid; omega
        clear ho
        go_wp2_with fail
        go_round
        case rel =>
          refine ⟨t ++ t, r, k / 2, rfl, by go_num, rfl, ?_, by rw [ByteArray.size_append]; omega, hr, by omega⟩
          have := HM.out; rw [HO.out] at this
          show r.size + (t ++ t).size * (k / 2) ≤ M
          rw [ByteArray.size_append]; omega
        case measure => simp [intOf]; omega

/-- A line of at most m bytes that can be seen. -/
def IsLine (m : Nat) (v : Value) : Prop := ∃ l : List UInt8, v = .string ⟨l.toArray⟩ ∧ l.length ≤ m ∧ ∀ c ∈ l, 32 ≤ c.toNat ∧ c.toNat ≤ 126
def lineWords : List (List UInt8) := [[97], [115, 97, 121], [49], [32], [120, 32, 121], [40], [43], [126]]
theorem lineWords_ok : ∀ l ∈ lineWords, l.length ≤ 3 ∧ ∀ c ∈ l, 32 ≤ c.toNat ∧ c.toNat ≤ 126 := by decide

set_option maxHeartbeats 2000000 in
theorem l1Line (g p : Nat) (w : World) (h : Rd w g p) (hp : (p : Int) ≤ 1000) :
    Calls Tryd.prog 45 #[.pointer (some ⟨g, 0, none⟩)] w (Drawn g p 5 (IsLine 12) w) := by
  have hlt := h.lt
  go_enter Tryd.func45, Tryd.ntmps45
  go_wp2_with fail
  refine (pick g p 5 w h (by omega) (by omega) (by omega)).mono ?_
  rintro e w1 ⟨r, rfl, hr0, hr1, hR, hK, hs⟩
  have hr2 := hr1 (by omega)
  have HR := Lib.hid hR
  have HK := Lib.hid hK
  clear hr0 hr1 hs hR hK
  go_wp2_with fail
  go_loopw [3, 4] (fun v i wr => ∃ (l : List UInt8) (k q : Nat), v = .string ⟨l.toArray⟩ ∧ i = .int .i64 (k : Int) ∧ l.length + 3 * k ≤ 12 ∧ q + k ≤ p + 5 ∧ p ≤ q ∧ Hid (∀ c ∈ l, 32 ≤ c.toNat ∧ c.toNat ≤ 126) ∧ Rd wr g q ∧ Keep g w wr) (fun _ i _ => (intOf i).toNat)
  case atStart => exact ⟨[], r, p + 1, rfl, rfl, by simp; omega, by omega, by omega, fun c hc => by simp at hc, HR.out, HK.out⟩
  case round =>
    obtain ⟨l, k, q, rfl, rfl, hsz, hq, hpq, hch, hR, hK⟩ := hrel
    have HR := Lib.hid hR; clear hR
    have HK := Lib.hid hK; clear hK
    have hlw := HR.out.lt
    by_cases hk0 : k = 0
    · subst hk0
      have R : Drawn g p 5 (IsLine 12) w (.returned (.string ⟨l.toArray⟩)) wr := ⟨_, q, rfl, ⟨l, rfl, by omega, hch.out⟩, by omega, by omega, HR.out, HK.out⟩
      have HRes := Lib.hid R
      clear R
      go_wp2_with fail
      go_ret
      exact HRes.out
    · have hk1 : (0 : Int) < k := by omega
      go_wp2_with fail
      refine (strOf g q wr.heap.size 8 8 lineWords _ (by exact rd_alloc HR.out _) (by omega) (by exact Blk.alloc_ _ _ (strV lineWords)) (by unfold Hid; omega) rfl (by omega) (by omega)).mono ?_
      rintro e w3 ⟨v3, p', rfl, ⟨m, hm, rfl⟩, hp1, hp2, hR3, hK3⟩
      have hmw := lineWords_ok m hm
      have HR3 := Lib.hid hR3
      have HK3 := Lib.hid hK3
      have hm3 := hmw.1
      have HM := Lib.hid hmw.2
      clear hR3 hK3 hm hmw
      go_wp2_with fail
      go_roundw
      case rel =>
        refine ⟨l ++ m, k - 1, p', ?_, ?_, by rw [List.length_append]; omega, by omega, by omega, ?_, HR3.out, (keep_alloc HK.out _).trans HK3.out⟩
        · rw [← mk_app]
        · congr 1; omega
        · intro c hc; rcases List.mem_append.1 hc with hc | hc
          · exact hch.out c hc
          · exact HM.out c hc
      case measure => simp [intOf]; omega
end Go.Proofs.YtdimljolinmofaaDoor
