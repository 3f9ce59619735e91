/- Walks of the reference: what is a word, and of which kind. -/
import Derived.Test.YtfjmjlpobbjjdaaDoorFind
import Derived.Test.YtfjmjlpobbjjdaaDoorP3c
import Derived.Handy
namespace Go.Proofs.YtfjmjlpobbjjdaaDoor
open Go.RowKit Ilp
set_option linter.unusedVariables false

theorem all_at {p : UInt8 → Bool} {s : ByteArray} {k : Nat} (h : k < s.size) : (s.data.toList.drop k).all p = (p s[k] && (s.data.toList.drop (k + 1)).all p) := by
  rw [List.drop_eq_getElem_cons (by simpa using h), List.all_cons]; rfl
theorem byte_rng (c : UInt8) : (0 : Int) ≤ (c.toNat : Int) ∧ (c.toNat : Int) ≤ 255 := by have := c.toNat_lt; omega
theorem let_iff (c : UInt8) : isLet c = true ↔ (97 : Int) ≤ (c.toNat : Int) ∧ (c.toNat : Int) ≤ 122 := by
  unfold isLet; rw [Bool.and_eq_true, decide_eq_true_eq, decide_eq_true_eq]; omega
theorem dig_iff' (c : UInt8) : isDig c = true ↔ (48 : Int) ≤ (c.toNat : Int) ∧ (c.toNat : Int) ≤ 57 := by
  unfold isDig; rw [Bool.and_eq_true, decide_eq_true_eq, decide_eq_true_eq]; omega
theorem tokWord_bad {l : List UInt8} (h : l.all isLet = false) : tokWord l = false := by unfold tokWord; rw [h]; simp
theorem tokWord_good {l : List UInt8} (h : l.all isLet = true) : tokWord l = (decide (1 ≤ l.length) && decide (l.length ≤ 8)) := by unfold tokWord; rw [h]; simp

set_option maxHeartbeats 2000000 in
set_option maxRecDepth 20000 in
theorem specWord (s : ByteArray) (w : World) (hs : (s.size : Int) ≤ 4611686018427387904) :
    Calls Tryd.prog 109 #[.string s] w fun e w' => e = .returned (.bool (tokWord s.data.toList)) ∧ w = w' := by
  go_enter Tryd.func109, Tryd.ntmps109
  go_wp2_with fail
  go_loop [3] (fun v => ∃ k : Nat, v = .int .i64 (k : Int) ∧ k ≤ s.size ∧ Hid (s.data.toList.all isLet = (s.data.toList.drop k).all isLet)) (fun v => s.size - (intOf v).toNat)
  case atStart => exact ⟨0, rfl, Nat.zero_le _, rfl⟩
  case round =>
    obtain ⟨k, rfl, hk, hall⟩ := hrel
    by_cases hlt : k < s.size
    · have hst := all_at (p := isLet) hlt
      obtain ⟨r0, r1⟩ := byte_rng s[k]
      have hli := let_iff s[k]
      by_cases h97 : (s[k].toNat : Int) < 97
      · have H := Lib.hid (tokWord_bad (by rw [hall.out, hst, show isLet s[k] = false from Bool.eq_false_iff.2 (fun e => by have := hli.1 e; omega)]; rfl))
        clear hst hli
        go_wp2_with fail
        go_ret
        exact ⟨by rw [H.out]; rfl, rfl⟩
      · by_cases h122 : (122 : Int) < (s[k].toNat : Int)
        · have H := Lib.hid (tokWord_bad (by rw [hall.out, hst, show isLet s[k] = false from Bool.eq_false_iff.2 (fun e => by have := hli.1 e; omega)]; rfl))
          clear hst hli
          go_wp2_with fail
          go_ret
          exact ⟨by rw [H.out]; rfl, rfl⟩
        · have hall2 : Hid (s.data.toList.all isLet = (s.data.toList.drop (k + 1)).all isLet) := by unfold Hid; rw [hall.out, hst, hli.2 (by omega)]; rfl
          clear hst hli
          go_wp2_with fail
          go_round
          case rel => exact ⟨k + 1, by go_num, by omega, hall2⟩
          case measure => simp [intOf]; omega
    · obtain rfl : k = s.size := by omega
      have hg : s.data.toList.all isLet = true := by rw [hall.out, List.drop_eq_nil_of_le (by simp)]; rfl
      have hl : s.data.toList.length = s.size := by simp
      have HG := Lib.hid (tokWord_good hg)
      clear hg
      by_cases h1 : (1 : Int) ≤ (s.size : Int)
      · by_cases h8 : (s.size : Int) ≤ 8
        · have H : Hid (tokWord s.data.toList = true) := by unfold Hid; rw [HG.out, hl, decide_eq_true (by omega), decide_eq_true (by omega)]; rfl
          clear hl
          go_wp2_with fail
          go_ret
          exact ⟨by rw [H.out]; rfl, rfl⟩
        · have H : Hid (tokWord s.data.toList = false) := by unfold Hid; rw [HG.out, hl, decide_eq_false (by omega : ¬ s.size ≤ 8)]; simp
          clear hl
          go_wp2_with fail
          go_ret
          exact ⟨by rw [H.out]; rfl, rfl⟩
      · have H : Hid (tokWord s.data.toList = false) := by unfold Hid; rw [HG.out, hl, decide_eq_false (by omega : ¬ 1 ≤ s.size)]; simp
        clear hl
        go_wp2_with fail
        go_ret
        exact ⟨by rw [H.out]; rfl, rfl⟩

/-- What l12Num hands back: enough to tell which texts are numbers. -/
def NumR (l : List UInt8) (w : World) (e : Ending) (w' : World) : Prop := ∃ (n : Int) (ok : Bool), e = .returned (.tuple #[.int .i64 n, .bool ok]) ∧ (ok && decide (0 ≤ n) && decide (n ≤ 1000000)) = tokNum l ∧ (tokNum l = true → n = decVal l) ∧ -1000000000000000000 ≤ n ∧ n ≤ 1000000000000000000 ∧ w = w'
theorem tokNum_bad {l : List UInt8} (h : l.all isDig = false) : tokNum l = false := by unfold tokNum; rw [h]; simp
theorem numR_no {l : List UInt8} {w : World} (h : tokNum l = false) : NumR l w (.returned (.tuple #[.int .i64 0, .bool false])) w := ⟨0, false, rfl, by rw [h]; rfl, (fun e => by rw [h] at e; cases e), by omega, by omega, rfl⟩
theorem decFrom_lt : ∀ (t : List UInt8) (n : Nat), t.all isDig = true → decFrom n t + 1 ≤ (n + 1) * 10 ^ t.length
  | [], n, _ => by simp [decFrom]
  | c :: t, n, h => by
    simp only [List.all_cons, Bool.and_eq_true] at h
    have hc := dig_iff.1 h.1
    have := decFrom_lt t (n * 10 + (c.toNat - 48)) h.2
    rw [decFrom_cons, List.length_cons, Nat.pow_succ]
    have h2 : (n * 10 + (c.toNat - 48) + 1) * 10 ^ t.length ≤ (n * 10 + 10) * 10 ^ t.length := Nat.mul_le_mul_right _ (by omega)
    have h3 : (n * 10 + 10) * 10 ^ t.length = (n + 1) * (10 ^ t.length * 10) := by
      rw [show n * 10 + 10 = (n + 1) * 10 by omega, Nat.mul_assoc, Nat.mul_comm 10]
    omega
theorem dec_small {l : List UInt8} (h : l.all isDig = true) (hl : l.length ≤ 17) : decFrom 0 l < 100000000000000000 := by
  have h1 := decFrom_lt l 0 h
  have h2 : 10 ^ l.length ≤ 10 ^ 17 := Nat.pow_le_pow_right (by omega) hl
  have h3 : (10 : Nat) ^ 17 = 100000000000000000 := by decide
  omega
theorem dec_step {s : ByteArray} {k : Nat} (h : k < s.size) : decFrom 0 (s.data.toList.take (k + 1)) = decFrom 0 (s.data.toList.take k) * 10 + (s[k].toNat - 48) := by
  rw [List.take_succ_eq_append_getElem (by simpa using h), decFrom_snoc]; rfl
theorem all_take {p : UInt8 → Bool} {s : ByteArray} {k : Nat} (h : k < s.size) : (s.data.toList.take (k + 1)).all p = ((s.data.toList.take k).all p && p s[k]) := by
  rw [List.take_succ_eq_append_getElem (by simpa using h), List.all_append]; simp; rfl
theorem all_bad {p : UInt8 → Bool} {s : ByteArray} {k : Nat} (h : k < s.size) (hp : p s[k] = false) : s.data.toList.all p = false := by
  rw [← List.take_append_drop k s.data.toList, List.all_append, all_at h, hp]; simp
theorem numR_yes {s : ByteArray} {w : World} (h1 : 1 ≤ s.size) (h2 : s.size ≤ 17) (h3 : s.data.toList.all isDig = true) (h4 : s.size = 1 ∨ s.data.toList.head? ≠ some 48) :
    NumR s.data.toList w (.returned (.tuple #[.int .i64 (decFrom 0 s.data.toList : Int), .bool true])) w := by
  have hl : s.data.toList.length = s.size := by simp
  have hs := dec_small h3 (by omega)
  refine ⟨_, true, rfl, ?_, fun _ => rfl, by omega, by omega, rfl⟩
  rw [Bool.eq_iff_iff, tokNum_iff]
  simp only [Bool.true_and, Bool.and_eq_true, decide_eq_true_eq]
  unfold decVal
  constructor
  · intro h; exact ⟨by omega, by omega, h3, h4.imp (fun h => by omega) id, by omega⟩
  · intro h; exact ⟨by omega, by have := h.2.2.2.2; omega⟩
theorem numR_neg {s t : ByteArray} {w : World} (hb : tokNum s.data.toList = false) (h2 : t.size ≤ 17) (h1 : 1 ≤ t.size) (h3 : t.data.toList.all isDig = true) (h4 : t.data.toList.head? ≠ some 48) :
    NumR s.data.toList w (.returned (.tuple #[.int .i64 (-(decFrom 0 t.data.toList : Int)), .bool true])) w := by
  have hl : t.data.toList.length = t.size := by simp
  have hs := dec_small h3 (by omega)
  have hp := decVal_pos t.data.toList (by intro e; rw [e] at hl; simp at hl; omega) h3 h4
  unfold decVal at hp
  refine ⟨_, true, rfl, ?_, (fun e => by rw [hb] at e; cases e), by omega, by omega, rfl⟩
  rw [hb, decide_eq_false (by omega)]; rfl
theorem head_at {s : ByteArray} (h : 0 < s.size) : s.data.toList.head? = some s[0] := by
  rw [List.head?_eq_getElem?]; simp only [Array.getElem?_toList]; exact Array.getElem?_eq_getElem h
theorem minus_bad {s : ByteArray} (h : 0 < s.size) (hc : s[0] = 45) : tokNum s.data.toList = false := tokNum_bad (all_bad h (by rw [hc]; decide))

end Go.Proofs.YtfjmjlpobbjjdaaDoor
