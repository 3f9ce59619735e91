/- Decimals: the reference's own and the shelf's. -/
import Derived.Test.YtfjmjlpobbjjdaaDoorWdA
import Derived.Test.YtfjmjlpobbjjdaaDoorSA
import Derived.Lib.ItoaNum
namespace Ilp
theorem dec_lt9 {n : Nat} (h : n < 10) : dec n = [UInt8.ofNat (48 + n)] := by rw [dec, dif_pos h]
theorem dec_ge9 {n : Nat} (h : ¬ n < 10) : dec n = dec (n / 10) ++ [UInt8.ofNat (48 + n % 10)] := by rw [dec, dif_neg h]
theorem dec_len : ∀ (d n : Nat), n < 10 ^ (d + 1) → (dec n).length ≤ d + 1 := by
  intro d
  induction d with
  | zero => intro n h; rw [dec_lt9 (by simpa using h)]; simp
  | succ d ih =>
    intro n h
    by_cases h0 : n < 10
    · rw [dec_lt9 h0]; simp
    · rw [dec_ge9 h0, List.length_append]
      have := ih (n / 10) (by rw [Nat.pow_succ] at h; omega)
      simp; omega
theorem itoa_dec (n : Nat) : Go.Lib.itoa (n : Int) = dec n := by
  have h : ∀ m : Nat, Go.Lib.decDigits m = dec m := by
    intro m
    induction m using Nat.strongRecOn with
    | ind m ih =>
      by_cases h0 : m < 10
      · rw [dec_lt9 h0, Go.Lib.decDigits, dif_pos h0]
      · rw [dec_ge9 h0, Go.Lib.decDigits, dif_neg h0, ih (m / 10) (by omega)]
  unfold Go.Lib.itoa
  rw [if_neg (by omega), Int.toNat_natCast]; exact h n
end Ilp
namespace Go.Proofs.YtfjmjlpobbjjdaaDoor
open Go.RowKit Ilp
set_option linter.unusedVariables false

set_option maxHeartbeats 2000000 in
set_option maxRecDepth 20000 in
theorem specDec (n : Nat) (hn : (n : Int) ≤ 1000000) (w : World) :
    Calls Tryd.prog 86 #[.int .i64 (n : Int)] w fun e w' => e = .returned (.string (mkB (dec n))) ∧ Below w.heap.size w w' := by
  have hn0 : (0 : Int) ≤ (n : Int) := by omega
  have HN : Hid ((dec n).length ≤ 8) := dec_len 7 n (by omega)
  go_enter Tryd.func86, Tryd.ntmps86
  go_wp2_with fail
  go_loopw [0, 3] (fun u v wr => ∃ (m : Nat) (l : List UInt8), u = .int .i64 (m : Int) ∧ v = .string ⟨l.toArray⟩ ∧ (m : Int) ≤ 1000000 ∧ l.length ≤ 8 ∧ Hid (dec n = dec m ++ l) ∧ Below w.heap.size w wr) (fun u _ _ => (intOf u).toNat)
  case atStart => exact ⟨n, [], rfl, rfl, hn, by simp, by simp [Hid], Below.refl _ _⟩
  case round =>
    obtain ⟨m, l, rfl, rfl, hm, hl, hd, hbw⟩ := hrel
    have HB := Lib.hid hbw; clear hbw
    have hl' : (l.length : Int) ≤ 10 := by omega
    by_cases h9 : m < 10
    · have hst := dec_lt9 h9
      have hbt := byteN m h9
      generalize UInt8.ofNat (48 + m) = q at hst hbt
      have hcv : ∀ W : World, (convert 22 9 (.slice (some ⟨W.heap.size, 0, none⟩) 1 1)).run Tryd.prog (W.alloc (.cells #[.int .u8 (48 + (m : Int))] 5)) = .ok (.string ⟨#[q]⟩) (W.alloc (.cells #[.int .u8 (48 + (m : Int))] 5)) := fun W => by
        refine run_convert_bytes_back _ 22 9 5 ⟨W.heap.size, 0, none⟩ 1 [q] Tryd.underlying22 Tryd.underlying5 Tryd.underlying9 ?_
        intro j hj
        obtain rfl : j = 0 := by simp at hj; omega
        simp only [Addr.add, List.getElem_cons_zero]
        rw [hbt]; simp
      have E : Hid (mkB (dec n) = (ByteArray.mk #[q]) ++ ⟨l.toArray⟩) := by
        unfold Hid; rw [hd.out, hst]; apply ByteArray.ext; simp [mkB]
      have hm9 : (m : Int) ≤ 9 := by omega
      have hm0 : (0 : Int) ≤ (m : Int) := by omega
      clear hst hbt hd h9 hn0 hn
      go_wp2_with fail
      go_ret
      exact ⟨by rw [E.out]; rfl, HB.out.alloc HB.out.size _⟩
    · have hm1 : (9 : Int) < (m : Int) := by omega
      have hst := dec_ge9 h9
      have hlen : l.length + 1 ≤ 8 := by
        have h1 := HN.out
        rw [hd.out, hst, List.length_append, List.length_append] at h1
        simp at h1; omega
      have hmod : m % 10 < 10 := Nat.mod_lt _ (by omega)
      have hbt := byteN (m % 10) hmod
      generalize UInt8.ofNat (48 + m % 10) = q at hst hbt
      have hcv : ∀ W : World, (convert 22 9 (.slice (some ⟨W.heap.size, 0, none⟩) 1 1)).run Tryd.prog (W.alloc (.cells #[.int .u8 (48 + ((m % 10 : Nat) : Int))] 5)) = .ok (.string ⟨#[q]⟩) (W.alloc (.cells #[.int .u8 (48 + ((m % 10 : Nat) : Int))] 5)) := fun W => by
        refine run_convert_bytes_back _ 22 9 5 ⟨W.heap.size, 0, none⟩ 1 [q] Tryd.underlying22 Tryd.underlying5 Tryd.underlying9 ?_
        intro j hj
        obtain rfl : j = 0 := by simp at hj; omega
        simp only [Addr.add, List.getElem_cons_zero]
        rw [hbt]; simp
      have HD : Hid (dec n = dec (m / 10) ++ ([q] ++ l)) := by unfold Hid; rw [hd.out, hst, List.append_assoc]
      have hme : ((m : Int) % 10) = ((m % 10 : Nat) : Int) := by omega
      have hmr : (0 : Int) ≤ ((m % 10 : Nat) : Int) ∧ ((m % 10 : Nat) : Int) ≤ 9 := by omega
      obtain ⟨hr0, hr1⟩ := hmr
      have hdiv : Hid ((m : Int) / 10 = ((m / 10 : Nat) : Int)) := by unfold Hid; omega
      have HLEN := Lib.hid hlen
      clear hst hbt hd hmod hlen h9
      generalize m % 10 = d at *
      go_wp2_with fail
      go_roundw
      case rel =>
        refine ⟨m / 10, [q] ++ l, by rw [hdiv.out], ?_, by omega, by have := HLEN.out; simp; omega, HD, HB.out.alloc HB.out.size _⟩
        congr 1
      case measure => simp [intOf]; omega
end Go.Proofs.YtfjmjlpobbjjdaaDoor
