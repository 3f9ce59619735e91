/- Walks: the marks that a law lays into lists of texts. -/
import Derived.Test.YtlhmebdljamgkaaDoorMn
import Derived.Test.YtlhmebdljamgkaaDoorSS
import Derived.Lib.QuietBelow
import Derived.Laws.IdiomStrings
import Derived.Handy
namespace Go.Proofs.YtlhmebdljamgkaaDoor
open Go.RowKit
set_option linter.unusedVariables false

/-- The digits of a number, none of 0. -/
def digs (n : Nat) : List UInt8 := if h : n = 0 then [] else digs (n / 10) ++ [UInt8.ofNat (48 + n % 10)]
termination_by n
decreasing_by omega
theorem digs_zero : digs 0 = [] := by rw [digs]; simp
theorem digs_pos {n : Nat} (h : n ≠ 0) : digs n = digs (n / 10) ++ [UInt8.ofNat (48 + n % 10)] := by rw [digs]; simp [h]
/-- The mark of a number above 0. -/
def markT (n : Nat) : ByteArray := ⟨(109 :: digs n).toArray⟩
theorem digs_len : ∀ (d n : Nat), n < 10 ^ d → (digs n).length ≤ d := by
  intro d
  induction d with
  | zero => intro n h; obtain rfl : n = 0 := by omega
            rw [digs_zero]; simp
  | succ d ih =>
    intro n h
    by_cases h0 : n = 0
    · subst h0; rw [digs_zero]; simp
    · rw [digs_pos h0, List.length_append]
      have := ih (n / 10) (by rw [Nat.pow_succ] at h; omega)
      simp; omega
theorem digs_le {n : Nat} (h : (n : Int) ≤ 1000000000) : (digs n).length ≤ 10 := digs_len 10 n (by omega)
theorem byteN (d : Nat) (h : d < 10) : ((UInt8.ofNat (48 + d)).toNat : Int) = 48 + (d : Int) := by
  rw [UInt8.toNat_ofNat']; omega

set_option maxHeartbeats 2000000 in
theorem markText (n : Nat) (w : World) (hn0 : 0 < n) (hn : (n : Int) ≤ 1000000000) :
    Calls Tryd.prog 47 #[.int .i64 (n : Int)] w fun e w' => e = .returned (.string (markT n)) ∧ Below w.heap.size w w' := by
  have h0 : ¬ ((n : Int) ≤ 0) := by omega
  have HN := Lib.hid (digs_le hn)
  go_enter Tryd.func47, Tryd.ntmps47
  go_wp2_with fail
  go_loopw [0, 3] (fun v o wr => ∃ (m : Nat) (l : List UInt8), v = .int .i64 (m : Int) ∧ o = .string ⟨l.toArray⟩ ∧ (m : Int) ≤ 1000000000 ∧ l.length ≤ 10 ∧ Hid (digs n = digs m ++ l) ∧ Below w.heap.size w wr) (fun v _ _ => (intOf v).toNat)
  case atStart => exact ⟨n, [], rfl, rfl, hn, by simp, by simp [Hid], Below.refl _ _⟩
  case round =>
    obtain ⟨m, l, rfl, rfl, hm, hl, hd, hbw⟩ := hrel
    have HB := Lib.hid hbw; clear hbw
    by_cases hm0 : m = 0
    · subst hm0
      have e : Hid (markT n = ⟨(109 :: l).toArray⟩) := by
        have := hd.out; rw [digs_zero, List.nil_append] at this
        unfold Hid markT; rw [this]
      have hl' : (l.length : Int) ≤ 10 := by omega
      have e2 : Hid ((ByteArray.mk #[109]) ++ ⟨l.toArray⟩ = ⟨(109 :: l).toArray⟩) := by unfold Hid; apply ByteArray.ext; simp
      go_wp2_with fail
      go_ret
      exact ⟨by rw [e.out, ← e2.out]; rfl, HB.out⟩
    · have hm1 : (0 : Int) < (m : Int) := by omega
      have hst := digs_pos hm0
      have hlen : l.length + 1 ≤ 10 := by
        have h1 := HN.out
        rw [hd.out, hst, List.length_append, List.length_append] at h1
        simp at h1; omega
      have hmod : m % 10 < 10 := Nat.mod_lt _ (by omega)
      have hbt := byteN (m % 10) hmod
      have hcv : ∀ W : World, (convert 25 9 (.slice (some ⟨W.heap.size, 0, none⟩) 1 1)).run Tryd.prog (W.alloc (.cells #[.int .u8 (48 + ((m % 10 : Nat) : Int))] 5)) = .ok (.string ⟨#[UInt8.ofNat (48 + m % 10)]⟩) (W.alloc (.cells #[.int .u8 (48 + ((m % 10 : Nat) : Int))] 5)) := fun W => by
        refine run_convert_bytes_back _ 25 9 5 ⟨W.heap.size, 0, none⟩ 1 [UInt8.ofNat (48 + m % 10)] Tryd.underlying25 Tryd.underlying5 Tryd.underlying9 ?_
        intro j hj
        obtain rfl : j = 0 := by simp at hj; omega
        simp only [Addr.add, List.getElem_cons_zero]
        rw [hbt]; simp
      have HD : Hid (digs n = digs (m / 10) ++ ([UInt8.ofNat (48 + m % 10)] ++ l)) := by unfold Hid; rw [hd.out, hst, List.append_assoc]
      have hme : ((m : Int) % 10) = ((m % 10 : Nat) : Int) := by omega
      have hmr : (0 : Int) ≤ ((m % 10 : Nat) : Int) ∧ ((m % 10 : Nat) : Int) ≤ 9 := by omega
      obtain ⟨hr0, hr1⟩ := hmr
      have hl' : (l.length : Int) ≤ 10 := by omega
      have hdiv : Hid ((m : Int) / 10 = ((m / 10 : Nat) : Int)) := by unfold Hid; omega
      have HLEN := Lib.hid hlen
      clear hst hbt hd hmod hlen
      generalize m % 10 = d at *
      go_wp2_with fail
      go_roundw
      case rel =>
        refine ⟨m / 10, [UInt8.ofNat (48 + d)] ++ l, by rw [hdiv.out], ?_, by omega, by have := HLEN.out; simp; omega, HD, HB.out.alloc HB.out.size _⟩
        congr 1; apply ByteArray.ext; simp
      case measure => simp [intOf]; omega

def marksFrom (k : Nat) : Nat → List ByteArray
  | 0 => []
  | n + 1 => markT k :: marksFrom (k + 1) n
theorem marksFrom_length (k n : Nat) : (marksFrom k n).length = n := by
  induction n generalizing k with
  | zero => rfl
  | succ n ih => simp [marksFrom, ih]
theorem marksFrom_get (k n i : Nat) (h : i < n) : (marksFrom k n)[i]'(by rw [marksFrom_length]; exact h) = markT (k + i) := by
  induction n generalizing k i with
  | zero => omega
  | succ n ih =>
    cases i with
    | zero => simp [marksFrom]
    | succ i => simp only [marksFrom, List.getElem_cons_succ]; rw [ih (k + 1) i (by omega)]; congr 1; omega
theorem marksFrom_snoc (k n : Nat) : marksFrom k (n + 1) = marksFrom k n ++ [markT (k + n)] := by
  induction n generalizing k with
  | zero => simp [marksFrom]
  | succ n ih => rw [marksFrom, ih, marksFrom]; simp; congr 1; omega
def markedS (xs : List ByteArray) (k i : Nat) : List Value := strB (marksFrom k i ++ xs.drop i)
theorem markedS_zero (xs : List ByteArray) (k : Nat) : markedS xs k 0 = strB xs := by simp [markedS, marksFrom]
theorem markedS_all (xs : List ByteArray) (k : Nat) : markedS xs k xs.length = strB (marksFrom k xs.length) := by simp [markedS]
theorem markedS_len (xs : List ByteArray) (k i : Nat) (h : i ≤ xs.length) : (markedS xs k i).length = xs.length := by simp [markedS, strB, marksFrom_length]; omega
theorem markedS_set (xs : List ByteArray) (k i : Nat) (h : i < xs.length) : (markedS xs k i).set i (.string (markT (k + i))) = markedS xs k (i + 1) := by
  unfold markedS strB
  rw [← List.map_set, List.set_append_right _ _ (by rw [marksFrom_length]; exact Nat.le_refl _), marksFrom_length, Nat.sub_self, marksFrom_snoc, List.drop_eq_getElem_cons h, List.set_cons_zero, List.append_assoc]
  rfl
theorem Mine.keep {w w' : World} {B : Nat} {T : TypeId} {A : Option Addr} {vs : List Value} (h : Mine w B T A vs) (hb : Below w.heap.size w w') : Mine w' B T A vs := h.below hb


end Go.Proofs.YtlhmebdljamgkaaDoor
