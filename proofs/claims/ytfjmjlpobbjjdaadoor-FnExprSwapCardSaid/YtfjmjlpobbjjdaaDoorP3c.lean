/- Numbers as words, in plain Lean. -/
import Derived.Test.YtfjmjlpobbjjdaaDoorP3
import Derived.Lib.AtoiAll
import Derived.Lib.ItoaNum
namespace Ilp
open Go

theorem dig_iff {c : UInt8} : isDig c = true ↔ 48 ≤ c.toNat ∧ c.toNat ≤ 57 := by
  unfold isDig; rw [Bool.and_eq_true, decide_eq_true_eq, decide_eq_true_eq]
theorem decFrom_cons (n : Nat) (c : UInt8) (t : List UInt8) : decFrom n (c :: t) = decFrom (n * 10 + (c.toNat - 48)) t := by unfold decFrom; rw [List.foldl_cons]
theorem decFrom_snoc (n : Nat) (t : List UInt8) (c : UInt8) : decFrom n (t ++ [c]) = decFrom n t * 10 + (c.toNat - 48) := by simp [decFrom]
theorem decFrom_le : ∀ (t : List UInt8) (n : Nat), n ≤ decFrom n t
  | [], n => Nat.le_refl _
  | c :: t, n => by rw [decFrom_cons]; have := decFrom_le t (n * 10 + (c.toNat - 48)); omega

theorem parse_dec : ∀ (t : List UInt8) (n : Nat), t.all isDig = true → decFrom n t ≤ 1000000 → Lib.parseUint10 n t = .ok (decFrom n t)
  | [], n, _, _ => rfl
  | c :: t, n, h, hle => by
    simp only [List.all_cons, Bool.and_eq_true] at h
    have hc := dig_iff.1 h.1
    rw [decFrom_cons] at hle ⊢
    have := decFrom_le t (n * 10 + (c.toNat - 48))
    rw [Lib.parseUint10, if_pos hc, if_neg (by omega), if_neg (by omega), parse_dec t _ h.2 hle]

theorem tokNum_iff {s : List UInt8} : tokNum s = true ↔ 1 ≤ s.length ∧ s.length ≤ 17 ∧ s.all isDig = true ∧ (s.length = 1 ∨ s.head? ≠ some 48) ∧ decVal s ≤ 1000000 := by
  simp [tokNum, and_assoc]

theorem atoi_num {s : List UInt8} (h : tokNum s = true) : Lib.atoiAll s = .ok (decVal s : Int) := by
  obtain ⟨h1, h2, h3, h4, h5⟩ := tokNum_iff.1 h
  cases s with
  | nil => simp at h1
  | cons c t =>
    simp only [List.all_cons, Bool.and_eq_true] at h3
    have hc := dig_iff.1 h3.1
    have hp : Lib.parseMag (c :: t) = .ok (decVal (c :: t)) := by
      unfold Lib.parseMag
      rw [if_neg (by simp)]
      exact parse_dec (c :: t) 0 (by simp [h3.1]; simpa using h3.2) h5
    unfold Lib.atoiAll
    simp only []
    rw [if_neg (by omega), hp]
    simp only []
    rw [if_neg (by omega), if_neg (by omega), if_neg (by omega)]

theorem byte_dig (d : Nat) (h : d < 10) : (UInt8.ofNat (48 + d)).toNat = 48 + d := by simp; omega
theorem ofNat_dig {c : UInt8} (h : isDig c = true) : UInt8.ofNat (48 + (c.toNat - 48)) = c := by
  have hc := dig_iff.1 h
  apply UInt8.toNat_inj.1; simp; omega

theorem snoc_ind {P : List UInt8 → Prop} (h0 : P []) (h1 : ∀ t c, P t → P (t ++ [c])) : ∀ l, P l := by
  intro l
  have : ∀ n, ∀ l : List UInt8, l.length = n → P l := by
    intro n
    induction n with
    | zero => intro l hl; rw [List.length_eq_zero_iff.1 hl]; exact h0
    | succ n ih =>
      intro l hl
      have hne : l ≠ [] := by intro e; subst e; simp at hl
      rw [← List.dropLast_concat_getLast hne]
      exact h1 _ _ (ih _ (by simp [hl]))
  exact this _ l rfl

theorem decVal_pos : ∀ (s : List UInt8), s ≠ [] → s.all isDig = true → s.head? ≠ some 48 → 1 ≤ decVal s := by
  intro s hn ha hh
  cases s with
  | nil => exact absurd rfl hn
  | cons c t =>
    simp only [List.all_cons, Bool.and_eq_true] at ha
    have hc := dig_iff.1 ha.1
    have : c.toNat ≠ 48 := fun e => hh (by simp; exact UInt8.toNat_inj.1 (by simpa using e))
    have := decFrom_le t (0 * 10 + (c.toNat - 48))
    unfold decVal; rw [decFrom_cons]; omega

theorem digits_back : ∀ (s : List UInt8), s ≠ [] → s.all isDig = true → (s.length = 1 ∨ s.head? ≠ some 48) → Lib.decDigits (decVal s) = s := by
  intro s
  refine snoc_ind (P := fun s => s ≠ [] → s.all isDig = true → (s.length = 1 ∨ s.head? ≠ some 48) → Lib.decDigits (decVal s) = s) ?_ ?_ s
  · intro h; exact absurd rfl h
  · intro t c ih _ ha hh
    rw [List.all_append] at ha
    simp only [Bool.and_eq_true, List.all_cons, List.all_nil, Bool.and_true] at ha
    have hc := dig_iff.1 ha.2
    unfold decVal at ih ⊢
    rw [decFrom_snoc]
    by_cases ht : t = []
    · subst ht
      rw [Lib.decDigits, dif_pos (by simp [decFrom]; omega)]
      have := ofNat_dig ha.2
      simpa [decFrom] using this
    · have hh' : t.head? ≠ some 48 := by
        rcases hh with hh | hh
        · simp at hh; exact absurd hh ht
        · cases t with
          | nil => exact absurd rfl ht
          | cons d t => simpa using hh
      have hp := decVal_pos t ht ha.1 hh'
      unfold decVal at hp
      rw [Lib.decDigits, dif_neg (by omega), show (decFrom 0 t * 10 + (c.toNat - 48)) / 10 = decFrom 0 t by omega, show (decFrom 0 t * 10 + (c.toNat - 48)) % 10 = c.toNat - 48 by omega, ih ht ha.1 (.inr hh'), ofNat_dig ha.2]

theorem itoa_num {s : List UInt8} (h : tokNum s = true) : Lib.itoa (decVal s : Int) = s := by
  obtain ⟨h1, h2, h3, h4, h5⟩ := tokNum_iff.1 h
  unfold Lib.itoa
  rw [if_neg (by omega), Int.toNat_natCast]
  exact digits_back s (by intro e; subst e; simp at h1) h3 h4

theorem dec_facts : ∀ (u : Nat), Lib.decDigits u ≠ [] ∧ (Lib.decDigits u).all isDig = true ∧ decVal (Lib.decDigits u) = u ∧ ((Lib.decDigits u).length = 1 ∨ (Lib.decDigits u).head? ≠ some 48) ∧ (1 ≤ u → (Lib.decDigits u).head? ≠ some 48) ∧ ∀ d, u < 10 ^ (d + 1) → (Lib.decDigits u).length ≤ d + 1 := by
  intro u
  induction u using Nat.strongRecOn with
  | _ u ih =>
    by_cases h : u < 10
    · rw [Lib.decDigits, dif_pos h]
      have hb := byte_dig u h
      refine ⟨by simp, ?_, ?_, .inl rfl, ?_, ?_⟩
      · simp only [List.all_cons, List.all_nil, Bool.and_true]; rw [dig_iff, hb]; omega
      · unfold decVal; rw [decFrom_cons, hb]; simp [decFrom]
      · intro h1 e
        simp only [List.head?_cons, Option.some.injEq] at e
        have : (UInt8.ofNat (48 + u)).toNat = 48 := by rw [e]; rfl
        omega
      · intro d _; simp
    · obtain ⟨i1, i2, i3, i4, i5, i6⟩ := ih (u / 10) (by omega)
      rw [Lib.decDigits, dif_neg h]
      have hb := byte_dig (u % 10) (by omega)
      have hd : (Lib.decDigits (u / 10) ++ [UInt8.ofNat (48 + u % 10)]).head? ≠ some 48 := by
        have := i5 (by omega)
        cases e : Lib.decDigits (u / 10) with
        | nil => exact absurd e i1
        | cons c t => rw [e] at this; simpa using this
      refine ⟨by simp, ?_, ?_, .inr hd, fun _ => hd, ?_⟩
      · rw [List.all_append, i2]
        simp only [List.all_cons, List.all_nil, Bool.and_true, Bool.true_and]; rw [dig_iff, hb]; omega
      · unfold decVal at i3 ⊢; rw [decFrom_snoc, i3, hb]; omega
      · intro d hd2
        cases d with
        | zero => simp at hd2; omega
        | succ d =>
          have := i6 d (by rw [Nat.pow_succ] at hd2; omega)
          simp; omega

theorem num_dec {u : Nat} (h : u ≤ 1000000) : tokNum (Lib.decDigits u) = true ∧ decVal (Lib.decDigits u) = u := by
  obtain ⟨i1, i2, i3, i4, i5, i6⟩ := dec_facts u
  refine ⟨tokNum_iff.2 ⟨?_, ?_, i2, i4, by omega⟩, i3⟩
  · cases e : Lib.decDigits u with
    | nil => exact absurd e i1
    | cons c t => simp
  · have := i6 6 (by omega); omega

/-- When strconv reads a number back. -/
theorem num_iff {s : List UInt8} {n : Int} (h : Lib.atoiAll s = .ok n) : (decide (0 ≤ n) && decide (n ≤ 1000000) && decide (Lib.itoa n = s)) = tokNum s := by
  rw [Bool.eq_iff_iff]
  simp only [Bool.and_eq_true, decide_eq_true_eq]
  constructor
  · rintro ⟨⟨h0, h1⟩, h2⟩
    obtain ⟨u, rfl⟩ := Int.eq_ofNat_of_zero_le h0
    unfold Lib.itoa at h2
    rw [if_neg (by omega), Int.toNat_natCast] at h2
    rw [← h2]; exact (num_dec (by omega)).1
  · intro ht
    rw [atoi_num ht] at h
    simp only [Lib.NumEnd.ok.injEq] at h
    subst h
    have := (tokNum_iff.1 ht).2.2.2.2
    exact ⟨⟨by omega, by omega⟩, itoa_num ht⟩
theorem num_bad {s : List UInt8} (h : ∀ n, Lib.atoiAll s ≠ .ok n) : tokNum s = false := by
  cases e : tokNum s
  · rfl
  · exact absurd (atoi_num e) (h _)
end Ilp
