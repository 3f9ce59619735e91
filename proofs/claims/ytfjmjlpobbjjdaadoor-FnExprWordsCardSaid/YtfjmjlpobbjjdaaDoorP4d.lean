/- What is reckoned, in plain Lean: its words are words. -/
import Derived.Test.YtfjmjlpobbjjdaaDoorPA
namespace Ilp
theorem tw_all {p : UInt8 → Bool} : ∀ {l : List UInt8}, l.all p = true → l.takeWhile p = l
  | [], _ => rfl
  | c :: t, h => by
    rw [List.all_cons, Bool.and_eq_true] at h
    rw [List.takeWhile_cons, if_pos h.1, tw_all h.2]
theorem Word.of_word {w : List UInt8} (h : tokWord w = true) : Word w := by
  have hk : tokKind w = 1 := by unfold tokKind; rw [if_pos h]
  simp only [tokWord, Bool.and_eq_true, decide_eq_true_eq] at h
  cases w with
  | nil => simp at h
  | cons c t =>
    have ha := h.2
    rw [List.all_cons, Bool.and_eq_true] at ha
    refine ⟨by simp, ?_, ?_, by omega⟩
    · simp only [List.head?_cons, ne_eq, Option.some.injEq]; rintro rfl; exact absurd ha.1 (by decide)
    · rw [wlen_cons, if_pos ha.1, tw_all ha.2]; simp; omega
theorem Word.of_num {w : List UInt8} (h : tokNum w = true) : Word w := by
  have hk : tokKind w ≠ 0 := by
    unfold tokKind
    by_cases h1 : tokWord w = true
    · rw [if_pos h1]; decide
    · rw [if_neg h1, if_pos h]; decide
  have h2 := tokNum_iff.1 h
  cases w with
  | nil => simp at h2
  | cons c t =>
    have ha := h2.2.2.1
    rw [List.all_cons, Bool.and_eq_true] at ha
    refine ⟨by simp, ?_, ?_, hk⟩
    · simp only [List.head?_cons, ne_eq, Option.some.injEq]; rintro rfl; exact absurd ha.1 (by decide)
    · rw [wlen_cons, if_neg (by rw [dig_not_let ha.1]; decide), if_pos ha.1, tw_all ha.2]; simp; omega
theorem Word.of_mark {c : UInt8} (h : isMark c = true) : Word [c] := by
  obtain ⟨h1, h2⟩ := mark_not h
  refine ⟨by simp, ?_, ?_, ?_⟩
  · simp only [List.head?_cons, ne_eq, Option.some.injEq]; rintro rfl; exact absurd h (by decide)
  · rw [wlen_cons, if_neg (by rw [h1]; decide), if_neg (by rw [h2]; decide)]; rfl
  · have h3 : tokMark [c] = true := h
    unfold tokKind
    by_cases h1 : tokWord [c] = true
    · rw [if_pos h1]; decide
    · by_cases h2 : tokNum [c] = true
      · rw [if_neg h1, if_pos h2]; decide
      · rw [if_neg h1, if_neg h2, if_pos h3]; decide
theorem decDigits_dec : ∀ m : Nat, Go.Lib.decDigits m = dec m := by
  intro m
  induction m using Nat.strongRecOn with
  | ind m ih =>
    by_cases h0 : m < 10
    · rw [dec, dif_pos h0, Go.Lib.decDigits, dif_pos h0]
    · rw [dec, dif_neg h0, Go.Lib.decDigits, dif_neg h0, ih (m / 10) (by omega)]
theorem num_of_dec {u : Nat} (h : u ≤ 1000000) : tokNum (dec u) = true := by rw [← decDigits_dec]; exact (num_dec h).1
theorem dec_short {u : Nat} (h : u ≤ 1000000) : (dec u).length ≤ 7 := by rw [← decDigits_dec]; exact (dec_facts u).2.2.2.2.2 6 (by omega)
theorem name_short {s : List UInt8} (h : isName s = true) : tokWord s = true ∧ s.length ≤ 8 := by
  simp only [isName, Bool.and_eq_true] at h
  refine ⟨h.1, ?_⟩
  have := h.1
  simp only [tokWord, Bool.and_eq_true, decide_eq_true_eq] at this
  omega
theorem words_word : ∀ (a : Tm) (k : Nat), a.valid = true → ∀ w ∈ a.words k, Word w ∧ w.length ≤ 8 := by
  have b1 : Word [40] := Word.of_mark (by decide)
  have b2 : Word [41] := Word.of_mark (by decide)
  intro a
  induction a with
  | num n => intro k v w hw; simp only [Tm.words, List.mem_singleton] at hw; subst hw; simp only [Tm.valid, decide_eq_true_eq] at v; exact ⟨Word.of_num (num_of_dec v), by have := dec_short v; omega⟩
  | name s => intro k v w hw; simp only [Tm.words, List.mem_singleton] at hw; subst hw; exact ⟨Word.of_word (name_short v).1, (name_short v).2⟩
  | two o x y ihx ihy =>
    intro k v w hw
    simp only [Tm.valid, Bool.and_eq_true] at v
    have h : ∀ w ∈ x.words (max 2 (lev o)) ++ opText o :: y.words (lev o + 1), Word w ∧ w.length ≤ 8 := by
      intro w hw
      rw [List.mem_append, List.mem_cons] at hw
      rcases hw with hw | rfl | hw
      · exact ihx _ v.1 w hw
      · cases o <;> exact ⟨Word.of_mark (by decide), by decide⟩
      · exact ihy _ v.2 w hw
    simp only [Tm.words, brk] at hw
    split at hw
    · rw [List.cons_append, List.mem_cons, List.mem_append, List.mem_singleton] at hw
      rcases hw with rfl | hw | rfl
      · exact ⟨b1, by decide⟩
      · exact h w hw
      · exact ⟨b2, by decide⟩
    · exact h w hw
  | cast t x ihx =>
    intro k v w hw
    simp only [Tm.words, List.mem_append, List.mem_cons, List.not_mem_nil, or_false] at hw
    rcases hw with hw | rfl | rfl
    · exact ihx _ v w hw
    · exact ⟨Word.of_word (by decide), by decide⟩
    · cases t <;> exact ⟨Word.of_word (by decide), by decide⟩
theorem words_len : ∀ (a : Tm) (k : Nat), (a.words k).length + 3 ≤ 5 * a.size := by
  intro a
  induction a with
  | num n => intro k; simp [Tm.words, Tm.size]
  | name s => intro k; simp [Tm.words, Tm.size]
  | two o x y ihx ihy =>
    intro k
    have h1 := ihx (max 2 (lev o))
    have h2 := ihy (lev o + 1)
    simp only [Tm.words, brk, Tm.size]
    split <;> simp only [List.length_append, List.length_cons, List.length_nil] <;> omega
  | cast t x ihx =>
    intro k
    have h1 := ihx 4
    simp only [Tm.words, Tm.size, List.length_append, List.length_cons, List.length_nil]; omega
theorem place_s : ∀ (ws : List (List UInt8)) (a : Nat), (place a ws).map (·.s) = ws
  | [], _ => rfl
  | w :: r, a => by simp only [place, List.map_cons, place_s r]
theorem text_inj {a b : List (List UInt8)} (ha : ∀ w ∈ a, Word w) (hb : ∀ w ∈ b, Word w) (h : tokText a = tokText b) : a = b := by
  have h1 := words_text a ha
  have h2 := words_text b hb
  rw [h, h2] at h1
  injection h1 with h1
  rw [← place_s a 0, ← h1, place_s]
end Ilp
