/- PA: the texts P1 P3 P3c P4 P4b P4c in one. -/
import Derived.Lib.AtoiAll
import Derived.Lib.ItoaNum

namespace Ilp

def okFrom : Nat → List UInt8 → Bool
  | _, [] => true
  | w, c :: t => if c = 10 then okFrom 0 t else decide (32 ≤ c.toNat) && decide (c.toNat ≤ 126) && decide (w + 1 ≤ 120) && okFrom (w + 1) t
def textOk (s : List UInt8) : Bool := decide (s.length ≤ 4000) && okFrom 0 s

def cut : List UInt8 → List (List UInt8)
  | [] => [[]]
  | c :: t => if c = 10 then [] :: cut t else match cut t with
    | [] => [[c]]
    | h :: r => (c :: h) :: r

def join : List (List UInt8) → List UInt8
  | [] => []
  | [a] => a
  | a :: b :: r => a ++ 10 :: join (b :: r)

def lines (s : List UInt8) : List (List UInt8) := if textOk s = true then cut s else []

/-- The place behind a text. -/
def pos : List UInt8 → Nat × Nat
  | [] => (0, 0)
  | c :: t => if c = 10 then ((pos t).1 + 1, (pos t).2) else if (pos t).1 = 0 then (0, (pos t).2 + 1) else pos t

def offOf : List (List UInt8) → Nat → Nat → Option Nat
  | [], _, _ => none
  | h :: _, 0, C => if C ≤ h.length then some C else none
  | h :: r, L + 1, C => match offOf r L C with
    | none => none
    | some k => some (h.length + 1 + k)

theorem cut_ne (s : List UInt8) : cut s ≠ [] := by
  cases s with
  | nil => simp [cut]
  | cons c t =>
    unfold cut; split
    · simp
    · split <;> simp

theorem cut_cons (s : List UInt8) : ∃ h r, cut s = h :: r := by
  cases e : cut s with
  | nil => exact absurd e (cut_ne s)
  | cons h r => exact ⟨h, r, rfl⟩

theorem cut_nl (t : List UInt8) : cut (10 :: t) = [] :: cut t := by rw [cut, if_pos rfl]
theorem cut_other {c : UInt8} (h : c ≠ 10) (t : List UInt8) {a : List UInt8} {r : List (List UInt8)} (e : cut t = a :: r) : cut (c :: t) = (c :: a) :: r := by rw [cut, if_neg h, e]

theorem pos_nl (t : List UInt8) : pos (10 :: t) = ((pos t).1 + 1, (pos t).2) := by rw [pos, if_pos rfl]
theorem pos_zero {c : UInt8} (h : c ≠ 10) (t : List UInt8) (e : (pos t).1 = 0) : pos (c :: t) = (0, (pos t).2 + 1) := by rw [pos, if_neg h, if_pos e]
theorem pos_more {c : UInt8} (h : c ≠ 10) (t : List UInt8) (e : (pos t).1 ≠ 0) : pos (c :: t) = pos t := by rw [pos, if_neg h, if_neg e]

theorem pos_snoc (l : List UInt8) (c : UInt8) : pos (l ++ [c]) = if c = 10 then ((pos l).1 + 1, 0) else ((pos l).1, (pos l).2 + 1) := by
  induction l with
  | nil =>
    by_cases h : c = 10
    · subst h; simp [pos]
    · simp [pos, h]
  | cons d t ih =>
    simp only [List.cons_append]
    by_cases hd : d = 10
    · subst hd; rw [pos_nl, pos_nl, ih]; split <;> rfl
    · by_cases h : c = 10
      · rw [if_pos h] at ih ⊢
        rw [pos_more hd _ (by rw [ih]; simp), ih]
        by_cases e : (pos t).1 = 0
        · rw [pos_zero hd _ e, e]
        · rw [pos_more hd _ e]
      · rw [if_neg h] at ih ⊢
        by_cases e : (pos t).1 = 0
        · rw [pos_zero hd _ (by rw [ih]; exact e), pos_zero hd _ e, ih]
        · rw [pos_more hd _ (by rw [ih]; exact e), pos_more hd _ e, ih]

/-- The byte of a place has that place. -/
theorem offOf_pos : ∀ (s : List UInt8) (L C i : Nat), offOf (cut s) L C = some i → i ≤ s.length ∧ pos (s.take i) = (L, C) := by
  intro s
  induction s with
  | nil =>
    intro L C i h
    cases L with
    | zero => simp [cut, offOf] at h; obtain ⟨h1, h2⟩ := h; subst h1; subst h2; simp [pos]
    | succ L => simp [cut, offOf] at h
  | cons c t ih =>
    intro L C i h
    by_cases hc : c = 10
    · subst hc
      rw [cut_nl] at h
      cases L with
      | zero => simp [offOf] at h; obtain ⟨h1, h2⟩ := h; subst h1; subst h2; simp [pos]
      | succ L =>
        simp only [offOf] at h
        cases e : offOf (cut t) L C with
        | none => rw [e] at h; cases h
        | some k =>
          rw [e] at h; injection h with h
          have := ih L C k e
          obtain rfl : i = k + 1 := by simp at h; omega
          refine ⟨by simp; omega, ?_⟩
          simp only [List.take_succ_cons]; rw [pos_nl, this.2]
    · obtain ⟨a, r, e⟩ := cut_cons t
      rw [cut_other hc t e] at h
      cases L with
      | zero =>
        simp only [offOf] at h
        split at h
        · rename_i hl
          injection h with h; subst h
          cases C with
          | zero => simp [pos]
          | succ C =>
            have := ih 0 C C (by rw [e]; simp only [offOf]; rw [if_pos (by simpa using hl)])
            refine ⟨by simp; omega, ?_⟩
            simp only [List.take_succ_cons]
            rw [pos_zero hc _ (by rw [this.2]), this.2]
        · cases h
      | succ L =>
        simp only [offOf] at h
        cases e2 : offOf r L C with
        | none => rw [e2] at h; cases h
        | some k =>
          rw [e2] at h; injection h with h
          have := ih (L + 1) C (a.length + 1 + k) (by rw [e]; simp only [offOf, e2])
          obtain rfl : i = (a.length + 1 + k) + 1 := by simp at h; omega
          refine ⟨by simp; omega, ?_⟩
          simp only [List.take_succ_cons]; rw [pos_more hc _ (by rw [this.2]; simp), this.2]

/-- The place of a byte is of that byte. -/
theorem pos_offOf : ∀ (s : List UInt8) (i : Nat), i ≤ s.length → offOf (cut s) (pos (s.take i)).1 (pos (s.take i)).2 = some i := by
  intro s
  induction s with
  | nil => intro i h; simp at h; subst h; simp [pos, cut, offOf]
  | cons c t ih =>
    intro i h
    cases i with
    | zero =>
      obtain ⟨a, r, e⟩ := cut_cons (c :: t)
      rw [e]; simp [pos, offOf]
    | succ i =>
      have := ih i (by simpa using h)
      simp only [List.take_succ_cons]
      by_cases hc : c = 10
      · subst hc
        rw [pos_nl, cut_nl]; simp only [offOf, this]; simp; omega
      · obtain ⟨a, r, e⟩ := cut_cons t
        rw [cut_other hc t e]
        rw [e] at this
        by_cases e0 : (pos (t.take i)).1 = 0
        · rw [pos_zero hc _ e0]
          rw [e0] at this
          simp only [offOf] at this ⊢
          split at this
          · rename_i hl; injection this with this
            rw [if_pos (by simpa using hl)]; rw [this]
          · cases this
        · rw [pos_more hc _ e0]
          cases eL : (pos (t.take i)).1 with
          | zero => exact absurd eL e0
          | succ L =>
            rw [eL] at this
            simp only [offOf] at this ⊢
            cases e2 : offOf r L (pos (t.take i)).2 with
            | none => rw [e2] at this; cases this
            | some k => rw [e2] at this; injection this with this; simp; omega

theorem pos_inj (s : List UInt8) (i j : Nat) (hi : i ≤ s.length) (hj : j ≤ s.length) (h : pos (s.take i) = pos (s.take j)) : i = j := by
  have a := pos_offOf s i hi
  have b := pos_offOf s j hj
  rw [h, b] at a; injection a with a; exact a.symm

theorem offOf_iff (s : List UInt8) (L C : Nat) : (offOf (cut s) L C).isSome = true ↔ ∃ h : L < (cut s).length, C ≤ ((cut s)[L]'h).length := by
  generalize cut s = ls
  induction ls generalizing L with
  | nil => simp [offOf]
  | cons a r ih =>
    cases L with
    | zero => simp only [offOf]; split <;> simp_all
    | succ L =>
      simp only [offOf]
      cases e : offOf r L C with
      | none => have := ih L; rw [e] at this; simpa using this
      | some k => have := ih L; rw [e] at this; simpa using this

theorem pos_le (s : List UInt8) : (pos s).1 ≤ s.length ∧ (pos s).2 ≤ s.length := by
  induction s with
  | nil => simp [pos]
  | cons c t ih =>
    by_cases hc : c = 10
    · subst hc; rw [pos_nl]; simp; omega
    · by_cases e : (pos t).1 = 0
      · rw [pos_zero hc _ e]; simp; omega
      · rw [pos_more hc _ e]; simp; omega

/-- Where a line begins. -/
def start : List (List UInt8) → Nat → Nat
  | _, 0 => 0
  | [], _ + 1 => 0
  | h :: r, L + 1 => h.length + 1 + start r L

theorem offOf_start : ∀ (ls : List (List UInt8)) (L C : Nat) (h : L < ls.length), C ≤ (ls[L]'h).length → offOf ls L C = some (start ls L + C) := by
  intro ls
  induction ls with
  | nil => intro L C h; simp at h
  | cons a r ih =>
    intro L C h hc
    cases L with
    | zero => simp only [offOf, start]; rw [if_pos (by simpa using hc)]; simp
    | succ L =>
      simp only [offOf, start]
      rw [ih L C (by simpa using h) (by simpa using hc)]; simp; omega

theorem offOf_none : ∀ (ls : List (List UInt8)) (L C : Nat), (∀ h : L < ls.length, ¬ C ≤ (ls[L]'h).length) → offOf ls L C = none := by
  intro ls
  induction ls with
  | nil => intro L C _; rfl
  | cons a r ih =>
    intro L C h
    cases L with
    | zero => simp only [offOf]; exact if_neg (h (Nat.zero_lt_succ _))
    | succ L =>
      simp only [offOf]
      rw [ih L C (fun h' hc => h (Nat.succ_lt_succ h') hc)]

theorem start_succ : ∀ (ls : List (List UInt8)) (L : Nat) (h : L < ls.length), start ls (L + 1) = start ls L + (ls[L]'h).length + 1 := by
  intro ls
  induction ls with
  | nil => intro L h; simp at h
  | cons a r ih =>
    intro L h
    cases L with
    | zero => cases r <;> simp [start]
    | succ L => rw [start, ih L (by simpa using h), start]; simp; omega

theorem start_all : ∀ (s : List UInt8), start (cut s) (cut s).length = s.length + 1 := by
  intro s
  induction s with
  | nil => simp [cut, start]
  | cons c t ih =>
    by_cases hc : c = 10
    · subst hc; rw [cut_nl]; simp only [List.length_cons, start, ih]; simp; omega
    · obtain ⟨a, r, e⟩ := cut_cons t
      rw [cut_other hc t e]; rw [e] at ih
      simp only [List.length_cons, start] at ih ⊢; omega

theorem join_cut (s : List UInt8) : join (cut s) = s := by
  induction s with
  | nil => simp [cut, join]
  | cons c t ih =>
    obtain ⟨a, r, e⟩ := cut_cons t
    by_cases hc : c = 10
    · subst hc; rw [cut_nl, e]; rw [e] at ih; simp [join, ih]
    · rw [cut_other hc t e]; rw [e] at ih
      cases r with
      | nil => simp only [join] at ih ⊢; rw [ih]
      | cons b r => simp only [join] at ih ⊢; rw [← ih]; rfl

theorem cut_plain : ∀ (a : List UInt8), (∀ c ∈ a, c ≠ 10) → cut a = [a] := by
  intro a
  induction a with
  | nil => intro _; rfl
  | cons c t ih =>
    intro h
    exact cut_other (h c (by simp)) t (ih (fun d hd => h d (by simp [hd])))

theorem cut_app : ∀ (a : List UInt8) (t : List UInt8), (∀ c ∈ a, c ≠ 10) → cut (a ++ 10 :: t) = a :: cut t := by
  intro a
  induction a with
  | nil => intro t _; exact cut_nl t
  | cons c a ih =>
    intro t h
    exact cut_other (h c (by simp)) _ (ih t (fun d hd => h d (by simp [hd])))

theorem cut_join : ∀ (ls : List (List UInt8)), ls ≠ [] → (∀ a ∈ ls, ∀ c ∈ a, c ≠ 10) → cut (join ls) = ls := by
  intro ls
  induction ls with
  | nil => intro h; exact absurd rfl h
  | cons a r ih =>
    intro _ h
    cases r with
    | nil => exact cut_plain a (h a (by simp))
    | cons b r =>
      simp only [join]
      rw [cut_app a _ (h a (by simp)), ih (by simp) (fun x hx => h x (by simp [hx]))]

/-- The lines of two texts, one behind the other. -/
theorem cut_cat : ∀ (s t : List UInt8) (a : List (List UInt8)) (x : List UInt8) (y : List UInt8) (b : List (List UInt8)),
    cut s = a ++ [x] → cut t = y :: b → cut (s ++ t) = a ++ (x ++ y) :: b := by
  intro s
  induction s with
  | nil =>
    intro t a x y b h1 h2
    simp only [cut] at h1
    cases a with
    | nil => simp at h1; subst h1; simpa using h2
    | cons p a => simp at h1
  | cons c s ih =>
    intro t a x y b h1 h2
    by_cases hc : c = 10
    · subst hc
      rw [cut_nl] at h1
      simp only [List.cons_append]; rw [cut_nl]
      cases a with
      | nil => simp at h1; exact absurd h1.2 (cut_ne s)
      | cons p a =>
        simp at h1; obtain ⟨h3, h4⟩ := h1; subst h3
        rw [ih t a x y b h4 h2]; rfl
    · obtain ⟨p, r, e⟩ := cut_cons s
      rw [cut_other hc s e] at h1
      simp only [List.cons_append]
      cases a with
      | nil =>
        simp at h1; obtain ⟨h3, h4⟩ := h1; subst h3; subst h4
        exact cut_other hc _ (ih t [] p y b (by simpa using e) h2)
      | cons q a =>
        simp at h1; obtain ⟨h3, h4⟩ := h1; subst h3; subst h4
        exact cut_other hc _ (ih t (p :: a) x y b (by simpa using e) h2)

theorem ok_cat : ∀ (s : List UInt8) (w : Nat) (t : List UInt8), okFrom w (s ++ 10 :: t) = (okFrom w s && okFrom 0 t) := by
  intro s
  induction s with
  | nil => intro w t; simp [okFrom]
  | cons c s ih =>
    intro w t
    simp only [List.cons_append, okFrom]
    by_cases hc : c = 10
    · rw [if_pos hc, if_pos hc, ih]
    · rw [if_neg hc, if_neg hc, ih]; simp [Bool.and_assoc]

theorem ok_bad : ∀ (s : List UInt8) (w : Nat) (t : List UInt8), okFrom w (s ++ 9 :: t) = false := by
  intro s
  induction s with
  | nil => intro w t; simp [okFrom]
  | cons c s ih =>
    intro w t
    simp only [List.cons_append, okFrom]
    by_cases hc : c = 10
    · rw [if_pos hc, ih]
    · rw [if_neg hc, ih]; simp

theorem ok_lines : ∀ (ls : List (List UInt8)), (∀ a ∈ ls, okFrom 0 a = true) → okFrom 0 (join ls) = true := by
  intro ls
  induction ls with
  | nil => intro _; rfl
  | cons a r ih =>
    intro h
    cases r with
    | nil => exact h a (by simp)
    | cons b r =>
      simp only [join]
      rw [ok_cat, h a (by simp), ih (fun x hx => h x (by simp [hx]))]; rfl

end Ilp

namespace Ilp

def isLet (c : UInt8) : Bool := decide (97 ≤ c.toNat) && decide (c.toNat ≤ 122)
def isDig (c : UInt8) : Bool := decide (48 ≤ c.toNat) && decide (c.toNat ≤ 57)
def isMark (c : UInt8) : Bool := [43, 45, 42, 60, 40, 41, 58, 61].contains c
def tokWord (s : List UInt8) : Bool := decide (1 ≤ s.length) && decide (s.length ≤ 8) && s.all isLet
def decFrom (n : Nat) (s : List UInt8) : Nat := s.foldl (fun n c => n * 10 + (c.toNat - 48)) n
def decVal (s : List UInt8) : Nat := decFrom 0 s
def tokNum (s : List UInt8) : Bool := decide (1 ≤ s.length) && decide (s.length ≤ 17) && s.all isDig && (decide (s.length = 1) || decide (s.head? ≠ some 48)) && decide (decVal s ≤ 1000000)
def tokMark (s : List UInt8) : Bool := match s with | [c] => isMark c | _ => false
def tokKind (s : List UInt8) : Nat := if tokWord s = true then 1 else if tokNum s = true then 2 else if tokMark s = true then 3 else 0
def tokOk (k : Int) (s : List UInt8) : Bool := if k = 1 then tokWord s else if k = 2 then tokNum s else if k = 3 then tokMark s else false

theorem let_not_dig {c : UInt8} (h : isLet c = true) : isDig c = false := by
  simp [isLet, isDig] at h ⊢; omega
theorem mark_not {c : UInt8} (h : isMark c = true) : isLet c = false ∧ isDig c = false := by
  simp [isMark] at h
  rcases h with h | h | h | h | h | h | h | h <;> subst h <;> decide

theorem word_not_num {s : List UInt8} (h : tokWord s = true) : tokNum s = false ∧ tokMark s = false := by
  cases s with
  | nil => simp [tokWord] at h
  | cons c t =>
    simp [tokWord] at h
    have hc := h.2.1
    constructor
    · simp [tokNum, let_not_dig hc]
    · cases t with
      | nil =>
        simp only [tokMark]
        cases e : isMark c
        · rfl
        · rw [(mark_not e).1] at hc; cases hc
      | cons d t => rfl
theorem num_not_mark {s : List UInt8} (h : tokNum s = true) : tokMark s = false := by
  cases s with
  | nil => simp [tokNum] at h
  | cons c t =>
    simp [tokNum] at h
    have hc := h.1.1.2.1
    cases t with
    | nil =>
      simp only [tokMark]
      cases e : isMark c
      · rfl
      · rw [(mark_not e).2] at hc; cases hc
    | cons d t => rfl

theorem tokOk_kind (k : Int) (s : List UInt8) : tokOk k s = true ↔ (k = tokKind s ∧ tokKind s ≠ 0) := by
  unfold tokOk tokKind
  by_cases w : tokWord s = true
  · have := word_not_num w
    simp [w, this.1, this.2]
  · simp at w
    by_cases n : tokNum s = true
    · have := num_not_mark n
      simp [w, n, this]
      by_cases h1 : k = 1
      · simp [h1]
      · by_cases h2 : k = 2
        · simp [h2]
        · simp [h1, h2]
    · simp at n
      by_cases m : tokMark s = true
      · simp [w, n, m]
        by_cases h1 : k = 1
        · simp [h1]
        · by_cases h2 : k = 2
          · simp [h2]
          · by_cases h3 : k = 3 <;> simp [h1, h2, h3]
      · simp at m; simp [w, n, m]

theorem tokKind_le (s : List UInt8) : tokKind s ≤ 3 := by unfold tokKind; split; · omega
                                                          split; · omega
                                                          split <;> omega

/-- How long the word at the head is. -/
def wlen : List UInt8 → Nat
  | [] => 0
  | c :: t => if isLet c = true then 1 + (t.takeWhile isLet).length else if isDig c = true then 1 + (t.takeWhile isDig).length else 1

theorem tw_le (p : UInt8 → Bool) : ∀ t : List UInt8, (t.takeWhile p).length ≤ t.length := by
  intro t
  induction t with
  | nil => simp
  | cons c t ih => rw [List.takeWhile_cons]; split <;> simp <;> omega

theorem wlen_pos {l : List UInt8} (h : l ≠ []) : 1 ≤ wlen l ∧ wlen l ≤ l.length := by
  cases l with
  | nil => exact absurd rfl h
  | cons c t =>
    unfold wlen
    have h1 := tw_le isLet t
    have h2 := tw_le isDig t
    simp only [List.length_cons]
    split
    · omega
    · split <;> omega

structure T where
  kind : Nat
  s : List UInt8
  col : Nat
deriving DecidableEq

def toks : Nat → Nat → List UInt8 → Option (List T)
  | 0, _, _ => none
  | f + 1, a, l => match l with
    | [] => some []
    | c :: t => if c = 32 then toks f (a + 1) t else
      if tokKind ((c :: t).take (wlen (c :: t))) = 0 then none else
      match toks f (a + wlen (c :: t)) ((c :: t).drop (wlen (c :: t))) with
      | none => none
      | some r => some (⟨tokKind ((c :: t).take (wlen (c :: t))), (c :: t).take (wlen (c :: t)), a⟩ :: r)

theorem toks_nil (f a : Nat) : toks (f + 1) a [] = some [] := rfl
theorem toks_space (f a : Nat) (t : List UInt8) : toks (f + 1) a (32 :: t) = toks f (a + 1) t := by rw [toks]; simp
theorem toks_bad {f a : Nat} {l : List UInt8} (h : l ≠ []) (h1 : l.head? ≠ some 32) (h2 : tokKind (l.take (wlen l)) = 0) : toks (f + 1) a l = none := by
  cases l with
  | nil => exact absurd rfl h
  | cons c t => rw [toks, if_neg (by simpa using h1), if_pos h2]
theorem toks_word {f a : Nat} {l : List UInt8} (h : l ≠ []) (h1 : l.head? ≠ some 32) (h2 : tokKind (l.take (wlen l)) ≠ 0) :
    toks (f + 1) a l = (toks f (a + wlen l) (l.drop (wlen l))).map (⟨tokKind (l.take (wlen l)), l.take (wlen l), a⟩ :: ·) := by
  cases l with
  | nil => exact absurd rfl h
  | cons c t =>
    rw [toks, if_neg (by simpa using h1), if_neg h2]
    cases toks f (a + wlen (c :: t)) ((c :: t).drop (wlen (c :: t))) <;> rfl

/-- Three ways for a text's head. -/
theorem toks_cases (l : List UInt8) : l = [] ∨ (∃ t, l = 32 :: t) ∨ (l ≠ [] ∧ l.head? ≠ some 32) := by
  cases l with
  | nil => exact .inl rfl
  | cons c t =>
    by_cases h : c = 32
    · subst h; exact .inr (.inl ⟨t, rfl⟩)
    · exact .inr (.inr ⟨by simp, by simpa using h⟩)

theorem toks_fuel : ∀ (f g a : Nat) (l : List UInt8), l.length < f → l.length < g → toks f a l = toks g a l := by
  intro f
  induction f with
  | zero => intro g a l h; omega
  | succ f ih =>
    intro g a l h1 h2
    cases g with
    | zero => omega
    | succ g =>
      rcases toks_cases l with rfl | ⟨t, rfl⟩ | ⟨hn, hs⟩
      · rfl
      · rw [toks_space, toks_space]; simp at h1 h2; exact ih g _ _ (by omega) (by omega)
      · by_cases hk : tokKind (l.take (wlen l)) = 0
        · rw [toks_bad hn hs hk, toks_bad hn hs hk]
        · rw [toks_word hn hs hk, toks_word hn hs hk]
          have := wlen_pos hn
          rw [ih g _ _ (by rw [List.length_drop]; omega) (by rw [List.length_drop]; omega)]

def words (l : List UInt8) : Option (List T) := toks (l.length + 1) 0 l
def tokLine (s : List UInt8) : Option (List T) := if s.length ≤ 120 then words s else none

def sh (k : Nat) (t : T) : T := ⟨t.kind, t.s, t.col + k⟩

theorem toks_shift : ∀ (f a k : Nat) (l : List UInt8), toks f (a + k) l = (toks f a l).map (·.map (sh k)) := by
  intro f
  induction f with
  | zero => intro a k l; rfl
  | succ f ih =>
    intro a k l
    rcases toks_cases l with rfl | ⟨t, rfl⟩ | ⟨hn, hs⟩
    · rfl
    · rw [toks_space, toks_space, show a + k + 1 = (a + 1) + k by omega, ih]
    · by_cases hk : tokKind (l.take (wlen l)) = 0
      · rw [toks_bad hn hs hk, toks_bad hn hs hk]; rfl
      · rw [toks_word hn hs hk, toks_word hn hs hk, show a + k + wlen l = (a + wlen l) + k by omega, ih]
        cases toks f (a + wlen l) (l.drop (wlen l)) <;> simp [sh]

theorem wlen_app {l : List UInt8} (h : l ≠ []) (r : List UInt8) (hr : r = [] ∨ ∃ t, r = 32 :: t) : wlen (l ++ r) = wlen l := by
  have key : ∀ (p : UInt8 → Bool), p 32 = false → ∀ t : List UInt8, ((t ++ r).takeWhile p).length = (t.takeWhile p).length := by
    intro p hp t
    induction t with
    | nil => rcases hr with rfl | ⟨t, rfl⟩ <;> simp [hp]
    | cons c t ih => simp only [List.cons_append, List.takeWhile_cons]; split <;> simp [ih]
  cases l with
  | nil => exact absurd rfl h
  | cons c t => simp only [List.cons_append, wlen]; rw [key isLet (by decide), key isDig (by decide)]

/-- The words of two texts with a space between. -/
theorem toks_cat : ∀ (f : Nat) (a : Nat) (l r : List UInt8), l.length + r.length + 1 < f →
    toks f a (l ++ 32 :: r) = match toks f a l with
      | none => none
      | some x => match toks f (a + l.length + 1) r with
        | none => none
        | some y => some (x ++ y) := by
  intro f
  induction f with
  | zero => intro a l r h; omega
  | succ f ih =>
    intro a l r h
    rcases toks_cases l with rfl | ⟨t, rfl⟩ | ⟨hn, hs⟩
    · simp only [List.nil_append, toks_space, toks_nil, List.length_nil]
      rw [toks_fuel f (f + 1) _ r (by simp at h; omega) (by simp at h; omega)]
      cases toks (f + 1) (a + 0 + 1) r <;> rfl
    · simp only [List.cons_append, toks_space, List.length_cons]
      rw [ih _ _ _ (by simp at h ⊢; omega)]
      rw [show a + (t.length + 1) + 1 = a + 1 + t.length + 1 by omega]
      rw [toks_fuel f (f + 1) (a + 1 + t.length + 1) r (by simp at h; omega) (by simp at h; omega)]
    · have hw := wlen_pos hn
      have hw2 := wlen_app hn (32 :: r) (.inr ⟨r, rfl⟩)
      have e1 : (l ++ 32 :: r).take (wlen l) = l.take (wlen l) := List.take_append_of_le_length (by omega)
      have e2 : (l ++ 32 :: r).drop (wlen l) = l.drop (wlen l) ++ 32 :: r := List.drop_append_of_le_length (by omega)
      have hn2 : l ++ 32 :: r ≠ [] := by simp
      have hs2 : (l ++ 32 :: r).head? ≠ some 32 := by
        cases l with
        | nil => exact absurd rfl hn
        | cons c t => simpa using hs
      by_cases hk : tokKind (l.take (wlen l)) = 0
      · rw [toks_bad hn2 hs2 (by rw [hw2, e1]; exact hk), toks_bad hn hs hk]
      · rw [toks_word hn2 hs2 (by rw [hw2, e1]; exact hk), toks_word hn hs hk, hw2, e1, e2]
        rw [ih _ _ _ (by rw [List.length_drop]; omega)]
        have e3 : a + wlen l + (l.drop (wlen l)).length + 1 = a + l.length + 1 := by rw [List.length_drop]; omega
        rw [e3, toks_fuel f (f + 1) (a + l.length + 1) r (by omega) (by omega)]
        cases toks f (a + wlen l) (l.drop (wlen l)) with
        | none => rfl
        | some x => cases toks (f + 1) (a + l.length + 1) r <;> rfl

theorem words_cat (l r : List UInt8) : words (l ++ 32 :: r) = match words l with
    | none => none
    | some x => match words r with
      | none => none
      | some y => some (x ++ y.map (sh (l.length + 1))) := by
  unfold words
  rw [toks_fuel _ (l.length + r.length + 2) _ _ (by simp) (by simp; omega), toks_cat _ _ _ _ (by omega),
    toks_fuel _ (l.length + 1) 0 l (by omega) (Nat.lt_succ_self _)]
  rw [show (0 + l.length + 1) = 0 + (l.length + 1) by omega, toks_shift, toks_fuel _ (r.length + 1) 0 r (by omega) (by omega)]
  cases toks (l.length + 1) 0 l with
  | none => rfl
  | some x => cases toks (r.length + 1) 0 r <;> rfl

/-- A text that is one word. -/
def Word (w : List UInt8) : Prop := w ≠ [] ∧ w.head? ≠ some 32 ∧ wlen w = w.length ∧ tokKind w ≠ 0

theorem words_one {w : List UInt8} (h : Word w) : words w = some [⟨tokKind w, w, 0⟩] := by
  obtain ⟨h1, h2, h3, h4⟩ := h
  unfold words
  rw [toks_word h1 h2 (by rw [h3, List.take_length]; exact h4), h3, List.take_length, List.drop_length]
  have : 1 ≤ w.length := by cases w <;> simp_all
  obtain ⟨k, hk⟩ : ∃ k, w.length = k + 1 := ⟨w.length - 1, by omega⟩
  rw [hk]; rfl

/-- Words with one space between. -/
def tokText : List (List UInt8) → List UInt8
  | [] => []
  | [a] => a
  | a :: b :: r => a ++ 32 :: tokText (b :: r)

def place : Nat → List (List UInt8) → List T
  | _, [] => []
  | a, w :: r => ⟨tokKind w, w, a⟩ :: place (a + w.length + 1) r

theorem place_sh (k : Nat) : ∀ (ws : List (List UInt8)) (a : Nat), (place a ws).map (sh k) = place (a + k) ws := by
  intro ws
  induction ws with
  | nil => intro a; rfl
  | cons w r ih => intro a; simp only [place, List.map_cons, ih]; rw [show a + w.length + 1 + k = a + k + w.length + 1 by omega]; rfl

theorem words_text : ∀ (ws : List (List UInt8)), (∀ w ∈ ws, Word w) → words (tokText ws) = some (place 0 ws) := by
  intro ws
  induction ws with
  | nil => intro _; rfl
  | cons w r ih =>
    intro h
    cases r with
    | nil => exact words_one (h w (by simp))
    | cons b r =>
      simp only [tokText]
      rw [words_cat, words_one (h w (by simp)), ih (fun x hx => h x (by simp [hx]))]
      simp only []
      rw [place_sh]; simp only [place, List.singleton_append]; simp

theorem isLet_32 : isLet 32 = false := by decide
theorem isDig_32 : isDig 32 = false := by decide
theorem dig_not_let {c : UInt8} (h : isDig c = true) : isLet c = false := by
  cases e : isLet c
  · rfl
  · rw [let_not_dig e] at h; cases h

/-- The run of a class at the head. -/
def runOf (p : UInt8 → Bool) (l : List UInt8) : Nat := (l.takeWhile p).length

theorem wlen_max {l : List UInt8} (h : l ≠ []) : wlen l = max 1 (max (runOf isLet l) (runOf isDig l)) := by
  cases l with
  | nil => exact absurd rfl h
  | cons c t =>
    unfold wlen runOf
    simp only [List.takeWhile_cons]
    cases h1 : isLet c
    · cases h2 : isDig c
      · simp
      · simp; omega
    · simp [let_not_dig h1]; omega

theorem tw_idem (p : UInt8 → Bool) : ∀ t : List UInt8, ((t.take (t.takeWhile p).length).takeWhile p).length = (t.takeWhile p).length := by
  intro t
  induction t with
  | nil => rfl
  | cons c t ih =>
    rw [List.takeWhile_cons]
    cases h : p c
    · simp
    · simp [h, ih]

theorem wlen_cons (c : UInt8) (t : List UInt8) : wlen (c :: t) = if isLet c = true then 1 + (t.takeWhile isLet).length else if isDig c = true then 1 + (t.takeWhile isDig).length else 1 := rfl
theorem wlen_take {l : List UInt8} (h : l ≠ []) : wlen (l.take (wlen l)) = wlen l := by
  cases l with
  | nil => exact absurd rfl h
  | cons c t =>
    have h1 := tw_idem isLet t
    have h2 := tw_idem isDig t
    rw [wlen_cons c t]
    cases e1 : isLet c
    · cases e2 : isDig c
      · simp [wlen_cons, e1, e2]
      · simp only [Bool.false_eq_true, if_false, if_true]
        rw [Nat.add_comm 1, List.take_succ_cons, wlen_cons]
        simp only [e1, e2, Bool.false_eq_true, if_false, if_true, h2]; omega
    · simp only [if_true]
      rw [Nat.add_comm 1, List.take_succ_cons, wlen_cons]
      simp only [e1, if_true, h1]; omega

theorem word_of_head {l : List UInt8} (h : l ≠ []) (h1 : l.head? ≠ some 32) (h2 : tokKind (l.take (wlen l)) ≠ 0) : Word (l.take (wlen l)) := by
  have hw := wlen_pos h
  refine ⟨?_, ?_, ?_, h2⟩
  · cases l with
    | nil => exact absurd rfl h
    | cons c t =>
      obtain ⟨k, hk⟩ : ∃ k, wlen (c :: t) = k + 1 := ⟨wlen (c :: t) - 1, by omega⟩
      rw [hk]; simp
  · cases l with
    | nil => exact absurd rfl h
    | cons c t =>
      obtain ⟨k, hk⟩ : ∃ k, wlen (c :: t) = k + 1 := ⟨wlen (c :: t) - 1, by omega⟩
      rw [hk]; simpa using h1
  · rw [wlen_take h, List.length_take]; omega

/-- Every word of a text is a word by itself, and of its kind. -/
theorem toks_words : ∀ (f a : Nat) (l : List UInt8) (ts : List T), toks f a l = some ts → ∀ t ∈ ts, Word t.s ∧ t.kind = tokKind t.s ∧ t.s.length ≤ l.length ∧ a ≤ t.col ∧ t.col + t.s.length ≤ a + l.length := by
  intro f
  induction f with
  | zero => intro a l ts h; simp [toks] at h
  | succ f ih =>
    intro a l ts h
    rcases toks_cases l with rfl | ⟨t, rfl⟩ | ⟨hn, hs⟩
    · simp [toks_nil] at h; subst h; simp
    · rw [toks_space] at h
      intro x hx
      have := ih _ _ _ h x hx
      simp only [List.length_cons]
      exact ⟨this.1, this.2.1, by omega, by omega, by omega⟩
    · by_cases hk : tokKind (l.take (wlen l)) = 0
      · rw [toks_bad hn hs hk] at h; cases h
      · rw [toks_word hn hs hk] at h
        have hw := wlen_pos hn
        cases hr : toks f (a + wlen l) (l.drop (wlen l)) with
        | none => rw [hr] at h; cases h
        | some r =>
          rw [hr] at h
          simp only [Option.map_some, Option.some.injEq] at h
          subst h
          intro x hx
          rcases List.mem_cons.1 hx with rfl | hx
          · refine ⟨word_of_head hn hs hk, rfl, ?_, Nat.le_refl _, ?_⟩ <;> simp only [List.length_take] <;> omega
          · have := ih _ _ _ hr x hx
            rw [List.length_drop] at this
            exact ⟨this.1, this.2.1, by omega, by omega, by omega⟩

/-- How the words of a text lie in it, from the end of one that is of kind pk. -/
def LaidFrom (L : List UInt8) : Nat → Nat → List T → Prop
  | a, _, [] => ∀ j, a ≤ j → j < L.length → L[j]? = some 32
  | a, pk, t :: ts => a ≤ t.col ∧ (∀ j, a ≤ j → j < t.col → L[j]? = some 32) ∧ t.col + t.s.length ≤ L.length ∧ (L.drop t.col).take t.s.length = t.s ∧ t.kind = tokKind t.s ∧ (t.col = a → t.kind = pk → t.kind = 3) ∧ LaidFrom L (t.col + t.s.length) t.kind ts

theorem tw_next (p : UInt8 → Bool) : ∀ (t : List UInt8) (c : UInt8), (t.drop (t.takeWhile p).length).head? = some c → p c = false := by
  intro t
  induction t with
  | nil => intro c h; simp at h
  | cons d t ih =>
    intro c h
    rw [List.takeWhile_cons] at h
    cases e : p d
    · rw [e] at h; simp at h; subst h; exact e
    · rw [e] at h; simp at h; exact ih c (by simpa using h)

/-- What may stand behind a word. -/
def Adj (pk : Nat) (l : List UInt8) : Prop := ∀ c, l.head? = some c → (pk = 1 → isLet c = false) ∧ (pk = 2 → isDig c = false)

theorem kind_let {c : UInt8} {t : List UInt8} (h : tokKind (c :: t) = 1) : isLet c = true := by
  unfold tokKind at h
  split at h
  · rename_i w; simp [tokWord] at w; exact w.2.1
  · split at h
    · cases h
    · split at h <;> cases h
theorem kind_dig {c : UInt8} {t : List UInt8} (h : tokKind (c :: t) = 2) : isDig c = true := by
  unfold tokKind at h
  split at h
  · cases h
  · split at h
    · rename_i w; simp [tokNum] at w; exact w.1.1.2.1
    · split at h <;> cases h

theorem adj_word {l : List UInt8} (h : l ≠ []) : Adj (tokKind (l.take (wlen l))) (l.drop (wlen l)) := by
  cases l with
  | nil => exact absurd rfl h
  | cons c t =>
    intro d hd
    have hw := wlen_pos h
    obtain ⟨k, hk⟩ : ∃ k, wlen (c :: t) = k + 1 := ⟨wlen (c :: t) - 1, by omega⟩
    have htake : (c :: t).take (wlen (c :: t)) = c :: t.take k := by rw [hk, List.take_succ_cons]
    rw [htake]
    constructor
    · intro h1
      have hc := kind_let h1
      have : wlen (c :: t) = 1 + (t.takeWhile isLet).length := by simp [wlen, hc]
      rw [this, Nat.add_comm, List.drop_succ_cons] at hd
      exact tw_next _ _ _ hd
    · intro h1
      have hc := kind_dig h1
      have : wlen (c :: t) = 1 + (t.takeWhile isDig).length := by simp [wlen, hc, dig_not_let hc]
      rw [this, Nat.add_comm, List.drop_succ_cons] at hd
      exact tw_next _ _ _ hd

theorem toks_laid (L : List UInt8) : ∀ (f a0 a pk : Nat) (ts : List T), toks f a (L.drop a) = some ts → a0 ≤ a → a ≤ L.length → (∀ j, a0 ≤ j → j < a → L[j]? = some 32) → (a = a0 → Adj pk (L.drop a)) → LaidFrom L a0 pk ts := by
  intro f
  induction f with
  | zero => intro a0 a pk ts h; simp [toks] at h
  | succ f ih =>
    intro a0 a pk ts h h0 hL hsp hadj
    rcases toks_cases (L.drop a) with hd | ⟨t, hd⟩ | ⟨hn, hs⟩
    · rw [hd, toks_nil] at h
      simp at h; subst h
      have : L.length ≤ a := by simpa using List.drop_eq_nil_iff.1 hd
      intro j hj1 hj2
      exact hsp j hj1 (by omega)
    · have ha : a < L.length := by
        rcases Nat.lt_or_ge a L.length with h1 | h1
        · exact h1
        · rw [List.drop_eq_nil_of_le h1] at hd; cases hd
      have hx : L[a]? = some 32 := by
        have : (L.drop a)[0]? = some 32 := by rw [hd]; rfl
        simpa using this
      rw [hd, toks_space] at h
      have ht : t = L.drop (a + 1) := by
        have := congrArg List.tail hd
        simpa using this.symm
      rw [ht] at h
      exact ih a0 (a + 1) pk ts h (by omega) (by omega) (fun j h1 h2 => by
        by_cases hj : j = a
        · subst hj; exact hx
        · exact hsp j h1 (by omega)) (fun e => by omega)
    · by_cases hk : tokKind ((L.drop a).take (wlen (L.drop a))) = 0
      · rw [toks_bad hn hs hk] at h; cases h
      · rw [toks_word hn hs hk, List.drop_drop] at h
        have hw := wlen_pos hn
        rw [List.length_drop] at hw
        cases hr : toks f (a + wlen (L.drop a)) (L.drop (a + wlen (L.drop a))) with
        | none => rw [hr] at h; cases h
        | some r =>
          rw [hr] at h
          simp only [Option.map_some, Option.some.injEq] at h
          subst h
          have hlen : ((L.drop a).take (wlen (L.drop a))).length = wlen (L.drop a) := by rw [List.length_take, List.length_drop]; omega
          refine ⟨h0, hsp, ?_, ?_, rfl, ?_, ?_⟩
          · simp only [hlen]; omega
          · simp only [hlen]
          · intro e1 e2
            simp only at e1 e2
            have hA := hadj e1
            simp only
            have hle := tokKind_le ((L.drop a).take (wlen (L.drop a)))
            obtain ⟨c, t, hct⟩ : ∃ c t, L.drop a = c :: t := by
              cases h : L.drop a with
              | nil => exact absurd h hn
              | cons c t => exact ⟨c, t, rfl⟩
            have hAc := hA c (by rw [hct]; rfl)
            have hw1 := wlen_pos hn
            obtain ⟨k, hk'⟩ : ∃ k, wlen (L.drop a) = k + 1 := ⟨wlen (L.drop a) - 1, by omega⟩
            rw [hk', hct, List.take_succ_cons] at e2 hk hle ⊢
            rcases (show tokKind (c :: t.take k) = 1 ∨ tokKind (c :: t.take k) = 2 ∨ tokKind (c :: t.take k) = 3 by omega) with h1 | h1 | h1
            · have := hAc.1 (by omega); rw [kind_let h1] at this; cases this
            · have := hAc.2 (by omega); rw [kind_dig h1] at this; cases this
            · exact h1
          · simp only [hlen]
            exact ih _ _ _ _ hr (Nat.le_refl _) (by omega) (fun j h1 h2 => by omega) (fun _ => by
              have := adj_word hn
              rw [List.drop_drop] at this
              exact this)

theorem words_laid {L : List UInt8} {ts : List T} (h : words L = some ts) : LaidFrom L 0 0 ts :=
  toks_laid L _ 0 0 0 ts (by simpa [words] using h) (Nat.le_refl _) (Nat.zero_le _) (fun j h1 h2 => by omega) (fun _ c hc => by simp)

theorem toks_pad : ∀ (k f a : Nat) (l : List UInt8), toks (f + k) a (List.replicate k 32 ++ l) = toks f (a + k) l := by
  intro k
  induction k with
  | zero => intro f a l; simp
  | succ k ih =>
    intro f a l
    rw [List.replicate_succ, List.cons_append, ← Nat.add_assoc, toks_space, ih, show a + 1 + k = a + (k + 1) by omega]
theorem words_pad (k : Nat) (l : List UInt8) : words (List.replicate k 32 ++ l) = (words l).map (·.map (sh k)) := by
  unfold words
  rw [List.length_append, List.length_replicate, show k + l.length + 1 = (l.length + 1) + k by omega, toks_pad, toks_shift]
theorem words_spaces : ∀ k : Nat, words (List.replicate k 32) = some [] := by
  intro k
  have := words_pad k []
  rw [List.append_nil] at this
  rw [this]; rfl
theorem words_back (k : Nat) (l : List UInt8) : words (l ++ List.replicate k 32) = words l := by
  cases k with
  | zero => simp
  | succ k =>
    rw [List.replicate_succ, words_cat, words_spaces]
    cases words l <;> simp

theorem place_get : ∀ (ws : List (List UInt8)) (a i : Nat) (h : i < ws.length), ∃ t, (place a ws)[i]? = some t ∧ t.s = ws[i] ∧ t.kind = tokKind ws[i] := by
  intro ws
  induction ws with
  | nil => intro a i h; simp at h
  | cons w r ih =>
    intro a i h
    cases i with
    | zero => exact ⟨_, rfl, rfl, rfl⟩
    | succ i => simpa [place] using ih (a + w.length + 1) i (by simpa using h)
theorem place_length : ∀ (ws : List (List UInt8)) (a : Nat), (place a ws).length = ws.length
  | [], _ => rfl
  | w :: r, a => by simp [place, place_length r]

/-- Writing the words of a text anew. -/
theorem words_again {l : List UInt8} {ts : List T} (h : words l = some ts) : words (tokText (ts.map (·.s))) = some (place 0 (ts.map (·.s))) :=
  words_text _ fun w hw => by
    obtain ⟨t, ht, rfl⟩ := List.mem_map.1 hw
    exact (toks_words _ _ _ _ h t ht).1
end Ilp

namespace Ilp
open Go

theorem dig_iff {c : UInt8} : isDig c = true ↔ 48 ≤ c.toNat ∧ c.toNat ≤ 57 := by
  unfold isDig; rw [Bool.and_eq_true, decide_eq_true_eq, decide_eq_true_eq]
theorem decFrom_cons (n : Nat) (c : UInt8) (t : List UInt8) : decFrom n (c :: t) = decFrom (n * 10 + (c.toNat - 48)) t := by unfold decFrom; rw [List.foldl_cons]
theorem decFrom_snoc (n : Nat) (t : List UInt8) (c : UInt8) : decFrom n (t ++ [c]) = decFrom n t * 10 + (c.toNat - 48) := by simp [decFrom]
theorem decFrom_le : ∀ (t : List UInt8) (n : Nat), n ≤ decFrom n t
  | [], n => Nat.le_refl _
  | c :: t, n => by rw [decFrom_cons]; have := decFrom_le t (n * 10 + (c.toNat - 48)); omega

theorem parse_dec : ∀ (t : List UInt8) (n : Nat), t.all isDig = true → decFrom n t ≤ 1000000 → Lib.parseUint10 n t = .ok (decFrom n t)
  | [], n, _, _ => rfl
  | c :: t, n, h, hle => by
    simp only [List.all_cons, Bool.and_eq_true] at h
    have hc := dig_iff.1 h.1
    rw [decFrom_cons] at hle ⊢
    have := decFrom_le t (n * 10 + (c.toNat - 48))
    rw [Lib.parseUint10, if_pos hc, if_neg (by omega), if_neg (by omega), parse_dec t _ h.2 hle]

theorem tokNum_iff {s : List UInt8} : tokNum s = true ↔ 1 ≤ s.length ∧ s.length ≤ 17 ∧ s.all isDig = true ∧ (s.length = 1 ∨ s.head? ≠ some 48) ∧ decVal s ≤ 1000000 := by
  simp [tokNum, and_assoc]

theorem atoi_num {s : List UInt8} (h : tokNum s = true) : Lib.atoiAll s = .ok (decVal s : Int) := by
  obtain ⟨h1, h2, h3, h4, h5⟩ := tokNum_iff.1 h
  cases s with
  | nil => simp at h1
  | cons c t =>
    simp only [List.all_cons, Bool.and_eq_true] at h3
    have hc := dig_iff.1 h3.1
    have hp : Lib.parseMag (c :: t) = .ok (decVal (c :: t)) := by
      unfold Lib.parseMag
      rw [if_neg (by simp)]
      exact parse_dec (c :: t) 0 (by simp [h3.1]; simpa using h3.2) h5
    unfold Lib.atoiAll
    simp only []
    rw [if_neg (by omega), hp]
    simp only []
    rw [if_neg (by omega), if_neg (by omega), if_neg (by omega)]

theorem byte_dig (d : Nat) (h : d < 10) : (UInt8.ofNat (48 + d)).toNat = 48 + d := by simp; omega
theorem ofNat_dig {c : UInt8} (h : isDig c = true) : UInt8.ofNat (48 + (c.toNat - 48)) = c := by
  have hc := dig_iff.1 h
  apply UInt8.toNat_inj.1; simp; omega

theorem snoc_ind {P : List UInt8 → Prop} (h0 : P []) (h1 : ∀ t c, P t → P (t ++ [c])) : ∀ l, P l := by
  intro l
  have : ∀ n, ∀ l : List UInt8, l.length = n → P l := by
    intro n
    induction n with
    | zero => intro l hl; rw [List.length_eq_zero_iff.1 hl]; exact h0
    | succ n ih =>
      intro l hl
      have hne : l ≠ [] := by intro e; subst e; simp at hl
      rw [← List.dropLast_concat_getLast hne]
      exact h1 _ _ (ih _ (by simp [hl]))
  exact this _ l rfl

theorem decVal_pos : ∀ (s : List UInt8), s ≠ [] → s.all isDig = true → s.head? ≠ some 48 → 1 ≤ decVal s := by
  intro s hn ha hh
  cases s with
  | nil => exact absurd rfl hn
  | cons c t =>
    simp only [List.all_cons, Bool.and_eq_true] at ha
    have hc := dig_iff.1 ha.1
    have : c.toNat ≠ 48 := fun e => hh (by simp; exact UInt8.toNat_inj.1 (by simpa using e))
    have := decFrom_le t (0 * 10 + (c.toNat - 48))
    unfold decVal; rw [decFrom_cons]; omega

theorem digits_back : ∀ (s : List UInt8), s ≠ [] → s.all isDig = true → (s.length = 1 ∨ s.head? ≠ some 48) → Lib.decDigits (decVal s) = s := by
  intro s
  refine snoc_ind (P := fun s => s ≠ [] → s.all isDig = true → (s.length = 1 ∨ s.head? ≠ some 48) → Lib.decDigits (decVal s) = s) ?_ ?_ s
  · intro h; exact absurd rfl h
  · intro t c ih _ ha hh
    rw [List.all_append] at ha
    simp only [Bool.and_eq_true, List.all_cons, List.all_nil, Bool.and_true] at ha
    have hc := dig_iff.1 ha.2
    unfold decVal at ih ⊢
    rw [decFrom_snoc]
    by_cases ht : t = []
    · subst ht
      rw [Lib.decDigits, dif_pos (by simp [decFrom]; omega)]
      have := ofNat_dig ha.2
      simpa [decFrom] using this
    · have hh' : t.head? ≠ some 48 := by
        rcases hh with hh | hh
        · simp at hh; exact absurd hh ht
        · cases t with
          | nil => exact absurd rfl ht
          | cons d t => simpa using hh
      have hp := decVal_pos t ht ha.1 hh'
      unfold decVal at hp
      rw [Lib.decDigits, dif_neg (by omega), show (decFrom 0 t * 10 + (c.toNat - 48)) / 10 = decFrom 0 t by omega, show (decFrom 0 t * 10 + (c.toNat - 48)) % 10 = c.toNat - 48 by omega, ih ht ha.1 (.inr hh'), ofNat_dig ha.2]

theorem itoa_num {s : List UInt8} (h : tokNum s = true) : Lib.itoa (decVal s : Int) = s := by
  obtain ⟨h1, h2, h3, h4, h5⟩ := tokNum_iff.1 h
  unfold Lib.itoa
  rw [if_neg (by omega), Int.toNat_natCast]
  exact digits_back s (by intro e; subst e; simp at h1) h3 h4

theorem dec_facts : ∀ (u : Nat), Lib.decDigits u ≠ [] ∧ (Lib.decDigits u).all isDig = true ∧ decVal (Lib.decDigits u) = u ∧ ((Lib.decDigits u).length = 1 ∨ (Lib.decDigits u).head? ≠ some 48) ∧ (1 ≤ u → (Lib.decDigits u).head? ≠ some 48) ∧ ∀ d, u < 10 ^ (d + 1) → (Lib.decDigits u).length ≤ d + 1 := by
  intro u
  induction u using Nat.strongRecOn with
  | _ u ih =>
    by_cases h : u < 10
    · rw [Lib.decDigits, dif_pos h]
      have hb := byte_dig u h
      refine ⟨by simp, ?_, ?_, .inl rfl, ?_, ?_⟩
      · simp only [List.all_cons, List.all_nil, Bool.and_true]; rw [dig_iff, hb]; omega
      · unfold decVal; rw [decFrom_cons, hb]; simp [decFrom]
      · intro h1 e
        simp only [List.head?_cons, Option.some.injEq] at e
        have : (UInt8.ofNat (48 + u)).toNat = 48 := by rw [e]; rfl
        omega
      · intro d _; simp
    · obtain ⟨i1, i2, i3, i4, i5, i6⟩ := ih (u / 10) (by omega)
      rw [Lib.decDigits, dif_neg h]
      have hb := byte_dig (u % 10) (by omega)
      have hd : (Lib.decDigits (u / 10) ++ [UInt8.ofNat (48 + u % 10)]).head? ≠ some 48 := by
        have := i5 (by omega)
        cases e : Lib.decDigits (u / 10) with
        | nil => exact absurd e i1
        | cons c t => rw [e] at this; simpa using this
      refine ⟨by simp, ?_, ?_, .inr hd, fun _ => hd, ?_⟩
      · rw [List.all_append, i2]
        simp only [List.all_cons, List.all_nil, Bool.and_true, Bool.true_and]; rw [dig_iff, hb]; omega
      · unfold decVal at i3 ⊢; rw [decFrom_snoc, i3, hb]; omega
      · intro d hd2
        cases d with
        | zero => simp at hd2; omega
        | succ d =>
          have := i6 d (by rw [Nat.pow_succ] at hd2; omega)
          simp; omega

theorem num_dec {u : Nat} (h : u ≤ 1000000) : tokNum (Lib.decDigits u) = true ∧ decVal (Lib.decDigits u) = u := by
  obtain ⟨i1, i2, i3, i4, i5, i6⟩ := dec_facts u
  refine ⟨tokNum_iff.2 ⟨?_, ?_, i2, i4, by omega⟩, i3⟩
  · cases e : Lib.decDigits u with
    | nil => exact absurd e i1
    | cons c t => simp
  · have := i6 6 (by omega); omega

/-- When strconv reads a number back. -/
theorem num_iff {s : List UInt8} {n : Int} (h : Lib.atoiAll s = .ok n) : (decide (0 ≤ n) && decide (n ≤ 1000000) && decide (Lib.itoa n = s)) = tokNum s := by
  rw [Bool.eq_iff_iff]
  simp only [Bool.and_eq_true, decide_eq_true_eq]
  constructor
  · rintro ⟨⟨h0, h1⟩, h2⟩
    obtain ⟨u, rfl⟩ := Int.eq_ofNat_of_zero_le h0
    unfold Lib.itoa at h2
    rw [if_neg (by omega), Int.toNat_natCast] at h2
    rw [← h2]; exact (num_dec (by omega)).1
  · intro ht
    rw [atoi_num ht] at h
    simp only [Lib.NumEnd.ok.injEq] at h
    subst h
    have := (tokNum_iff.1 ht).2.2.2.2
    exact ⟨⟨by omega, by omega⟩, itoa_num ht⟩
theorem num_bad {s : List UInt8} (h : ∀ n, Lib.atoiAll s ≠ .ok n) : tokNum s = false := by
  cases e : tokNum s
  · rfl
  · exact absurd (atoi_num e) (h _)
end Ilp

namespace Ilp

inductive Ex where
  | mk (k n : Int) (s : List UInt8) (kids : List Ex)

inductive Bop | add | sub | mul | lt
deriving DecidableEq
inductive Tm where
  | num (n : Nat)
  | name (s : List UInt8)
  | two (o : Bop) (a b : Tm)
  | cast (t : Bool) (a : Tm)
deriving DecidableEq

def wLet : List UInt8 := [108, 101, 116]
def wSay : List UInt8 := [115, 97, 121]
def wWhen : List UInt8 := [119, 104, 101, 110]
def wAs : List UInt8 := [97, 115]
def wPrint : List UInt8 := [112, 114, 105, 110, 116]
def wIf : List UInt8 := [105, 102]
def wInt : List UInt8 := [105, 110, 116]
def wBool : List UInt8 := [98, 111, 111, 108]
def ownWords : List (List UInt8) := [wLet, wSay, wWhen, wAs, wPrint, wIf, wInt, wBool]

def isType (s : List UInt8) : Bool := s == wInt || s == wBool
def isName (s : List UInt8) : Bool := tokWord s && !ownWords.contains s
def tyText (b : Bool) : List UInt8 := if b = true then wBool else wInt
def opText : Bop → List UInt8
  | .add => [43]
  | .sub => [45]
  | .mul => [42]
  | .lt => [60]
def opOf (s : List UInt8) : Option Bop := if s = [43] then some .add else if s = [45] then some .sub else if s = [42] then some .mul else if s = [60] then some .lt else none
def typeOf (s : List UInt8) : Option Bool := if s = wInt then some false else if s = wBool then some true else none
def lev : Bop → Nat
  | .add => 2
  | .sub => 2
  | .mul => 3
  | .lt => 1

def Tm.size : Tm → Nat
  | .num _ => 1
  | .name _ => 1
  | .two _ a b => 1 + a.size + b.size
  | .cast _ a => 1 + a.size
def Tm.depth : Tm → Nat
  | .num _ => 1
  | .name _ => 1
  | .two _ a b => 1 + max a.depth b.depth
  | .cast _ a => 1 + a.depth
def Tm.valid : Tm → Bool
  | .num n => decide (n ≤ 1000000)
  | .name s => isName s
  | .two _ a b => a.valid && b.valid
  | .cast _ a => a.valid
def Tm.toEx : Tm → Ex
  | .num n => .mk 1 n [] []
  | .name s => .mk 2 0 s []
  | .two o a b => .mk 3 0 (opText o) [a.toEx, b.toEx]
  | .cast t a => .mk 4 0 (tyText t) [a.toEx]

/-- What is reckoned, if it is as it must be and not deeper than so. -/
def ofEx : Nat → Ex → Option Tm
  | 0, _ => none
  | d + 1, .mk k n s ks =>
    if k = 1 then (if 0 ≤ n ∧ n ≤ 1000000 ∧ s = [] then (match ks with | [] => some (.num n.toNat) | _ => none) else none)
    else if k = 2 then (if n = 0 ∧ isName s = true then (match ks with | [] => some (.name s) | _ => none) else none)
    else if k = 3 then (if n = 0 then (match opOf s, ks with
      | some o, [a, b] => (match ofEx d a, ofEx d b with
        | some x, some y => some (.two o x y)
        | _, _ => none)
      | _, _ => none) else none)
    else if k = 4 then (if n = 0 then (match typeOf s, ks with
      | some t, [a] => (match ofEx d a with
        | some x => some (.cast t x)
        | none => none)
      | _, _ => none) else none)
    else none

theorem opOf_text (o : Bop) : opOf (opText o) = some o := by cases o <;> rfl
theorem opOf_some {s : List UInt8} {o : Bop} (h : opOf s = some o) : s = opText o := by
  unfold opOf at h
  split at h; · rename_i e; injection h with h; subst h; exact e
  split at h; · rename_i e; injection h with h; subst h; exact e
  split at h; · rename_i e; injection h with h; subst h; exact e
  split at h; · rename_i e; injection h with h; subst h; exact e
  cases h
theorem typeOf_text (t : Bool) : typeOf (tyText t) = some t := by cases t <;> rfl
theorem typeOf_some {s : List UInt8} {t : Bool} (h : typeOf s = some t) : s = tyText t := by
  unfold typeOf at h
  split at h; · rename_i e; injection h with h; subst h; exact e
  split at h; · rename_i e; injection h with h; subst h; exact e
  cases h
theorem typeOf_isType (s : List UInt8) : (typeOf s).isSome = isType s := by
  unfold typeOf isType
  by_cases h : s = wInt
  · simp [h]
  · by_cases h2 : s = wBool
    · subst h2; decide
    · simp [h, h2]

theorem ofEx_some : ∀ (d : Nat) (e : Ex) (t : Tm), ofEx d e = some t → t.toEx = e ∧ t.depth ≤ d ∧ t.valid = true := by
  intro d
  induction d with
  | zero => intro e t h; simp [ofEx] at h
  | succ d ih =>
    intro e t h
    obtain ⟨k, n, s, ks⟩ := e
    unfold ofEx at h
    split at h
    · rename_i hk
      split at h
      · rename_i hn
        split at h
        · injection h with h; subst h; subst hk; obtain ⟨h1, h2, h3⟩ := hn; subst h3
          refine ⟨?_, by simp [Tm.depth], by simp [Tm.valid]; omega⟩
          simp [Tm.toEx, Int.toNat_of_nonneg h1]
        · cases h
      · cases h
    split at h
    · rename_i hk
      split at h
      · rename_i hn
        split at h
        · injection h with h; subst h; subst hk; obtain ⟨h1, h2⟩ := hn; subst h1
          exact ⟨rfl, by simp [Tm.depth], h2⟩
        · cases h
      · cases h
    split at h
    · rename_i hk
      split at h
      · rename_i hn
        split at h
        · rename_i o a b ho
          split at h
          · rename_i x y hx hy
            injection h with h; subst h; subst hk; subst hn
            have h1 := ih _ _ hx
            have h2 := ih _ _ hy
            refine ⟨by simp [Tm.toEx, h1.1, h2.1, opOf_some ho], by simp [Tm.depth]; omega, by simp [Tm.valid, h1.2.2, h2.2.2]⟩
          · cases h
        · cases h
      · cases h
    split at h
    · rename_i hk
      split at h
      · rename_i hn
        split at h
        · rename_i t' a ht
          split at h
          · rename_i x hx
            injection h with h; subst h; subst hk; subst hn
            have h1 := ih _ _ hx
            refine ⟨by simp [Tm.toEx, h1.1, typeOf_some ht], by simp [Tm.depth]; omega, by simp [Tm.valid, h1.2.2]⟩
          · cases h
        · cases h
      · cases h
    cases h

theorem ofEx_toEx : ∀ (t : Tm) (d : Nat), t.depth ≤ d → t.valid = true → ofEx d t.toEx = some t := by
  intro t
  induction t with
  | num n => intro d h v; cases d with
    | zero => simp [Tm.depth] at h
    | succ d => simp [Tm.valid] at v; simp [Tm.toEx, ofEx]; omega
  | name s => intro d h v; cases d with
    | zero => simp [Tm.depth] at h
    | succ d => simp [Tm.valid] at v; simp [Tm.toEx, ofEx, v]
  | two o a b iha ihb => intro d h v; cases d with
    | zero => simp [Tm.depth] at h
    | succ d =>
      simp [Tm.valid] at v; simp [Tm.depth] at h
      simp [Tm.toEx, ofEx, opOf_text, iha d (by omega) v.1, ihb d (by omega) v.2]
  | cast t a iha => intro d h v; cases d with
    | zero => simp [Tm.depth] at h
    | succ d =>
      simp [Tm.valid] at v; simp [Tm.depth] at h
      simp [Tm.toEx, ofEx, typeOf_text, iha d (by omega) v]

def exTm (e : Ex) : Option Tm := match ofEx 5 e with
  | some t => if t.size ≤ 12 then some t else none
  | none => none
def exprOk (e : Ex) : Bool := (exTm e).isSome

/-- The words of a number in decimals. -/
def dec (n : Nat) : List UInt8 := if h : n < 10 then [UInt8.ofNat (48 + n)] else dec (n / 10) ++ [UInt8.ofNat (48 + n % 10)]
termination_by n
decreasing_by omega

def brk (b : Bool) (l : List (List UInt8)) : List (List UInt8) := if b = true then [40] :: l ++ [[41]] else l
def Tm.words : Nat → Tm → List (List UInt8)
  | _, .num n => [dec n]
  | _, .name s => [s]
  | m, .two o a b => brk (decide (lev o < m)) (a.words (max 2 (lev o)) ++ opText o :: b.words (lev o + 1))
  | _, .cast t a => a.words 4 ++ [wAs, tyText t]

def clamp (n : Int) : Int := max (-1000000) (min 1000000 n)

def lastAt (names : List (List UInt8)) (s : List UInt8) : Option Nat := match names.reverse.findIdx? (· == s) with
  | none => none
  | some i => some (names.length - 1 - i)

def Tm.of (names : List (List UInt8)) (nums : List Int) : Tm → Option Int
  | .num n => some n
  | .name s => match lastAt names s with
    | none => none
    | some i => some (clamp (nums.getD i 0))
  | .cast _ a => a.of names nums
  | .two o a b => match a.of names nums, b.of names nums with
    | some x, some y => some (match o with
      | .add => clamp (x + y)
      | .sub => clamp (x - y)
      | .mul => clamp (x * y)
      | .lt => if x < y then 1 else 0)
    | _, _ => none

def Tm.type (names types : List (List UInt8)) : Tm → List UInt8
  | .num _ => wInt
  | .name s => match lastAt names s with
    | none => []
    | some i => types.getD i []
  | .cast t a => if a.type names types = [] then [] else tyText t
  | .two o a b => if a.type names types = wInt ∧ b.type names types = wInt then (if o = .lt then wBool else wInt) else []

end Ilp

namespace Ilp

theorem opText_inj {o p : Bop} (h : opText o = opText p) : o = p := by cases o <;> cases p <;> first | rfl | (exfalso; revert h; decide)
theorem lev_pos (o : Bop) : 1 ≤ lev o ∧ lev o ≤ 3 := by cases o <;> decide

/-! ### The kinds of words -/
theorem dec_digits : ∀ (n : Nat), (∀ c ∈ dec n, isDig c = true) ∧ dec n ≠ [] := by
  intro n
  induction n using Nat.strongRecOn with
  | ind n ih =>
    have hd : ∀ k, k < 10 → isDig (UInt8.ofNat (48 + k)) = true := by decide
    rw [dec]
    split
    · rename_i h
      refine ⟨?_, by simp⟩
      intro c hc; rw [List.mem_singleton] at hc; subst hc; exact hd n h
    · rename_i h
      have := ih (n / 10) (by omega)
      refine ⟨?_, by simp⟩
      intro c hc
      rcases List.mem_append.1 hc with hc | hc
      · exact this.1 c hc
      · rw [List.mem_singleton] at hc; subst hc; exact hd _ (by omega)

theorem name_letters {s : List UInt8} (h : isName s = true) : (∀ c ∈ s, isLet c = true) ∧ s ≠ [] ∧ s ∉ ownWords := by
  simp only [isName, tokWord, Bool.and_eq_true, decide_eq_true_eq, List.all_eq_true, Bool.not_eq_true', List.contains_eq_mem, decide_eq_false_iff_not] at h
  refine ⟨h.1.2, ?_, h.2⟩
  intro e; subst e; simp at h

theorem dec_ne_letters {n : Nat} {s : List UInt8} (h : ∀ c ∈ s, isLet c = true) : dec n ≠ s := by
  intro e
  have h1 := (dec_digits n)
  cases hd : dec n with
  | nil => exact h1.2 hd
  | cons c t =>
    have a := h1.1 c (by rw [hd]; simp)
    have b := h c (by rw [← e, hd]; simp)
    rw [let_not_dig b] at a; cases a

theorem ty_letters (t : Bool) : (∀ c ∈ tyText t, isLet c = true) ∧ tyText t ∈ ownWords := by cases t <;> decide
theorem dec_ne_mark {n : Nat} {c : UInt8} (h : isDig c = false) : dec n ≠ [c] := by
  intro e
  have := (dec_digits n).1 c (by rw [e]; simp)
  rw [h] at this; cases this

theorem dec_last (n : Nat) : ∃ l, dec n = l ++ [UInt8.ofNat (48 + n % 10)] ∧ (10 ≤ n → l = dec (n / 10)) ∧ (n < 10 → l = []) := by
  by_cases h : n < 10
  · refine ⟨[], ?_, fun _ => by omega, fun _ => rfl⟩
    rw [dec, dif_pos h, Nat.mod_eq_of_lt h]; rfl
  · exact ⟨dec (n / 10), by rw [dec, dif_neg h], fun _ => rfl, fun _ => absurd ‹_› h⟩

theorem dec_inj : ∀ (n m : Nat), dec n = dec m → n = m := by
  intro n
  induction n using Nat.strongRecOn with
  | ind n ih =>
    intro m h
    obtain ⟨l, hl, h1, h2⟩ := dec_last n
    obtain ⟨k, hk, h3, h4⟩ := dec_last m
    rw [hl, hk] at h
    obtain ⟨e1, e2⟩ := List.append_inj' h rfl
    injection e2 with e2 _
    have e3 : ∀ a, a < 10 → ∀ b, b < 10 → UInt8.ofNat (48 + a) = UInt8.ofNat (48 + b) → a = b := by decide
    have e4 := e3 (n % 10) (by omega) (m % 10) (by omega) e2
    by_cases hn : n < 10
    · by_cases hm : m < 10
      · omega
      · rw [h2 hn, h3 (by omega)] at e1
        exact absurd e1.symm (dec_digits _).2
    · by_cases hm : m < 10
      · rw [h4 hm, h1 (by omega)] at e1
        exact absurd e1 (dec_digits _).2
      · rw [h1 (by omega), h3 (by omega)] at e1
        have := ih (n / 10) (by omega) (m / 10) e1
        omega

/-! ### The words tell what is reckoned -/
def stop (k : Nat) (l : List (List UInt8)) : Prop := l = [] ∨ (∃ l', l = l' ++ [[40]]) ∨ ∃ l' o, l = l' ++ [opText o] ∧ lev o < k
theorem stop_mono {k k' : Nat} {l} (h : stop k l) (hk : k ≤ k') : stop k' l := by
  rcases h with h | h | ⟨l', o, h, ho⟩
  · exact .inl h
  · exact .inr (.inl h)
  · exact .inr (.inr ⟨l', o, h, by omega⟩)
theorem stop_op {k : Nat} {l : List (List UInt8)} {o : Bop} (h : stop k (l ++ [opText o])) : lev o < k := by
  rcases h with h | ⟨l', h⟩ | ⟨l', p, h, hp⟩
  · simp at h
  · obtain ⟨_, h⟩ := List.append_inj' h rfl
    injection h with h _
    exfalso; revert h; cases o <;> decide
  · obtain ⟨_, h⟩ := List.append_inj' h rfl
    injection h with h _
    rw [opText_inj h]; exact hp

/-- How tight it holds. -/
def Tm.level : Tm → Nat
  | .two o _ _ => lev o
  | _ => 4
def mu (k : Nat) (a : Tm) : Nat := 2 * a.size + if a.level < k then 1 else 0

theorem words_free {k : Nat} {a : Tm} {o : Bop} {x y : Tm} (e : a = .two o x y) (h : k ≤ lev o) : a.words k = x.words (max 2 (lev o)) ++ opText o :: y.words (lev o + 1) := by
  subst e; simp [Tm.words, brk]; intro h'; omega
theorem words_brk {k : Nat} {a : Tm} (h : a.level < k) (hk : k ≤ 4) : a.words k = [40] :: (a.words 1 ++ [[41]]) := by
  cases a with
  | two o x y =>
    simp only [Tm.level] at h
    have := lev_pos o
    have e1 : decide (lev o < k) = true := by simpa using h
    have e2 : decide (lev o < 1) = false := decide_eq_false (by omega)
    simp only [Tm.words, brk, e1, e2, if_true, Bool.false_eq_true, if_false, List.cons_append]
  | _ => simp only [Tm.level] at h; omega
theorem words_same {k k' : Nat} {a : Tm} (h : (a.level < k ↔ a.level < k')) : a.words k = a.words k' := by
  cases a with
  | two o x y =>
    simp only [Tm.level] at h
    simp only [Tm.words]
    rw [decide_eq_decide.2 h]
  | _ => simp [Tm.words]

theorem size_pos (a : Tm) : 1 ≤ a.size := by cases a <;> simp [Tm.size] <;> omega

/-- The last word of what holds tightest. -/
theorem words_last {k : Nat} {a : Tm} (hv : a.valid = true) (hk : k ≤ 4) (h : a.level < k ∨ a.level = 4) :
    ∃ l w, a.words k = l ++ [w] ∧
      ((∃ n, a = .num n ∧ l = [] ∧ w = dec n) ∨ (∃ s, a = .name s ∧ l = [] ∧ w = s ∧ isName s = true) ∨ (∃ t x, a = .cast t x ∧ l = x.words 4 ++ [wAs] ∧ w = tyText t) ∨
        (a.level < k ∧ l = [40] :: a.words 1 ∧ w = [41])) := by
  cases a with
  | num n => exact ⟨[], _, rfl, .inl ⟨n, rfl, rfl, rfl⟩⟩
  | name s => exact ⟨[], _, rfl, .inr (.inl ⟨s, rfl, rfl, rfl, hv⟩)⟩
  | cast t x => exact ⟨_, _, by simp [Tm.words], .inr (.inr (.inl ⟨t, x, rfl, rfl, rfl⟩))⟩
  | two o x y =>
    have hlt : Tm.level (.two o x y) < k := by
      rcases h with h | h
      · exact h
      · have := lev_pos o; simp only [Tm.level] at h; omega
    exact ⟨_, _, words_brk hlt hk, .inr (.inr (.inr ⟨hlt, rfl, rfl⟩))⟩

theorem words_inj_aux : ∀ (N : Nat) (a b : Tm) (k : Nat) (l l' : List (List UInt8)), mu k a + mu k b ≤ N → a.valid = true → b.valid = true → 1 ≤ k → k ≤ 4 → stop k l → stop k l' →
    l ++ a.words k = l' ++ b.words k → l = l' ∧ a = b := by
  intro N
  induction N with
  | zero => intro a b k l l' h; have := size_pos a; simp only [mu] at h; omega
  | succ N ih =>
    -- a holds less tight than b
    have low : ∀ (a b : Tm) (k : Nat) (l l' : List (List UInt8)) (o : Bop) (x y : Tm), a = .two o x y → k ≤ lev o → (b.level < k ∨ lev o < b.level) → mu k a + mu k b ≤ N + 1 → a.valid = true → b.valid = true → 1 ≤ k → k ≤ 4 → stop k l → stop k l' →
        l ++ a.words k = l' ++ b.words k → False := by
      intro a b k l l' o x y e ho hb hN va vb h1 h4 s s' he
      have hp := lev_pos o
      rw [words_free e ho, words_same (k := k) (k' := lev o + 1) (a := b) (by omega)] at he
      have he' : (l ++ x.words (max 2 (lev o)) ++ [opText o]) ++ y.words (lev o + 1) = l' ++ b.words (lev o + 1) := by rw [← he]; simp
      subst e
      simp only [Tm.valid, Bool.and_eq_true] at va
      have hx := size_pos x
      have hm : mu (lev o + 1) b = mu k b := by
        unfold mu
        rcases hb with hb | hb
        · rw [if_pos (by omega), if_pos hb]
        · rw [if_neg (by omega), if_neg (by omega)]
      have := ih y b (lev o + 1) _ _ (by rw [hm]; simp only [mu, Tm.size] at hN ⊢; split at hN <;> split <;> omega) va.2 vb (by omega) (by omega)
        (.inr (.inr ⟨_, o, rfl, by omega⟩)) (stop_mono s' (by omega)) he'
      rw [← this.1] at s'
      have := stop_op s'
      omega
    intro a b k l l' hN va vb h1 h4 s s' he
    by_cases ha : ∃ o x y, a = .two o x y ∧ k ≤ lev o
    · obtain ⟨o, x, y, e, ho⟩ := ha
      by_cases hb : ∃ p x' y', b = .two p x' y' ∧ k ≤ lev p
      · obtain ⟨p, x', y', e', hp⟩ := hb
        have q1 := lev_pos o
        by_cases hj : lev o = lev p
        · rw [words_free e ho, words_free e' hp] at he
          have he' : (l ++ x.words (max 2 (lev o)) ++ [opText o]) ++ y.words (lev o + 1) = (l' ++ x'.words (max 2 (lev o)) ++ [opText p]) ++ y'.words (lev o + 1) := by
            rw [hj] at he ⊢; simpa using he
          subst e; subst e'
          simp only [Tm.valid, Bool.and_eq_true] at va vb
          have hx := size_pos x
          have hx' := size_pos x'
          have r := ih y y' (lev o + 1) _ _ (by simp only [mu, Tm.size] at hN ⊢; split at hN <;> split <;> split at hN <;> split <;> omega) va.2 vb.2 (by omega) (by omega)
            (.inr (.inr ⟨_, o, rfl, by omega⟩)) (.inr (.inr ⟨_, p, rfl, by omega⟩)) he'
          obtain ⟨r1, r2⟩ := r
          obtain ⟨r3, r4⟩ := List.append_inj' r1 rfl
          injection r4 with r4 _
          have hop := opText_inj r4
          have r := ih x x' (max 2 (lev o)) _ _ (by simp only [mu, Tm.size] at hN ⊢; split at hN <;> split <;> split at hN <;> split <;> omega) va.1 vb.1 (by omega) (by omega)
            (stop_mono s (by omega)) (stop_mono s' (by omega)) r3
          exact ⟨r.1, by rw [hop, r.2, r2]⟩
        · exfalso
          by_cases hlt : lev o < lev p
          · exact low a b k l l' o x y e ho (.inr (by subst e'; exact hlt)) hN va vb h1 h4 s s' he
          · exact low b a k l' l p x' y' e' hp (.inr (by subst e; simp only [Tm.level]; omega)) (by omega) vb va h1 h4 s' s he.symm
      · exfalso
        have q1 := lev_pos o
        refine low a b k l l' o x y e ho ?_ hN va vb h1 h4 s s' he
        cases b with
        | two p x' y' =>
          left; simp only [Tm.level]
          rcases Nat.lt_or_ge (lev p) k with h | h
          · exact h
          · exact absurd ⟨p, x', y', rfl, h⟩ hb
        | _ => right; simp only [Tm.level]; omega
    · by_cases hb : ∃ p x' y', b = .two p x' y' ∧ k ≤ lev p
      · exfalso
        obtain ⟨p, x', y', e', hp⟩ := hb
        have q1 := lev_pos p
        refine low b a k l' l p x' y' e' hp ?_ (by omega) vb va h1 h4 s' s he.symm
        cases a with
        | two o x y =>
          left; simp only [Tm.level]
          rcases Nat.lt_or_ge (lev o) k with h | h
          · exact h
          · exact absurd ⟨o, x, y, rfl, h⟩ ha
        | _ => right; simp only [Tm.level]; omega
      · have la : a.level < k ∨ a.level = 4 := by
          cases a with
          | two o x y =>
            left; simp only [Tm.level]
            rcases Nat.lt_or_ge (lev o) k with h | h
            · exact h
            · exact absurd ⟨o, x, y, rfl, h⟩ ha
          | _ => right; rfl
        have lb : b.level < k ∨ b.level = 4 := by
          cases b with
          | two o x y =>
            left; simp only [Tm.level]
            rcases Nat.lt_or_ge (lev o) k with h | h
            · exact h
            · exact absurd ⟨o, x, y, rfl, h⟩ hb
          | _ => right; rfl
        obtain ⟨p, w, e1, ca⟩ := words_last va h4 la
        obtain ⟨p', w', e2, cb⟩ := words_last vb h4 lb
        rw [e1, e2, ← List.append_assoc, ← List.append_assoc] at he
        obtain ⟨hq, hw⟩ := List.append_inj' he rfl
        clear he
        injection hw with hw _
        rcases ca with ⟨n, rfl, rfl, rfl⟩ | ⟨t, rfl, rfl, rfl, hn⟩ | ⟨t, x, rfl, rfl, rfl⟩ | ⟨hl, rfl, rfl⟩ <;>
        rcases cb with ⟨m, rfl, rfl, rfl⟩ | ⟨t', rfl, rfl, rfl, hn'⟩ | ⟨t', x', rfl, rfl, rfl⟩ | ⟨hl', rfl, rfl⟩
        · exact ⟨by simpa using hq, by rw [dec_inj _ _ hw]⟩
        · exact absurd hw (dec_ne_letters (name_letters hn').1)
        · exact absurd hw (dec_ne_letters (ty_letters t').1)
        · exact absurd hw (dec_ne_mark (by decide))
        · exact absurd hw.symm (dec_ne_letters (name_letters hn).1)
        · exact ⟨by simpa using hq, by rw [hw]⟩
        · exact absurd (hw ▸ (ty_letters t').2) (name_letters hn).2.2
        · have := (name_letters hn).1 41 (by rw [hw]; simp); exact absurd this (by decide)
        · exact absurd hw.symm (dec_ne_letters (ty_letters t).1)
        · exact absurd (hw ▸ (ty_letters t).2) (name_letters hn').2.2
        · have ht : t = t' := by revert hw; cases t <;> cases t' <;> decide
          have he := List.append_cancel_right (by simpa using hq : (l ++ x.words 4) ++ [wAs] = (l' ++ x'.words 4) ++ [wAs])
          have r := ih x x' 4 _ _ (by simp only [mu, Tm.size] at hN ⊢; split at hN <;> split <;> split at hN <;> split <;> omega) va vb (by omega) (by omega)
            (stop_mono s h4) (stop_mono s' h4) he
          exact ⟨r.1, by rw [ht, r.2]⟩
        · exfalso; revert hw; cases t <;> decide
        · exact absurd hw.symm (dec_ne_mark (by decide))
        · have := (name_letters hn').1 41 (by rw [← hw]; simp); exact absurd this (by decide)
        · exfalso; revert hw; cases t' <;> decide
        · have he' : (l ++ [[40]]) ++ a.words 1 = (l' ++ [[40]]) ++ b.words 1 := by simpa using hq
          have q : ∀ c : Tm, 1 ≤ c.level := by intro c; cases c <;> simp [Tm.level]; rename_i o _ _; exact (lev_pos o).1
          have qa := q a
          have qb := q b
          have r := ih a b 1 _ _ (by simp only [mu] at hN ⊢; rw [if_pos hl, if_pos hl'] at hN; rw [if_neg (by omega), if_neg (by omega)]; omega) va vb (by omega) (by omega)
            (.inr (.inl ⟨l, rfl⟩)) (.inr (.inl ⟨l', rfl⟩)) he'
          exact ⟨(List.append_inj' r.1 rfl).1, r.2⟩

theorem words_inj {a b : Tm} (va : a.valid = true) (vb : b.valid = true) (h : a.words 1 = b.words 1) : a = b :=
  (words_inj_aux _ a b 1 [] [] (Nat.le_refl _) va vb (by omega) (by omega) (.inl rfl) (.inl rfl) (by simpa using h)).2

/-! ### Brackets -/
def net : List (List UInt8) → Int
  | [] => 0
  | w :: r => (if w = [40] then 1 else if w = [41] then -1 else 0) + net r
theorem net_app (a b : List (List UInt8)) : net (a ++ b) = net a + net b := by
  induction a with
  | nil => simp [net]
  | cons w r ih => simp only [List.cons_append, net, ih]; omega
/-- No more closed than open, and in the end as many. -/
def even (l : List (List UInt8)) : Prop := net l = 0 ∧ ∀ p r, l = p ++ r → 0 ≤ net p
theorem even_app {a b : List (List UInt8)} (ha : even a) (hb : even b) : even (a ++ b) := by
  refine ⟨by rw [net_app, ha.1, hb.1]; rfl, ?_⟩
  intro p r h
  rcases List.append_eq_append_iff.1 h with ⟨c, h1, h2⟩ | ⟨c, h1, h2⟩
  · rw [h1, net_app, ha.1]; have := hb.2 c r h2; omega
  · exact ha.2 p c h1
theorem even_one {w : List UInt8} (h1 : w ≠ [40]) (h2 : w ≠ [41]) : even [w] := by
  have : net [w] = 0 := by simp [net, h1, h2]
  refine ⟨this, ?_⟩
  intro p r h
  cases p with
  | nil => simp [net]
  | cons x p => simp at h; obtain ⟨rfl, h3, _⟩ := h; subst h3; rw [this]; omega
theorem even_brk {a : List (List UInt8)} (ha : even a) : even ([40] :: (a ++ [[41]])) := by
  refine ⟨by rw [net, net_app, ha.1]; simp [net], ?_⟩
  intro p r h
  cases p with
  | nil => simp [net]
  | cons x p =>
    simp at h; obtain ⟨rfl, h⟩ := h
    rw [net, if_pos rfl]
    rcases List.append_eq_append_iff.1 h with ⟨c, h1, h2⟩ | ⟨c, h1, h2⟩
    · rw [h1, net_app, ha.1]
      cases c with
      | nil => simp [net]
      | cons y c => simp at h2; obtain ⟨rfl, h3, _⟩ := h2; subst h3; simp [net]
    · have := ha.2 p c h1; omega
theorem dec_plain (n : Nat) : dec n ≠ [40] ∧ dec n ≠ [41] := ⟨dec_ne_mark (by decide), dec_ne_mark (by decide)⟩
theorem name_plain {s : List UInt8} (h : isName s = true) : s ≠ [40] ∧ s ≠ [41] := by
  constructor <;> (intro e; subst e; revert h; decide)
theorem words_even : ∀ (a : Tm) (k : Nat), a.valid = true → even (a.words k) := by
  intro a
  induction a with
  | num n => intro k _; exact even_one (dec_plain n).1 (dec_plain n).2
  | name s => intro k v; exact even_one (name_plain v).1 (name_plain v).2
  | two o x y ihx ihy =>
    intro k v
    simp only [Tm.valid, Bool.and_eq_true] at v
    have h : even (x.words (max 2 (lev o)) ++ opText o :: y.words (lev o + 1)) := by
      rw [show opText o :: y.words (lev o + 1) = [opText o] ++ y.words (lev o + 1) from rfl]
      exact even_app (ihx _ v.1) (even_app (even_one (by cases o <;> decide) (by cases o <;> decide)) (ihy _ v.2))
    simp only [Tm.words, brk]
    split
    · simpa using even_brk h
    · exact h
  | cast t x ihx =>
    intro k v
    rw [Tm.words, show [wAs, tyText t] = [wAs] ++ [tyText t] from rfl]
    exact even_app (ihx _ v) (even_app (even_one (by decide) (by decide)) (even_one (by cases t <;> decide) (by cases t <;> decide)))
theorem words_ne : ∀ (a : Tm) (k : Nat), a.words k ≠ [] := by
  intro a k; cases a <;> simp [Tm.words, brk]
  split <;> simp

/-- With brackets around them words are none. -/
theorem words_bracketed {a b : Tm} (va : a.valid = true) (vb : b.valid = true) : b.words 1 ≠ [40] :: (a.words 1 ++ [[41]]) := by
  intro h
  have ea := words_even a 1 va
  cases b with
  | num n =>
    have := congrArg List.length h
    have hp : 1 ≤ (a.words 1).length := by have := words_ne a 1; cases e : a.words 1 <;> simp_all
    simp [Tm.words] at this
  | name s => have := congrArg List.length h; simp [Tm.words] at this
  | cast t x =>
    have h' : (x.words 4 ++ [wAs]) ++ [tyText t] = ([40] :: a.words 1) ++ [[41]] := by simpa [Tm.words] using h
    obtain ⟨_, h'⟩ := List.append_inj' h' rfl
    injection h' with h' _
    revert h'; cases t <;> decide
  | two o x y =>
    simp only [Tm.valid, Bool.and_eq_true] at vb
    have hp := lev_pos o
    rw [words_free rfl hp.1] at h
    have ex := words_even x (max 2 (lev o)) vb.1
    have hx := words_ne x (max 2 (lev o))
    have hy := words_ne y (lev o + 1)
    -- the words of x are a beginning of the bracketed ones: there the bracket is still open
    cases hxw : x.words (max 2 (lev o)) with
    | nil => exact hx hxw
    | cons w p =>
      rw [hxw] at h ex
      simp only [List.cons_append] at h
      injection h with h1 h2
      subst h1
      have e0 := ex.1
      rw [net, if_pos rfl] at e0
      rcases List.append_eq_append_iff.1 h2 with ⟨c, h3, h4⟩ | ⟨c, h3, h4⟩
      · have := ea.2 p c h3; omega
      · rw [h3, net_app, ea.1] at e0
        cases c with
        | nil => simp [net] at e0
        | cons z c =>
          simp at h4
/-- With one bracket more behind them words are none. -/
theorem words_closed {a b : Tm} (va : a.valid = true) (vb : b.valid = true) : b.words 1 ≠ a.words 1 ++ [[41]] := by
  intro h
  have ea := (words_even a 1 va).1
  have eb := (words_even b 1 vb).1
  rw [h, net_app, ea] at eb
  simp [net] at eb
end Ilp

namespace Ilp

def sOf (o : Option Tm) (p : Nat) : Bool := match o with
  | some t => decide (p + t.size ≤ 12)
  | none => false

/-- The program's own walk over the parts: how many more levels may lie below, how many parts were counted. -/
def wk : Nat → Nat → Ex → Bool × Nat
  | 0, p, _ => (false, p + 1)
  | d + 1, p, .mk k n s ks => if 12 < p + 1 then (false, p + 1) else
    if k = 1 then (decide (0 ≤ n ∧ n ≤ 1000000 ∧ s = [] ∧ ks.length = 0), p + 1)
    else if k = 2 then (decide (n = 0 ∧ isName s = true ∧ ks.length = 0), p + 1)
    else if k = 3 then (if n = 0 ∧ (opOf s).isSome = true then (match ks with
      | [a, b] => if (wk d (p + 1) a).1 = true then wk d (wk d (p + 1) a).2 b else (false, (wk d (p + 1) a).2)
      | _ => (false, p + 1)) else (false, p + 1))
    else if k = 4 then (if n = 0 ∧ isType s = true then (match ks with
      | [a] => wk d (p + 1) a
      | _ => (false, p + 1)) else (false, p + 1))
    else (false, p + 1)

theorem wk_ofEx : ∀ (d p : Nat) (e : Ex), p ≤ 12 → (wk d p e).1 = sOf (ofEx d e) p ∧ (wk d p e).2 ≤ 13 ∧ p ≤ (wk d p e).2 ∧ ∀ t, ofEx d e = some t → (wk d p e).1 = true → (wk d p e).2 = p + t.size := by
  intro d
  induction d with
  | zero => intro p e h; refine ⟨rfl, by simp only [wk]; omega, by simp only [wk]; omega, fun t ht => ?_⟩; simp [ofEx] at ht
  | succ d ih =>
    intro p e h
    obtain ⟨k, n, s, ks⟩ := e
    have hs : ∀ t : Tm, 1 ≤ t.size := size_pos
    by_cases hp : 12 < p + 1
    · have e1 : wk (d + 1) p (.mk k n s ks) = (false, p + 1) := by simp only [wk]; rw [if_pos hp]
      rw [e1]
      refine ⟨?_, by simp only; omega, by simp only; omega, fun t ht he => by cases he⟩
      unfold sOf
      cases ofEx (d + 1) (.mk k n s ks) with
      | none => rfl
      | some t => have := hs t; simp; omega
    · simp only [wk, ofEx]
      rw [if_neg hp]
      by_cases h1 : k = 1
      · simp only [if_pos h1]
        cases ks with
        | nil =>
          by_cases hn : 0 ≤ n ∧ n ≤ 1000000 ∧ s = []
          · simp [hn, sOf, Tm.size]; omega
          · rw [if_neg hn]; simp [sOf]; refine ⟨fun a b c => hn ⟨a, b, c⟩, by omega⟩
        | cons a r => split <;> simp [sOf] <;> omega
      · simp only [if_neg h1]
        by_cases h2 : k = 2
        · simp only [if_pos h2]
          cases ks with
          | nil =>
            by_cases hn : n = 0 ∧ isName s = true
            · simp [hn, sOf, Tm.size]; omega
            · rw [if_neg hn]; simp [sOf]; refine ⟨fun a => by simpa using fun b => hn ⟨a, b⟩, by omega⟩
          | cons a r => split <;> simp [sOf] <;> omega
        · simp only [if_neg h2]
          by_cases h3 : k = 3
          · simp only [if_pos h3]
            by_cases hn : n = 0
            · simp only [hn, true_and, if_true]
              cases ho : opOf s with
              | none => simp [sOf]; omega
              | some o =>
                simp only [Option.isSome_some, if_true]
                match ks with
                | [] => simp [sOf]; omega
                | [a] => simp [sOf]; omega
                | [a, b] =>
                  have ia := ih (p + 1) a (by omega)
                  simp only []
                  by_cases ha : (wk d (p + 1) a).1 = true
                  · rw [if_pos ha]
                    rw [ha] at ia
                    cases ea : ofEx d a with
                    | none => rw [ea] at ia; simp [sOf] at ia
                    | some x =>
                      have e2 := ia.2.2.2 x ea rfl
                      have e1 := ia.1
                      rw [ea] at e1; simp [sOf] at e1
                      rw [e2]
                      have ib := ih (p + 1 + x.size) b (by omega)
                      cases eb : ofEx d b with
                      | none => rw [eb] at ib; simp only [sOf] at ib ⊢; refine ⟨ib.1, ib.2.1, by omega, fun t ht => by cases ht⟩
                      | some y =>
                        rw [eb] at ib; simp only [sOf] at ib ⊢
                        refine ⟨?_, ib.2.1, by omega, ?_⟩
                        · rw [ib.1]; simp only [Tm.size]; apply decide_eq_decide.2; omega
                        · intro t ht hw; injection ht with ht; subst ht
                          rw [ib.2.2.2 y rfl hw]; simp only [Tm.size]; omega
                  · rw [if_neg ha]
                    have hf : (wk d (p + 1) a).1 = false := by simpa using ha
                    rw [hf] at ia
                    refine ⟨?_, ia.2.1, by simp only; omega, fun t ht hw => by cases hw⟩
                    cases ea : ofEx d a with
                    | none => rfl
                    | some x =>
                      cases eb : ofEx d b with
                      | none => rfl
                      | some y => have := hs y; simp only [sOf, Tm.size]; symm; apply decide_eq_false; have e1 := ia.1; rw [ea] at e1; simp only [sOf] at e1; have := of_decide_eq_false e1.symm; omega
                | a :: b :: c :: r => simp [sOf]; omega
            · simp only [hn, false_and, if_false]
              simp [sOf]; omega
          · simp only [if_neg h3]
            by_cases h4 : k = 4
            · simp only [if_pos h4]
              by_cases hn : n = 0
              · simp only [hn, true_and, if_true]
                have ht := typeOf_isType s
                cases ho : typeOf s with
                | none => rw [ho] at ht; simp only [Option.isSome_none] at ht; rw [← ht]; simp [sOf]; omega
                | some o =>
                  rw [ho] at ht; simp only [Option.isSome_some] at ht
                  rw [if_pos ht.symm]
                  match ks with
                  | [] => simp [sOf]; omega
                  | [a] =>
                    have ia := ih (p + 1) a (by omega)
                    simp only []
                    cases ea : ofEx d a with
                    | none => rw [ea] at ia; simp only [sOf] at ia ⊢; exact ⟨ia.1, ia.2.1, by omega, fun t ht => by cases ht⟩
                    | some x =>
                      rw [ea] at ia; simp only [sOf] at ia ⊢
                      refine ⟨?_, ia.2.1, by omega, ?_⟩
                      · rw [ia.1]; simp only [Tm.size]; apply decide_eq_decide.2; omega
                      · intro t ht hw; injection ht with ht; subst ht
                        rw [ia.2.2.2 x rfl hw]; simp only [Tm.size]; omega
                  | a :: b :: r => simp [sOf]; omega
              · simp only [hn, false_and, if_false]
                simp [sOf]; omega
            · simp only [if_neg h4]
              simp [sOf]; omega

theorem wk_ok (e : Ex) : (wk 5 0 e).1 = exprOk e := by
  rw [(wk_ofEx 5 0 e (by omega)).1]
  unfold sOf exprOk exTm
  cases ofEx 5 e with
  | none => rfl
  | some t => simp only [Nat.zero_add]; split <;> simp_all
end Ilp
