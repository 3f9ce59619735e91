/- Plain laws of texts, lines and places: no program in sight. -/
namespace Ilp

def okFrom : Nat → List UInt8 → Bool
  | _, [] => true
  | w, c :: t => if c = 10 then okFrom 0 t else decide (32 ≤ c.toNat) && decide (c.toNat ≤ 126) && decide (w + 1 ≤ 120) && okFrom (w + 1) t
def textOk (s : List UInt8) : Bool := decide (s.length ≤ 4000) && okFrom 0 s

def cut : List UInt8 → List (List UInt8)
  | [] => [[]]
  | c :: t => if c = 10 then [] :: cut t else match cut t with
    | [] => [[c]]
    | h :: r => (c :: h) :: r

def join : List (List UInt8) → List UInt8
  | [] => []
  | [a] => a
  | a :: b :: r => a ++ 10 :: join (b :: r)

def lines (s : List UInt8) : List (List UInt8) := if textOk s = true then cut s else []

/-- The place behind a text. -/
def pos : List UInt8 → Nat × Nat
  | [] => (0, 0)
  | c :: t => if c = 10 then ((pos t).1 + 1, (pos t).2) else if (pos t).1 = 0 then (0, (pos t).2 + 1) else pos t

def offOf : List (List UInt8) → Nat → Nat → Option Nat
  | [], _, _ => none
  | h :: _, 0, C => if C ≤ h.length then some C else none
  | h :: r, L + 1, C => match offOf r L C with
    | none => none
    | some k => some (h.length + 1 + k)

theorem cut_ne (s : List UInt8) : cut s ≠ [] := by
  cases s with
  | nil => simp [cut]
  | cons c t =>
    unfold cut; split
    · simp
    · split <;> simp

theorem cut_cons (s : List UInt8) : ∃ h r, cut s = h :: r := by
  cases e : cut s with
  | nil => exact absurd e (cut_ne s)
  | cons h r => exact ⟨h, r, rfl⟩

theorem cut_nl (t : List UInt8) : cut (10 :: t) = [] :: cut t := by rw [cut, if_pos rfl]
theorem cut_other {c : UInt8} (h : c ≠ 10) (t : List UInt8) {a : List UInt8} {r : List (List UInt8)} (e : cut t = a :: r) : cut (c :: t) = (c :: a) :: r := by rw [cut, if_neg h, e]

theorem pos_nl (t : List UInt8) : pos (10 :: t) = ((pos t).1 + 1, (pos t).2) := by rw [pos, if_pos rfl]
theorem pos_zero {c : UInt8} (h : c ≠ 10) (t : List UInt8) (e : (pos t).1 = 0) : pos (c :: t) = (0, (pos t).2 + 1) := by rw [pos, if_neg h, if_pos e]
theorem pos_more {c : UInt8} (h : c ≠ 10) (t : List UInt8) (e : (pos t).1 ≠ 0) : pos (c :: t) = pos t := by rw [pos, if_neg h, if_neg e]

theorem pos_snoc (l : List UInt8) (c : UInt8) : pos (l ++ [c]) = if c = 10 then ((pos l).1 + 1, 0) else ((pos l).1, (pos l).2 + 1) := by
  induction l with
  | nil =>
    by_cases h : c = 10
    · subst h; simp [pos]
    · simp [pos, h]
  | cons d t ih =>
    simp only [List.cons_append]
    by_cases hd : d = 10
    · subst hd; rw [pos_nl, pos_nl, ih]; split <;> rfl
    · by_cases h : c = 10
      · rw [if_pos h] at ih ⊢
        rw [pos_more hd _ (by rw [ih]; simp), ih]
        by_cases e : (pos t).1 = 0
        · rw [pos_zero hd _ e, e]
        · rw [pos_more hd _ e]
      · rw [if_neg h] at ih ⊢
        by_cases e : (pos t).1 = 0
        · rw [pos_zero hd _ (by rw [ih]; exact e), pos_zero hd _ e, ih]
        · rw [pos_more hd _ (by rw [ih]; exact e), pos_more hd _ e, ih]

/-- The byte of a place has that place. -/
theorem offOf_pos : ∀ (s : List UInt8) (L C i : Nat), offOf (cut s) L C = some i → i ≤ s.length ∧ pos (s.take i) = (L, C) := by
  intro s
  induction s with
  | nil =>
    intro L C i h
    cases L with
    | zero => simp [cut, offOf] at h; obtain ⟨h1, h2⟩ := h; subst h1; subst h2; simp [pos]
    | succ L => simp [cut, offOf] at h
  | cons c t ih =>
    intro L C i h
    by_cases hc : c = 10
    · subst hc
      rw [cut_nl] at h
      cases L with
      | zero => simp [offOf] at h; obtain ⟨h1, h2⟩ := h; subst h1; subst h2; simp [pos]
      | succ L =>
        simp only [offOf] at h
        cases e : offOf (cut t) L C with
        | none => rw [e] at h; cases h
        | some k =>
          rw [e] at h; injection h with h
          have := ih L C k e
          obtain rfl : i = k + 1 := by simp at h; omega
          refine ⟨by simp; omega, ?_⟩
          simp only [List.take_succ_cons]; rw [pos_nl, this.2]
    · obtain ⟨a, r, e⟩ := cut_cons t
      rw [cut_other hc t e] at h
      cases L with
      | zero =>
        simp only [offOf] at h
        split at h
        · rename_i hl
          injection h with h; subst h
          cases C with
          | zero => simp [pos]
          | succ C =>
            have := ih 0 C C (by rw [e]; simp only [offOf]; rw [if_pos (by simpa using hl)])
            refine ⟨by simp; omega, ?_⟩
            simp only [List.take_succ_cons]
            rw [pos_zero hc _ (by rw [this.2]), this.2]
        · cases h
      | succ L =>
        simp only [offOf] at h
        cases e2 : offOf r L C with
        | none => rw [e2] at h; cases h
        | some k =>
          rw [e2] at h; injection h with h
          have := ih (L + 1) C (a.length + 1 + k) (by rw [e]; simp only [offOf, e2])
          obtain rfl : i = (a.length + 1 + k) + 1 := by simp at h; omega
          refine ⟨by simp; omega, ?_⟩
          simp only [List.take_succ_cons]; rw [pos_more hc _ (by rw [this.2]; simp), this.2]

/-- The place of a byte is of that byte. -/
theorem pos_offOf : ∀ (s : List UInt8) (i : Nat), i ≤ s.length → offOf (cut s) (pos (s.take i)).1 (pos (s.take i)).2 = some i := by
  intro s
  induction s with
  | nil => intro i h; simp at h; subst h; simp [pos, cut, offOf]
  | cons c t ih =>
    intro i h
    cases i with
    | zero =>
      obtain ⟨a, r, e⟩ := cut_cons (c :: t)
      rw [e]; simp [pos, offOf]
    | succ i =>
      have := ih i (by simpa using h)
      simp only [List.take_succ_cons]
      by_cases hc : c = 10
      · subst hc
        rw [pos_nl, cut_nl]; simp only [offOf, this]; simp; omega
      · obtain ⟨a, r, e⟩ := cut_cons t
        rw [cut_other hc t e]
        rw [e] at this
        by_cases e0 : (pos (t.take i)).1 = 0
        · rw [pos_zero hc _ e0]
          rw [e0] at this
          simp only [offOf] at this ⊢
          split at this
          · rename_i hl; injection this with this
            rw [if_pos (by simpa using hl)]; rw [this]
          · cases this
        · rw [pos_more hc _ e0]
          cases eL : (pos (t.take i)).1 with
          | zero => exact absurd eL e0
          | succ L =>
            rw [eL] at this
            simp only [offOf] at this ⊢
            cases e2 : offOf r L (pos (t.take i)).2 with
            | none => rw [e2] at this; cases this
            | some k => rw [e2] at this; injection this with this; simp; omega

theorem pos_inj (s : List UInt8) (i j : Nat) (hi : i ≤ s.length) (hj : j ≤ s.length) (h : pos (s.take i) = pos (s.take j)) : i = j := by
  have a := pos_offOf s i hi
  have b := pos_offOf s j hj
  rw [h, b] at a; injection a with a; exact a.symm

theorem offOf_iff (s : List UInt8) (L C : Nat) : (offOf (cut s) L C).isSome = true ↔ ∃ h : L < (cut s).length, C ≤ ((cut s)[L]'h).length := by
  generalize cut s = ls
  induction ls generalizing L with
  | nil => simp [offOf]
  | cons a r ih =>
    cases L with
    | zero => simp only [offOf]; split <;> simp_all
    | succ L =>
      simp only [offOf]
      cases e : offOf r L C with
      | none => have := ih L; rw [e] at this; simpa using this
      | some k => have := ih L; rw [e] at this; simpa using this

theorem pos_le (s : List UInt8) : (pos s).1 ≤ s.length ∧ (pos s).2 ≤ s.length := by
  induction s with
  | nil => simp [pos]
  | cons c t ih =>
    by_cases hc : c = 10
    · subst hc; rw [pos_nl]; simp; omega
    · by_cases e : (pos t).1 = 0
      · rw [pos_zero hc _ e]; simp; omega
      · rw [pos_more hc _ e]; simp; omega

/-- Where a line begins. -/
def start : List (List UInt8) → Nat → Nat
  | _, 0 => 0
  | [], _ + 1 => 0
  | h :: r, L + 1 => h.length + 1 + start r L

theorem offOf_start : ∀ (ls : List (List UInt8)) (L C : Nat) (h : L < ls.length), C ≤ (ls[L]'h).length → offOf ls L C = some (start ls L + C) := by
  intro ls
  induction ls with
  | nil => intro L C h; simp at h
  | cons a r ih =>
    intro L C h hc
    cases L with
    | zero => simp only [offOf, start]; rw [if_pos (by simpa using hc)]; simp
    | succ L =>
      simp only [offOf, start]
      rw [ih L C (by simpa using h) (by simpa using hc)]; simp; omega

theorem offOf_none : ∀ (ls : List (List UInt8)) (L C : Nat), (∀ h : L < ls.length, ¬ C ≤ (ls[L]'h).length) → offOf ls L C = none := by
  intro ls
  induction ls with
  | nil => intro L C _; rfl
  | cons a r ih =>
    intro L C h
    cases L with
    | zero => simp only [offOf]; exact if_neg (h (Nat.zero_lt_succ _))
    | succ L =>
      simp only [offOf]
      rw [ih L C (fun h' hc => h (Nat.succ_lt_succ h') hc)]

theorem start_succ : ∀ (ls : List (List UInt8)) (L : Nat) (h : L < ls.length), start ls (L + 1) = start ls L + (ls[L]'h).length + 1 := by
  intro ls
  induction ls with
  | nil => intro L h; simp at h
  | cons a r ih =>
    intro L h
    cases L with
    | zero => cases r <;> simp [start]
    | succ L => rw [start, ih L (by simpa using h), start]; simp; omega

theorem start_all : ∀ (s : List UInt8), start (cut s) (cut s).length = s.length + 1 := by
  intro s
  induction s with
  | nil => simp [cut, start]
  | cons c t ih =>
    by_cases hc : c = 10
    · subst hc; rw [cut_nl]; simp only [List.length_cons, start, ih]; simp; omega
    · obtain ⟨a, r, e⟩ := cut_cons t
      rw [cut_other hc t e]; rw [e] at ih
      simp only [List.length_cons, start] at ih ⊢; omega

theorem join_cut (s : List UInt8) : join (cut s) = s := by
  induction s with
  | nil => simp [cut, join]
  | cons c t ih =>
    obtain ⟨a, r, e⟩ := cut_cons t
    by_cases hc : c = 10
    · subst hc; rw [cut_nl, e]; rw [e] at ih; simp [join, ih]
    · rw [cut_other hc t e]; rw [e] at ih
      cases r with
      | nil => simp only [join] at ih ⊢; rw [ih]
      | cons b r => simp only [join] at ih ⊢; rw [← ih]; rfl

theorem cut_plain : ∀ (a : List UInt8), (∀ c ∈ a, c ≠ 10) → cut a = [a] := by
  intro a
  induction a with
  | nil => intro _; rfl
  | cons c t ih =>
    intro h
    exact cut_other (h c (by simp)) t (ih (fun d hd => h d (by simp [hd])))

theorem cut_app : ∀ (a : List UInt8) (t : List UInt8), (∀ c ∈ a, c ≠ 10) → cut (a ++ 10 :: t) = a :: cut t := by
  intro a
  induction a with
  | nil => intro t _; exact cut_nl t
  | cons c a ih =>
    intro t h
    exact cut_other (h c (by simp)) _ (ih t (fun d hd => h d (by simp [hd])))

theorem cut_join : ∀ (ls : List (List UInt8)), ls ≠ [] → (∀ a ∈ ls, ∀ c ∈ a, c ≠ 10) → cut (join ls) = ls := by
  intro ls
  induction ls with
  | nil => intro h; exact absurd rfl h
  | cons a r ih =>
    intro _ h
    cases r with
    | nil => exact cut_plain a (h a (by simp))
    | cons b r =>
      simp only [join]
      rw [cut_app a _ (h a (by simp)), ih (by simp) (fun x hx => h x (by simp [hx]))]

/-- The lines of two texts, one behind the other. -/
theorem cut_cat : ∀ (s t : List UInt8) (a : List (List UInt8)) (x : List UInt8) (y : List UInt8) (b : List (List UInt8)),
    cut s = a ++ [x] → cut t = y :: b → cut (s ++ t) = a ++ (x ++ y) :: b := by
  intro s
  induction s with
  | nil =>
    intro t a x y b h1 h2
    simp only [cut] at h1
    cases a with
    | nil => simp at h1; subst h1; simpa using h2
    | cons p a => simp at h1
  | cons c s ih =>
    intro t a x y b h1 h2
    by_cases hc : c = 10
    · subst hc
      rw [cut_nl] at h1
      simp only [List.cons_append]; rw [cut_nl]
      cases a with
      | nil => simp at h1; exact absurd h1.2 (cut_ne s)
      | cons p a =>
        simp at h1; obtain ⟨h3, h4⟩ := h1; subst h3
        rw [ih t a x y b h4 h2]; rfl
    · obtain ⟨p, r, e⟩ := cut_cons s
      rw [cut_other hc s e] at h1
      simp only [List.cons_append]
      cases a with
      | nil =>
        simp at h1; obtain ⟨h3, h4⟩ := h1; subst h3; subst h4
        exact cut_other hc _ (ih t [] p y b (by simpa using e) h2)
      | cons q a =>
        simp at h1; obtain ⟨h3, h4⟩ := h1; subst h3; subst h4
        exact cut_other hc _ (ih t (p :: a) x y b (by simpa using e) h2)

theorem ok_cat : ∀ (s : List UInt8) (w : Nat) (t : List UInt8), okFrom w (s ++ 10 :: t) = (okFrom w s && okFrom 0 t) := by
  intro s
  induction s with
  | nil => intro w t; simp [okFrom]
  | cons c s ih =>
    intro w t
    simp only [List.cons_append, okFrom]
    by_cases hc : c = 10
    · rw [if_pos hc, if_pos hc, ih]
    · rw [if_neg hc, if_neg hc, ih]; simp [Bool.and_assoc]

theorem ok_bad : ∀ (s : List UInt8) (w : Nat) (t : List UInt8), okFrom w (s ++ 9 :: t) = false := by
  intro s
  induction s with
  | nil => intro w t; simp [okFrom]
  | cons c s ih =>
    intro w t
    simp only [List.cons_append, okFrom]
    by_cases hc : c = 10
    · rw [if_pos hc, ih]
    · rw [if_neg hc, ih]; simp

theorem ok_lines : ∀ (ls : List (List UInt8)), (∀ a ∈ ls, okFrom 0 a = true) → okFrom 0 (join ls) = true := by
  intro ls
  induction ls with
  | nil => intro _; rfl
  | cons a r ih =>
    intro h
    cases r with
    | nil => exact h a (by simp)
    | cons b r =>
      simp only [join]
      rw [ok_cat, h a (by simp), ih (fun x hx => h x (by simp [hx]))]; rfl

end Ilp
