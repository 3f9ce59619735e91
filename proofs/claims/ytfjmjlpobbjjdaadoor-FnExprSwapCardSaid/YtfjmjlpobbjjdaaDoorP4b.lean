/- What is reckoned, in plain Lean: the words. -/
import Derived.Test.YtfjmjlpobbjjdaaDoorP4
namespace Ilp

theorem opText_inj {o p : Bop} (h : opText o = opText p) : o = p := by cases o <;> cases p <;> first | rfl | (exfalso; revert h; decide)
theorem lev_pos (o : Bop) : 1 ≤ lev o ∧ lev o ≤ 3 := by cases o <;> decide

/-! ### The kinds of words -/
theorem dec_digits : ∀ (n : Nat), (∀ c ∈ dec n, isDig c = true) ∧ dec n ≠ [] := by
  intro n
  induction n using Nat.strongRecOn with
  | ind n ih =>
    have hd : ∀ k, k < 10 → isDig (UInt8.ofNat (48 + k)) = true := by decide
    rw [dec]
    split
    · rename_i h
      refine ⟨?_, by simp⟩
      intro c hc; rw [List.mem_singleton] at hc; subst hc; exact hd n h
    · rename_i h
      have := ih (n / 10) (by omega)
      refine ⟨?_, by simp⟩
      intro c hc
      rcases List.mem_append.1 hc with hc | hc
      · exact this.1 c hc
      · rw [List.mem_singleton] at hc; subst hc; exact hd _ (by omega)

theorem name_letters {s : List UInt8} (h : isName s = true) : (∀ c ∈ s, isLet c = true) ∧ s ≠ [] ∧ s ∉ ownWords := by
  simp only [isName, tokWord, Bool.and_eq_true, decide_eq_true_eq, List.all_eq_true, Bool.not_eq_true', List.contains_eq_mem, decide_eq_false_iff_not] at h
  refine ⟨h.1.2, ?_, h.2⟩
  intro e; subst e; simp at h

theorem dec_ne_letters {n : Nat} {s : List UInt8} (h : ∀ c ∈ s, isLet c = true) : dec n ≠ s := by
  intro e
  have h1 := (dec_digits n)
  cases hd : dec n with
  | nil => exact h1.2 hd
  | cons c t =>
    have a := h1.1 c (by rw [hd]; simp)
    have b := h c (by rw [← e, hd]; simp)
    rw [let_not_dig b] at a; cases a

theorem ty_letters (t : Bool) : (∀ c ∈ tyText t, isLet c = true) ∧ tyText t ∈ ownWords := by cases t <;> decide
theorem dec_ne_mark {n : Nat} {c : UInt8} (h : isDig c = false) : dec n ≠ [c] := by
  intro e
  have := (dec_digits n).1 c (by rw [e]; simp)
  rw [h] at this; cases this

theorem dec_last (n : Nat) : ∃ l, dec n = l ++ [UInt8.ofNat (48 + n % 10)] ∧ (10 ≤ n → l = dec (n / 10)) ∧ (n < 10 → l = []) := by
  by_cases h : n < 10
  · refine ⟨[], ?_, fun _ => by omega, fun _ => rfl⟩
    rw [dec, dif_pos h, Nat.mod_eq_of_lt h]; rfl
  · exact ⟨dec (n / 10), by rw [dec, dif_neg h], fun _ => rfl, fun _ => absurd ‹_› h⟩

theorem dec_inj : ∀ (n m : Nat), dec n = dec m → n = m := by
  intro n
  induction n using Nat.strongRecOn with
  | ind n ih =>
    intro m h
    obtain ⟨l, hl, h1, h2⟩ := dec_last n
    obtain ⟨k, hk, h3, h4⟩ := dec_last m
    rw [hl, hk] at h
    obtain ⟨e1, e2⟩ := List.append_inj' h rfl
    injection e2 with e2 _
    have e3 : ∀ a, a < 10 → ∀ b, b < 10 → UInt8.ofNat (48 + a) = UInt8.ofNat (48 + b) → a = b := by decide
    have e4 := e3 (n % 10) (by omega) (m % 10) (by omega) e2
    by_cases hn : n < 10
    · by_cases hm : m < 10
      · omega
      · rw [h2 hn, h3 (by omega)] at e1
        exact absurd e1.symm (dec_digits _).2
    · by_cases hm : m < 10
      · rw [h4 hm, h1 (by omega)] at e1
        exact absurd e1 (dec_digits _).2
      · rw [h1 (by omega), h3 (by omega)] at e1
        have := ih (n / 10) (by omega) (m / 10) e1
        omega

/-! ### The words tell what is reckoned -/
def stop (k : Nat) (l : List (List UInt8)) : Prop := l = [] ∨ (∃ l', l = l' ++ [[40]]) ∨ ∃ l' o, l = l' ++ [opText o] ∧ lev o < k
theorem stop_mono {k k' : Nat} {l} (h : stop k l) (hk : k ≤ k') : stop k' l := by
  rcases h with h | h | ⟨l', o, h, ho⟩
  · exact .inl h
  · exact .inr (.inl h)
  · exact .inr (.inr ⟨l', o, h, by omega⟩)
theorem stop_op {k : Nat} {l : List (List UInt8)} {o : Bop} (h : stop k (l ++ [opText o])) : lev o < k := by
  rcases h with h | ⟨l', h⟩ | ⟨l', p, h, hp⟩
  · simp at h
  · obtain ⟨_, h⟩ := List.append_inj' h rfl
    injection h with h _
    exfalso; revert h; cases o <;> decide
  · obtain ⟨_, h⟩ := List.append_inj' h rfl
    injection h with h _
    rw [opText_inj h]; exact hp

/-- How tight it holds. -/
def Tm.level : Tm → Nat
  | .two o _ _ => lev o
  | _ => 4
def mu (k : Nat) (a : Tm) : Nat := 2 * a.size + if a.level < k then 1 else 0

theorem words_free {k : Nat} {a : Tm} {o : Bop} {x y : Tm} (e : a = .two o x y) (h : k ≤ lev o) : a.words k = x.words (max 2 (lev o)) ++ opText o :: y.words (lev o + 1) := by
  subst e; simp [Tm.words, brk]; intro h'; omega
theorem words_brk {k : Nat} {a : Tm} (h : a.level < k) (hk : k ≤ 4) : a.words k = [40] :: (a.words 1 ++ [[41]]) := by
  cases a with
  | two o x y =>
    simp only [Tm.level] at h
    have := lev_pos o
    have e1 : decide (lev o < k) = true := by simpa using h
    have e2 : decide (lev o < 1) = false := decide_eq_false (by omega)
    simp only [Tm.words, brk, e1, e2, if_true, Bool.false_eq_true, if_false, List.cons_append]
  | _ => simp only [Tm.level] at h; omega
theorem words_same {k k' : Nat} {a : Tm} (h : (a.level < k ↔ a.level < k')) : a.words k = a.words k' := by
  cases a with
  | two o x y =>
    simp only [Tm.level] at h
    simp only [Tm.words]
    rw [decide_eq_decide.2 h]
  | _ => simp [Tm.words]

theorem size_pos (a : Tm) : 1 ≤ a.size := by cases a <;> simp [Tm.size] <;> omega

/-- The last word of what holds tightest. -/
theorem words_last {k : Nat} {a : Tm} (hv : a.valid = true) (hk : k ≤ 4) (h : a.level < k ∨ a.level = 4) :
    ∃ l w, a.words k = l ++ [w] ∧
      ((∃ n, a = .num n ∧ l = [] ∧ w = dec n) ∨ (∃ s, a = .name s ∧ l = [] ∧ w = s ∧ isName s = true) ∨ (∃ t x, a = .cast t x ∧ l = x.words 4 ++ [wAs] ∧ w = tyText t) ∨
        (a.level < k ∧ l = [40] :: a.words 1 ∧ w = [41])) := by
  cases a with
  | num n => exact ⟨[], _, rfl, .inl ⟨n, rfl, rfl, rfl⟩⟩
  | name s => exact ⟨[], _, rfl, .inr (.inl ⟨s, rfl, rfl, rfl, hv⟩)⟩
  | cast t x => exact ⟨_, _, by simp [Tm.words], .inr (.inr (.inl ⟨t, x, rfl, rfl, rfl⟩))⟩
  | two o x y =>
    have hlt : Tm.level (.two o x y) < k := by
      rcases h with h | h
      · exact h
      · have := lev_pos o; simp only [Tm.level] at h; omega
    exact ⟨_, _, words_brk hlt hk, .inr (.inr (.inr ⟨hlt, rfl, rfl⟩))⟩

theorem words_inj_aux : ∀ (N : Nat) (a b : Tm) (k : Nat) (l l' : List (List UInt8)), mu k a + mu k b ≤ N → a.valid = true → b.valid = true → 1 ≤ k → k ≤ 4 → stop k l → stop k l' →
    l ++ a.words k = l' ++ b.words k → l = l' ∧ a = b := by
  intro N
  induction N with
  | zero => intro a b k l l' h; have := size_pos a; simp only [mu] at h; omega
  | succ N ih =>
    -- a holds less tight than b
    have low : ∀ (a b : Tm) (k : Nat) (l l' : List (List UInt8)) (o : Bop) (x y : Tm), a = .two o x y → k ≤ lev o → (b.level < k ∨ lev o < b.level) → mu k a + mu k b ≤ N + 1 → a.valid = true → b.valid = true → 1 ≤ k → k ≤ 4 → stop k l → stop k l' →
        l ++ a.words k = l' ++ b.words k → False := by
      intro a b k l l' o x y e ho hb hN va vb h1 h4 s s' he
      have hp := lev_pos o
      rw [words_free e ho, words_same (k := k) (k' := lev o + 1) (a := b) (by omega)] at he
      have he' : (l ++ x.words (max 2 (lev o)) ++ [opText o]) ++ y.words (lev o + 1) = l' ++ b.words (lev o + 1) := by rw [← he]; simp
      subst e
      simp only [Tm.valid, Bool.and_eq_true] at va
      have hx := size_pos x
      have hm : mu (lev o + 1) b = mu k b := by
        unfold mu
        rcases hb with hb | hb
        · rw [if_pos (by omega), if_pos hb]
        · rw [if_neg (by omega), if_neg (by omega)]
      have := ih y b (lev o + 1) _ _ (by rw [hm]; simp only [mu, Tm.size] at hN ⊢; split at hN <;> split <;> omega) va.2 vb (by omega) (by omega)
        (.inr (.inr ⟨_, o, rfl, by omega⟩)) (stop_mono s' (by omega)) he'
      rw [← this.1] at s'
      have := stop_op s'
      omega
    intro a b k l l' hN va vb h1 h4 s s' he
    by_cases ha : ∃ o x y, a = .two o x y ∧ k ≤ lev o
    · obtain ⟨o, x, y, e, ho⟩ := ha
      by_cases hb : ∃ p x' y', b = .two p x' y' ∧ k ≤ lev p
      · obtain ⟨p, x', y', e', hp⟩ := hb
        have q1 := lev_pos o
        by_cases hj : lev o = lev p
        · rw [words_free e ho, words_free e' hp] at he
          have he' : (l ++ x.words (max 2 (lev o)) ++ [opText o]) ++ y.words (lev o + 1) = (l' ++ x'.words (max 2 (lev o)) ++ [opText p]) ++ y'.words (lev o + 1) := by
            rw [hj] at he ⊢; simpa using he
          subst e; subst e'
          simp only [Tm.valid, Bool.and_eq_true] at va vb
          have hx := size_pos x
          have hx' := size_pos x'
          have r := ih y y' (lev o + 1) _ _ (by simp only [mu, Tm.size] at hN ⊢; split at hN <;> split <;> split at hN <;> split <;> omega) va.2 vb.2 (by omega) (by omega)
            (.inr (.inr ⟨_, o, rfl, by omega⟩)) (.inr (.inr ⟨_, p, rfl, by omega⟩)) he'
          obtain ⟨r1, r2⟩ := r
          obtain ⟨r3, r4⟩ := List.append_inj' r1 rfl
          injection r4 with r4 _
          have hop := opText_inj r4
          have r := ih x x' (max 2 (lev o)) _ _ (by simp only [mu, Tm.size] at hN ⊢; split at hN <;> split <;> split at hN <;> split <;> omega) va.1 vb.1 (by omega) (by omega)
            (stop_mono s (by omega)) (stop_mono s' (by omega)) r3
          exact ⟨r.1, by rw [hop, r.2, r2]⟩
        · exfalso
          by_cases hlt : lev o < lev p
          · exact low a b k l l' o x y e ho (.inr (by subst e'; exact hlt)) hN va vb h1 h4 s s' he
          · exact low b a k l' l p x' y' e' hp (.inr (by subst e; simp only [Tm.level]; omega)) (by omega) vb va h1 h4 s' s he.symm
      · exfalso
        have q1 := lev_pos o
        refine low a b k l l' o x y e ho ?_ hN va vb h1 h4 s s' he
        cases b with
        | two p x' y' =>
          left; simp only [Tm.level]
          rcases Nat.lt_or_ge (lev p) k with h | h
          · exact h
          · exact absurd ⟨p, x', y', rfl, h⟩ hb
        | _ => right; simp only [Tm.level]; omega
    · by_cases hb : ∃ p x' y', b = .two p x' y' ∧ k ≤ lev p
      · exfalso
        obtain ⟨p, x', y', e', hp⟩ := hb
        have q1 := lev_pos p
        refine low b a k l' l p x' y' e' hp ?_ (by omega) vb va h1 h4 s' s he.symm
        cases a with
        | two o x y =>
          left; simp only [Tm.level]
          rcases Nat.lt_or_ge (lev o) k with h | h
          · exact h
          · exact absurd ⟨o, x, y, rfl, h⟩ ha
        | _ => right; simp only [Tm.level]; omega
      · have la : a.level < k ∨ a.level = 4 := by
          cases a with
          | two o x y =>
            left; simp only [Tm.level]
            rcases Nat.lt_or_ge (lev o) k with h | h
            · exact h
            · exact absurd ⟨o, x, y, rfl, h⟩ ha
          | _ => right; rfl
        have lb : b.level < k ∨ b.level = 4 := by
          cases b with
          | two o x y =>
            left; simp only [Tm.level]
            rcases Nat.lt_or_ge (lev o) k with h | h
            · exact h
            · exact absurd ⟨o, x, y, rfl, h⟩ hb
          | _ => right; rfl
        obtain ⟨p, w, e1, ca⟩ := words_last va h4 la
        obtain ⟨p', w', e2, cb⟩ := words_last vb h4 lb
        rw [e1, e2, ← List.append_assoc, ← List.append_assoc] at he
        obtain ⟨hq, hw⟩ := List.append_inj' he rfl
        clear he
        injection hw with hw _
        rcases ca with ⟨n, rfl, rfl, rfl⟩ | ⟨t, rfl, rfl, rfl, hn⟩ | ⟨t, x, rfl, rfl, rfl⟩ | ⟨hl, rfl, rfl⟩ <;>
        rcases cb with ⟨m, rfl, rfl, rfl⟩ | ⟨t', rfl, rfl, rfl, hn'⟩ | ⟨t', x', rfl, rfl, rfl⟩ | ⟨hl', rfl, rfl⟩
        · exact ⟨by simpa using hq, by rw [dec_inj _ _ hw]⟩
        · exact absurd hw (dec_ne_letters (name_letters hn').1)
        · exact absurd hw (dec_ne_letters (ty_letters t').1)
        · exact absurd hw (dec_ne_mark (by decide))
        · exact absurd hw.symm (dec_ne_letters (name_letters hn).1)
        · exact ⟨by simpa using hq, by rw [hw]⟩
        · exact absurd (hw ▸ (ty_letters t').2) (name_letters hn).2.2
        · have := (name_letters hn).1 41 (by rw [hw]; simp); exact absurd this (by decide)
        · exact absurd hw.symm (dec_ne_letters (ty_letters t).1)
        · exact absurd (hw ▸ (ty_letters t).2) (name_letters hn').2.2
        · have ht : t = t' := by revert hw; cases t <;> cases t' <;> decide
          have he := List.append_cancel_right (by simpa using hq : (l ++ x.words 4) ++ [wAs] = (l' ++ x'.words 4) ++ [wAs])
          have r := ih x x' 4 _ _ (by simp only [mu, Tm.size] at hN ⊢; split at hN <;> split <;> split at hN <;> split <;> omega) va vb (by omega) (by omega)
            (stop_mono s h4) (stop_mono s' h4) he
          exact ⟨r.1, by rw [ht, r.2]⟩
        · exfalso; revert hw; cases t <;> decide
        · exact absurd hw.symm (dec_ne_mark (by decide))
        · have := (name_letters hn').1 41 (by rw [← hw]; simp); exact absurd this (by decide)
        · exfalso; revert hw; cases t' <;> decide
        · have he' : (l ++ [[40]]) ++ a.words 1 = (l' ++ [[40]]) ++ b.words 1 := by simpa using hq
          have q : ∀ c : Tm, 1 ≤ c.level := by intro c; cases c <;> simp [Tm.level]; rename_i o _ _; exact (lev_pos o).1
          have qa := q a
          have qb := q b
          have r := ih a b 1 _ _ (by simp only [mu] at hN ⊢; rw [if_pos hl, if_pos hl'] at hN; rw [if_neg (by omega), if_neg (by omega)]; omega) va vb (by omega) (by omega)
            (.inr (.inl ⟨l, rfl⟩)) (.inr (.inl ⟨l', rfl⟩)) he'
          exact ⟨(List.append_inj' r.1 rfl).1, r.2⟩

theorem words_inj {a b : Tm} (va : a.valid = true) (vb : b.valid = true) (h : a.words 1 = b.words 1) : a = b :=
  (words_inj_aux _ a b 1 [] [] (Nat.le_refl _) va vb (by omega) (by omega) (.inl rfl) (.inl rfl) (by simpa using h)).2

/-! ### Brackets -/
def net : List (List UInt8) → Int
  | [] => 0
  | w :: r => (if w = [40] then 1 else if w = [41] then -1 else 0) + net r
theorem net_app (a b : List (List UInt8)) : net (a ++ b) = net a + net b := by
  induction a with
  | nil => simp [net]
  | cons w r ih => simp only [List.cons_append, net, ih]; omega
/-- No more closed than open, and in the end as many. -/
def even (l : List (List UInt8)) : Prop := net l = 0 ∧ ∀ p r, l = p ++ r → 0 ≤ net p
theorem even_app {a b : List (List UInt8)} (ha : even a) (hb : even b) : even (a ++ b) := by
  refine ⟨by rw [net_app, ha.1, hb.1]; rfl, ?_⟩
  intro p r h
  rcases List.append_eq_append_iff.1 h with ⟨c, h1, h2⟩ | ⟨c, h1, h2⟩
  · rw [h1, net_app, ha.1]; have := hb.2 c r h2; omega
  · exact ha.2 p c h1
theorem even_one {w : List UInt8} (h1 : w ≠ [40]) (h2 : w ≠ [41]) : even [w] := by
  have : net [w] = 0 := by simp [net, h1, h2]
  refine ⟨this, ?_⟩
  intro p r h
  cases p with
  | nil => simp [net]
  | cons x p => simp at h; obtain ⟨rfl, h3, _⟩ := h; subst h3; rw [this]; omega
theorem even_brk {a : List (List UInt8)} (ha : even a) : even ([40] :: (a ++ [[41]])) := by
  refine ⟨by rw [net, net_app, ha.1]; simp [net], ?_⟩
  intro p r h
  cases p with
  | nil => simp [net]
  | cons x p =>
    simp at h; obtain ⟨rfl, h⟩ := h
    rw [net, if_pos rfl]
    rcases List.append_eq_append_iff.1 h with ⟨c, h1, h2⟩ | ⟨c, h1, h2⟩
    · rw [h1, net_app, ha.1]
      cases c with
      | nil => simp [net]
      | cons y c => simp at h2; obtain ⟨rfl, h3, _⟩ := h2; subst h3; simp [net]
    · have := ha.2 p c h1; omega
theorem dec_plain (n : Nat) : dec n ≠ [40] ∧ dec n ≠ [41] := ⟨dec_ne_mark (by decide), dec_ne_mark (by decide)⟩
theorem name_plain {s : List UInt8} (h : isName s = true) : s ≠ [40] ∧ s ≠ [41] := by
  constructor <;> (intro e; subst e; revert h; decide)
theorem words_even : ∀ (a : Tm) (k : Nat), a.valid = true → even (a.words k) := by
  intro a
  induction a with
  | num n => intro k _; exact even_one (dec_plain n).1 (dec_plain n).2
  | name s => intro k v; exact even_one (name_plain v).1 (name_plain v).2
  | two o x y ihx ihy =>
    intro k v
    simp only [Tm.valid, Bool.and_eq_true] at v
    have h : even (x.words (max 2 (lev o)) ++ opText o :: y.words (lev o + 1)) := by
      rw [show opText o :: y.words (lev o + 1) = [opText o] ++ y.words (lev o + 1) from rfl]
      exact even_app (ihx _ v.1) (even_app (even_one (by cases o <;> decide) (by cases o <;> decide)) (ihy _ v.2))
    simp only [Tm.words, brk]
    split
    · simpa using even_brk h
    · exact h
  | cast t x ihx =>
    intro k v
    rw [Tm.words, show [wAs, tyText t] = [wAs] ++ [tyText t] from rfl]
    exact even_app (ihx _ v) (even_app (even_one (by decide) (by decide)) (even_one (by cases t <;> decide) (by cases t <;> decide)))
theorem words_ne : ∀ (a : Tm) (k : Nat), a.words k ≠ [] := by
  intro a k; cases a <;> simp [Tm.words, brk]
  split <;> simp

/-- With brackets around them words are none. -/
theorem words_bracketed {a b : Tm} (va : a.valid = true) (vb : b.valid = true) : b.words 1 ≠ [40] :: (a.words 1 ++ [[41]]) := by
  intro h
  have ea := words_even a 1 va
  cases b with
  | num n =>
    have := congrArg List.length h
    have hp : 1 ≤ (a.words 1).length := by have := words_ne a 1; cases e : a.words 1 <;> simp_all
    simp [Tm.words] at this
  | name s => have := congrArg List.length h; simp [Tm.words] at this
  | cast t x =>
    have h' : (x.words 4 ++ [wAs]) ++ [tyText t] = ([40] :: a.words 1) ++ [[41]] := by simpa [Tm.words] using h
    obtain ⟨_, h'⟩ := List.append_inj' h' rfl
    injection h' with h' _
    revert h'; cases t <;> decide
  | two o x y =>
    simp only [Tm.valid, Bool.and_eq_true] at vb
    have hp := lev_pos o
    rw [words_free rfl hp.1] at h
    have ex := words_even x (max 2 (lev o)) vb.1
    have hx := words_ne x (max 2 (lev o))
    have hy := words_ne y (lev o + 1)
    -- the words of x are a beginning of the bracketed ones: there the bracket is still open
    cases hxw : x.words (max 2 (lev o)) with
    | nil => exact hx hxw
    | cons w p =>
      rw [hxw] at h ex
      simp only [List.cons_append] at h
      injection h with h1 h2
      subst h1
      have e0 := ex.1
      rw [net, if_pos rfl] at e0
      rcases List.append_eq_append_iff.1 h2 with ⟨c, h3, h4⟩ | ⟨c, h3, h4⟩
      · have := ea.2 p c h3; omega
      · rw [h3, net_app, ea.1] at e0
        cases c with
        | nil => simp [net] at e0
        | cons z c =>
          simp at h4
/-- With one bracket more behind them words are none. -/
theorem words_closed {a b : Tm} (va : a.valid = true) (vb : b.valid = true) : b.words 1 ≠ a.words 1 ++ [[41]] := by
  intro h
  have ea := (words_even a 1 va).1
  have eb := (words_even b 1 vb).1
  rw [h, net_app, ea] at eb
  simp [net] at eb
end Ilp
