/- Words, in plain Lean. -/
namespace Ilp

def isLet (c : UInt8) : Bool := decide (97 ≤ c.toNat) && decide (c.toNat ≤ 122)
def isDig (c : UInt8) : Bool := decide (48 ≤ c.toNat) && decide (c.toNat ≤ 57)
def isMark (c : UInt8) : Bool := [43, 45, 42, 60, 40, 41, 58, 61].contains c
def tokWord (s : List UInt8) : Bool := decide (1 ≤ s.length) && decide (s.length ≤ 8) && s.all isLet
def decFrom (n : Nat) (s : List UInt8) : Nat := s.foldl (fun n c => n * 10 + (c.toNat - 48)) n
def decVal (s : List UInt8) : Nat := decFrom 0 s
def tokNum (s : List UInt8) : Bool := decide (1 ≤ s.length) && decide (s.length ≤ 17) && s.all isDig && (decide (s.length = 1) || decide (s.head? ≠ some 48)) && decide (decVal s ≤ 1000000)
def tokMark (s : List UInt8) : Bool := match s with | [c] => isMark c | _ => false
def tokKind (s : List UInt8) : Nat := if tokWord s = true then 1 else if tokNum s = true then 2 else if tokMark s = true then 3 else 0
def tokOk (k : Int) (s : List UInt8) : Bool := if k = 1 then tokWord s else if k = 2 then tokNum s else if k = 3 then tokMark s else false

theorem let_not_dig {c : UInt8} (h : isLet c = true) : isDig c = false := by
  simp [isLet, isDig] at h ⊢; omega
theorem mark_not {c : UInt8} (h : isMark c = true) : isLet c = false ∧ isDig c = false := by
  simp [isMark] at h
  rcases h with h | h | h | h | h | h | h | h <;> subst h <;> decide

theorem word_not_num {s : List UInt8} (h : tokWord s = true) : tokNum s = false ∧ tokMark s = false := by
  cases s with
  | nil => simp [tokWord] at h
  | cons c t =>
    simp [tokWord] at h
    have hc := h.2.1
    constructor
    · simp [tokNum, let_not_dig hc]
    · cases t with
      | nil =>
        simp only [tokMark]
        cases e : isMark c
        · rfl
        · rw [(mark_not e).1] at hc; cases hc
      | cons d t => rfl
theorem num_not_mark {s : List UInt8} (h : tokNum s = true) : tokMark s = false := by
  cases s with
  | nil => simp [tokNum] at h
  | cons c t =>
    simp [tokNum] at h
    have hc := h.1.1.2.1
    cases t with
    | nil =>
      simp only [tokMark]
      cases e : isMark c
      · rfl
      · rw [(mark_not e).2] at hc; cases hc
    | cons d t => rfl

theorem tokOk_kind (k : Int) (s : List UInt8) : tokOk k s = true ↔ (k = tokKind s ∧ tokKind s ≠ 0) := by
  unfold tokOk tokKind
  by_cases w : tokWord s = true
  · have := word_not_num w
    simp [w, this.1, this.2]
  · simp at w
    by_cases n : tokNum s = true
    · have := num_not_mark n
      simp [w, n, this]
      by_cases h1 : k = 1
      · simp [h1]
      · by_cases h2 : k = 2
        · simp [h2]
        · simp [h1, h2]
    · simp at n
      by_cases m : tokMark s = true
      · simp [w, n, m]
        by_cases h1 : k = 1
        · simp [h1]
        · by_cases h2 : k = 2
          · simp [h2]
          · by_cases h3 : k = 3 <;> simp [h1, h2, h3]
      · simp at m; simp [w, n, m]

theorem tokKind_le (s : List UInt8) : tokKind s ≤ 3 := by unfold tokKind; split; · omega
                                                          split; · omega
                                                          split <;> omega

/-- How long the word at the head is. -/
def wlen : List UInt8 → Nat
  | [] => 0
  | c :: t => if isLet c = true then 1 + (t.takeWhile isLet).length else if isDig c = true then 1 + (t.takeWhile isDig).length else 1

theorem tw_le (p : UInt8 → Bool) : ∀ t : List UInt8, (t.takeWhile p).length ≤ t.length := by
  intro t
  induction t with
  | nil => simp
  | cons c t ih => rw [List.takeWhile_cons]; split <;> simp <;> omega

theorem wlen_pos {l : List UInt8} (h : l ≠ []) : 1 ≤ wlen l ∧ wlen l ≤ l.length := by
  cases l with
  | nil => exact absurd rfl h
  | cons c t =>
    unfold wlen
    have h1 := tw_le isLet t
    have h2 := tw_le isDig t
    simp only [List.length_cons]
    split
    · omega
    · split <;> omega

structure T where
  kind : Nat
  s : List UInt8
  col : Nat
deriving DecidableEq

def toks : Nat → Nat → List UInt8 → Option (List T)
  | 0, _, _ => none
  | f + 1, a, l => match l with
    | [] => some []
    | c :: t => if c = 32 then toks f (a + 1) t else
      if tokKind ((c :: t).take (wlen (c :: t))) = 0 then none else
      match toks f (a + wlen (c :: t)) ((c :: t).drop (wlen (c :: t))) with
      | none => none
      | some r => some (⟨tokKind ((c :: t).take (wlen (c :: t))), (c :: t).take (wlen (c :: t)), a⟩ :: r)

theorem toks_nil (f a : Nat) : toks (f + 1) a [] = some [] := rfl
theorem toks_space (f a : Nat) (t : List UInt8) : toks (f + 1) a (32 :: t) = toks f (a + 1) t := by rw [toks]; simp
theorem toks_bad {f a : Nat} {l : List UInt8} (h : l ≠ []) (h1 : l.head? ≠ some 32) (h2 : tokKind (l.take (wlen l)) = 0) : toks (f + 1) a l = none := by
  cases l with
  | nil => exact absurd rfl h
  | cons c t => rw [toks, if_neg (by simpa using h1), if_pos h2]
theorem toks_word {f a : Nat} {l : List UInt8} (h : l ≠ []) (h1 : l.head? ≠ some 32) (h2 : tokKind (l.take (wlen l)) ≠ 0) :
    toks (f + 1) a l = (toks f (a + wlen l) (l.drop (wlen l))).map (⟨tokKind (l.take (wlen l)), l.take (wlen l), a⟩ :: ·) := by
  cases l with
  | nil => exact absurd rfl h
  | cons c t =>
    rw [toks, if_neg (by simpa using h1), if_neg h2]
    cases toks f (a + wlen (c :: t)) ((c :: t).drop (wlen (c :: t))) <;> rfl

/-- Three ways for a text's head. -/
theorem toks_cases (l : List UInt8) : l = [] ∨ (∃ t, l = 32 :: t) ∨ (l ≠ [] ∧ l.head? ≠ some 32) := by
  cases l with
  | nil => exact .inl rfl
  | cons c t =>
    by_cases h : c = 32
    · subst h; exact .inr (.inl ⟨t, rfl⟩)
    · exact .inr (.inr ⟨by simp, by simpa using h⟩)

theorem toks_fuel : ∀ (f g a : Nat) (l : List UInt8), l.length < f → l.length < g → toks f a l = toks g a l := by
  intro f
  induction f with
  | zero => intro g a l h; omega
  | succ f ih =>
    intro g a l h1 h2
    cases g with
    | zero => omega
    | succ g =>
      rcases toks_cases l with rfl | ⟨t, rfl⟩ | ⟨hn, hs⟩
      · rfl
      · rw [toks_space, toks_space]; simp at h1 h2; exact ih g _ _ (by omega) (by omega)
      · by_cases hk : tokKind (l.take (wlen l)) = 0
        · rw [toks_bad hn hs hk, toks_bad hn hs hk]
        · rw [toks_word hn hs hk, toks_word hn hs hk]
          have := wlen_pos hn
          rw [ih g _ _ (by rw [List.length_drop]; omega) (by rw [List.length_drop]; omega)]

def words (l : List UInt8) : Option (List T) := toks (l.length + 1) 0 l
def tokLine (s : List UInt8) : Option (List T) := if s.length ≤ 120 then words s else none

def sh (k : Nat) (t : T) : T := ⟨t.kind, t.s, t.col + k⟩

theorem toks_shift : ∀ (f a k : Nat) (l : List UInt8), toks f (a + k) l = (toks f a l).map (·.map (sh k)) := by
  intro f
  induction f with
  | zero => intro a k l; rfl
  | succ f ih =>
    intro a k l
    rcases toks_cases l with rfl | ⟨t, rfl⟩ | ⟨hn, hs⟩
    · rfl
    · rw [toks_space, toks_space, show a + k + 1 = (a + 1) + k by omega, ih]
    · by_cases hk : tokKind (l.take (wlen l)) = 0
      · rw [toks_bad hn hs hk, toks_bad hn hs hk]; rfl
      · rw [toks_word hn hs hk, toks_word hn hs hk, show a + k + wlen l = (a + wlen l) + k by omega, ih]
        cases toks f (a + wlen l) (l.drop (wlen l)) <;> simp [sh]

theorem wlen_app {l : List UInt8} (h : l ≠ []) (r : List UInt8) (hr : r = [] ∨ ∃ t, r = 32 :: t) : wlen (l ++ r) = wlen l := by
  have key : ∀ (p : UInt8 → Bool), p 32 = false → ∀ t : List UInt8, ((t ++ r).takeWhile p).length = (t.takeWhile p).length := by
    intro p hp t
    induction t with
    | nil => rcases hr with rfl | ⟨t, rfl⟩ <;> simp [hp]
    | cons c t ih => simp only [List.cons_append, List.takeWhile_cons]; split <;> simp [ih]
  cases l with
  | nil => exact absurd rfl h
  | cons c t => simp only [List.cons_append, wlen]; rw [key isLet (by decide), key isDig (by decide)]

/-- The words of two texts with a space between. -/
theorem toks_cat : ∀ (f : Nat) (a : Nat) (l r : List UInt8), l.length + r.length + 1 < f →
    toks f a (l ++ 32 :: r) = match toks f a l with
      | none => none
      | some x => match toks f (a + l.length + 1) r with
        | none => none
        | some y => some (x ++ y) := by
  intro f
  induction f with
  | zero => intro a l r h; omega
  | succ f ih =>
    intro a l r h
    rcases toks_cases l with rfl | ⟨t, rfl⟩ | ⟨hn, hs⟩
    · simp only [List.nil_append, toks_space, toks_nil, List.length_nil]
      rw [toks_fuel f (f + 1) _ r (by simp at h; omega) (by simp at h; omega)]
      cases toks (f + 1) (a + 0 + 1) r <;> rfl
    · simp only [List.cons_append, toks_space, List.length_cons]
      rw [ih _ _ _ (by simp at h ⊢; omega)]
      rw [show a + (t.length + 1) + 1 = a + 1 + t.length + 1 by omega]
      rw [toks_fuel f (f + 1) (a + 1 + t.length + 1) r (by simp at h; omega) (by simp at h; omega)]
    · have hw := wlen_pos hn
      have hw2 := wlen_app hn (32 :: r) (.inr ⟨r, rfl⟩)
      have e1 : (l ++ 32 :: r).take (wlen l) = l.take (wlen l) := List.take_append_of_le_length (by omega)
      have e2 : (l ++ 32 :: r).drop (wlen l) = l.drop (wlen l) ++ 32 :: r := List.drop_append_of_le_length (by omega)
      have hn2 : l ++ 32 :: r ≠ [] := by simp
      have hs2 : (l ++ 32 :: r).head? ≠ some 32 := by
        cases l with
        | nil => exact absurd rfl hn
        | cons c t => simpa using hs
      by_cases hk : tokKind (l.take (wlen l)) = 0
      · rw [toks_bad hn2 hs2 (by rw [hw2, e1]; exact hk), toks_bad hn hs hk]
      · rw [toks_word hn2 hs2 (by rw [hw2, e1]; exact hk), toks_word hn hs hk, hw2, e1, e2]
        rw [ih _ _ _ (by rw [List.length_drop]; omega)]
        have e3 : a + wlen l + (l.drop (wlen l)).length + 1 = a + l.length + 1 := by rw [List.length_drop]; omega
        rw [e3, toks_fuel f (f + 1) (a + l.length + 1) r (by omega) (by omega)]
        cases toks f (a + wlen l) (l.drop (wlen l)) with
        | none => rfl
        | some x => cases toks (f + 1) (a + l.length + 1) r <;> rfl

theorem words_cat (l r : List UInt8) : words (l ++ 32 :: r) = match words l with
    | none => none
    | some x => match words r with
      | none => none
      | some y => some (x ++ y.map (sh (l.length + 1))) := by
  unfold words
  rw [toks_fuel _ (l.length + r.length + 2) _ _ (by simp) (by simp; omega), toks_cat _ _ _ _ (by omega),
    toks_fuel _ (l.length + 1) 0 l (by omega) (Nat.lt_succ_self _)]
  rw [show (0 + l.length + 1) = 0 + (l.length + 1) by omega, toks_shift, toks_fuel _ (r.length + 1) 0 r (by omega) (by omega)]
  cases toks (l.length + 1) 0 l with
  | none => rfl
  | some x => cases toks (r.length + 1) 0 r <;> rfl

/-- A text that is one word. -/
def Word (w : List UInt8) : Prop := w ≠ [] ∧ w.head? ≠ some 32 ∧ wlen w = w.length ∧ tokKind w ≠ 0

theorem words_one {w : List UInt8} (h : Word w) : words w = some [⟨tokKind w, w, 0⟩] := by
  obtain ⟨h1, h2, h3, h4⟩ := h
  unfold words
  rw [toks_word h1 h2 (by rw [h3, List.take_length]; exact h4), h3, List.take_length, List.drop_length]
  have : 1 ≤ w.length := by cases w <;> simp_all
  obtain ⟨k, hk⟩ : ∃ k, w.length = k + 1 := ⟨w.length - 1, by omega⟩
  rw [hk]; rfl

/-- Words with one space between. -/
def tokText : List (List UInt8) → List UInt8
  | [] => []
  | [a] => a
  | a :: b :: r => a ++ 32 :: tokText (b :: r)

def place : Nat → List (List UInt8) → List T
  | _, [] => []
  | a, w :: r => ⟨tokKind w, w, a⟩ :: place (a + w.length + 1) r

theorem place_sh (k : Nat) : ∀ (ws : List (List UInt8)) (a : Nat), (place a ws).map (sh k) = place (a + k) ws := by
  intro ws
  induction ws with
  | nil => intro a; rfl
  | cons w r ih => intro a; simp only [place, List.map_cons, ih]; rw [show a + w.length + 1 + k = a + k + w.length + 1 by omega]; rfl

theorem words_text : ∀ (ws : List (List UInt8)), (∀ w ∈ ws, Word w) → words (tokText ws) = some (place 0 ws) := by
  intro ws
  induction ws with
  | nil => intro _; rfl
  | cons w r ih =>
    intro h
    cases r with
    | nil => exact words_one (h w (by simp))
    | cons b r =>
      simp only [tokText]
      rw [words_cat, words_one (h w (by simp)), ih (fun x hx => h x (by simp [hx]))]
      simp only []
      rw [place_sh]; simp only [place, List.singleton_append]; simp

theorem isLet_32 : isLet 32 = false := by decide
theorem isDig_32 : isDig 32 = false := by decide
theorem dig_not_let {c : UInt8} (h : isDig c = true) : isLet c = false := by
  cases e : isLet c
  · rfl
  · rw [let_not_dig e] at h; cases h

/-- The run of a class at the head. -/
def runOf (p : UInt8 → Bool) (l : List UInt8) : Nat := (l.takeWhile p).length

theorem wlen_max {l : List UInt8} (h : l ≠ []) : wlen l = max 1 (max (runOf isLet l) (runOf isDig l)) := by
  cases l with
  | nil => exact absurd rfl h
  | cons c t =>
    unfold wlen runOf
    simp only [List.takeWhile_cons]
    cases h1 : isLet c
    · cases h2 : isDig c
      · simp
      · simp; omega
    · simp [let_not_dig h1]; omega

theorem tw_idem (p : UInt8 → Bool) : ∀ t : List UInt8, ((t.take (t.takeWhile p).length).takeWhile p).length = (t.takeWhile p).length := by
  intro t
  induction t with
  | nil => rfl
  | cons c t ih =>
    rw [List.takeWhile_cons]
    cases h : p c
    · simp
    · simp [h, ih]

theorem wlen_cons (c : UInt8) (t : List UInt8) : wlen (c :: t) = if isLet c = true then 1 + (t.takeWhile isLet).length else if isDig c = true then 1 + (t.takeWhile isDig).length else 1 := rfl
theorem wlen_take {l : List UInt8} (h : l ≠ []) : wlen (l.take (wlen l)) = wlen l := by
  cases l with
  | nil => exact absurd rfl h
  | cons c t =>
    have h1 := tw_idem isLet t
    have h2 := tw_idem isDig t
    rw [wlen_cons c t]
    cases e1 : isLet c
    · cases e2 : isDig c
      · simp [wlen_cons, e1, e2]
      · simp only [Bool.false_eq_true, if_false, if_true]
        rw [Nat.add_comm 1, List.take_succ_cons, wlen_cons]
        simp only [e1, e2, Bool.false_eq_true, if_false, if_true, h2]; omega
    · simp only [if_true]
      rw [Nat.add_comm 1, List.take_succ_cons, wlen_cons]
      simp only [e1, if_true, h1]; omega

theorem word_of_head {l : List UInt8} (h : l ≠ []) (h1 : l.head? ≠ some 32) (h2 : tokKind (l.take (wlen l)) ≠ 0) : Word (l.take (wlen l)) := by
  have hw := wlen_pos h
  refine ⟨?_, ?_, ?_, h2⟩
  · cases l with
    | nil => exact absurd rfl h
    | cons c t =>
      obtain ⟨k, hk⟩ : ∃ k, wlen (c :: t) = k + 1 := ⟨wlen (c :: t) - 1, by omega⟩
      rw [hk]; simp
  · cases l with
    | nil => exact absurd rfl h
    | cons c t =>
      obtain ⟨k, hk⟩ : ∃ k, wlen (c :: t) = k + 1 := ⟨wlen (c :: t) - 1, by omega⟩
      rw [hk]; simpa using h1
  · rw [wlen_take h, List.length_take]; omega

/-- Every word of a text is a word by itself, and of its kind. -/
theorem toks_words : ∀ (f a : Nat) (l : List UInt8) (ts : List T), toks f a l = some ts → ∀ t ∈ ts, Word t.s ∧ t.kind = tokKind t.s ∧ t.s.length ≤ l.length ∧ a ≤ t.col ∧ t.col + t.s.length ≤ a + l.length := by
  intro f
  induction f with
  | zero => intro a l ts h; simp [toks] at h
  | succ f ih =>
    intro a l ts h
    rcases toks_cases l with rfl | ⟨t, rfl⟩ | ⟨hn, hs⟩
    · simp [toks_nil] at h; subst h; simp
    · rw [toks_space] at h
      intro x hx
      have := ih _ _ _ h x hx
      simp only [List.length_cons]
      exact ⟨this.1, this.2.1, by omega, by omega, by omega⟩
    · by_cases hk : tokKind (l.take (wlen l)) = 0
      · rw [toks_bad hn hs hk] at h; cases h
      · rw [toks_word hn hs hk] at h
        have hw := wlen_pos hn
        cases hr : toks f (a + wlen l) (l.drop (wlen l)) with
        | none => rw [hr] at h; cases h
        | some r =>
          rw [hr] at h
          simp only [Option.map_some, Option.some.injEq] at h
          subst h
          intro x hx
          rcases List.mem_cons.1 hx with rfl | hx
          · refine ⟨word_of_head hn hs hk, rfl, ?_, Nat.le_refl _, ?_⟩ <;> simp only [List.length_take] <;> omega
          · have := ih _ _ _ hr x hx
            rw [List.length_drop] at this
            exact ⟨this.1, this.2.1, by omega, by omega, by omega⟩

/-- How the words of a text lie in it, from the end of one that is of kind pk. -/
def LaidFrom (L : List UInt8) : Nat → Nat → List T → Prop
  | a, _, [] => ∀ j, a ≤ j → j < L.length → L[j]? = some 32
  | a, pk, t :: ts => a ≤ t.col ∧ (∀ j, a ≤ j → j < t.col → L[j]? = some 32) ∧ t.col + t.s.length ≤ L.length ∧ (L.drop t.col).take t.s.length = t.s ∧ t.kind = tokKind t.s ∧ (t.col = a → t.kind = pk → t.kind = 3) ∧ LaidFrom L (t.col + t.s.length) t.kind ts

theorem tw_next (p : UInt8 → Bool) : ∀ (t : List UInt8) (c : UInt8), (t.drop (t.takeWhile p).length).head? = some c → p c = false := by
  intro t
  induction t with
  | nil => intro c h; simp at h
  | cons d t ih =>
    intro c h
    rw [List.takeWhile_cons] at h
    cases e : p d
    · rw [e] at h; simp at h; subst h; exact e
    · rw [e] at h; simp at h; exact ih c (by simpa using h)

/-- What may stand behind a word. -/
def Adj (pk : Nat) (l : List UInt8) : Prop := ∀ c, l.head? = some c → (pk = 1 → isLet c = false) ∧ (pk = 2 → isDig c = false)

theorem kind_let {c : UInt8} {t : List UInt8} (h : tokKind (c :: t) = 1) : isLet c = true := by
  unfold tokKind at h
  split at h
  · rename_i w; simp [tokWord] at w; exact w.2.1
  · split at h
    · cases h
    · split at h <;> cases h
theorem kind_dig {c : UInt8} {t : List UInt8} (h : tokKind (c :: t) = 2) : isDig c = true := by
  unfold tokKind at h
  split at h
  · cases h
  · split at h
    · rename_i w; simp [tokNum] at w; exact w.1.1.2.1
    · split at h <;> cases h

theorem adj_word {l : List UInt8} (h : l ≠ []) : Adj (tokKind (l.take (wlen l))) (l.drop (wlen l)) := by
  cases l with
  | nil => exact absurd rfl h
  | cons c t =>
    intro d hd
    have hw := wlen_pos h
    obtain ⟨k, hk⟩ : ∃ k, wlen (c :: t) = k + 1 := ⟨wlen (c :: t) - 1, by omega⟩
    have htake : (c :: t).take (wlen (c :: t)) = c :: t.take k := by rw [hk, List.take_succ_cons]
    rw [htake]
    constructor
    · intro h1
      have hc := kind_let h1
      have : wlen (c :: t) = 1 + (t.takeWhile isLet).length := by simp [wlen, hc]
      rw [this, Nat.add_comm, List.drop_succ_cons] at hd
      exact tw_next _ _ _ hd
    · intro h1
      have hc := kind_dig h1
      have : wlen (c :: t) = 1 + (t.takeWhile isDig).length := by simp [wlen, hc, dig_not_let hc]
      rw [this, Nat.add_comm, List.drop_succ_cons] at hd
      exact tw_next _ _ _ hd

theorem toks_laid (L : List UInt8) : ∀ (f a0 a pk : Nat) (ts : List T), toks f a (L.drop a) = some ts → a0 ≤ a → a ≤ L.length → (∀ j, a0 ≤ j → j < a → L[j]? = some 32) → (a = a0 → Adj pk (L.drop a)) → LaidFrom L a0 pk ts := by
  intro f
  induction f with
  | zero => intro a0 a pk ts h; simp [toks] at h
  | succ f ih =>
    intro a0 a pk ts h h0 hL hsp hadj
    rcases toks_cases (L.drop a) with hd | ⟨t, hd⟩ | ⟨hn, hs⟩
    · rw [hd, toks_nil] at h
      simp at h; subst h
      have : L.length ≤ a := by simpa using List.drop_eq_nil_iff.1 hd
      intro j hj1 hj2
      exact hsp j hj1 (by omega)
    · have ha : a < L.length := by
        rcases Nat.lt_or_ge a L.length with h1 | h1
        · exact h1
        · rw [List.drop_eq_nil_of_le h1] at hd; cases hd
      have hx : L[a]? = some 32 := by
        have : (L.drop a)[0]? = some 32 := by rw [hd]; rfl
        simpa using this
      rw [hd, toks_space] at h
      have ht : t = L.drop (a + 1) := by
        have := congrArg List.tail hd
        simpa using this.symm
      rw [ht] at h
      exact ih a0 (a + 1) pk ts h (by omega) (by omega) (fun j h1 h2 => by
        by_cases hj : j = a
        · subst hj; exact hx
        · exact hsp j h1 (by omega)) (fun e => by omega)
    · by_cases hk : tokKind ((L.drop a).take (wlen (L.drop a))) = 0
      · rw [toks_bad hn hs hk] at h; cases h
      · rw [toks_word hn hs hk, List.drop_drop] at h
        have hw := wlen_pos hn
        rw [List.length_drop] at hw
        cases hr : toks f (a + wlen (L.drop a)) (L.drop (a + wlen (L.drop a))) with
        | none => rw [hr] at h; cases h
        | some r =>
          rw [hr] at h
          simp only [Option.map_some, Option.some.injEq] at h
          subst h
          have hlen : ((L.drop a).take (wlen (L.drop a))).length = wlen (L.drop a) := by rw [List.length_take, List.length_drop]; omega
          refine ⟨h0, hsp, ?_, ?_, rfl, ?_, ?_⟩
          · simp only [hlen]; omega
          · simp only [hlen]
          · intro e1 e2
            simp only at e1 e2
            have hA := hadj e1
            simp only
            have hle := tokKind_le ((L.drop a).take (wlen (L.drop a)))
            obtain ⟨c, t, hct⟩ : ∃ c t, L.drop a = c :: t := by
              cases h : L.drop a with
              | nil => exact absurd h hn
              | cons c t => exact ⟨c, t, rfl⟩
            have hAc := hA c (by rw [hct]; rfl)
            have hw1 := wlen_pos hn
            obtain ⟨k, hk'⟩ : ∃ k, wlen (L.drop a) = k + 1 := ⟨wlen (L.drop a) - 1, by omega⟩
            rw [hk', hct, List.take_succ_cons] at e2 hk hle ⊢
            rcases (show tokKind (c :: t.take k) = 1 ∨ tokKind (c :: t.take k) = 2 ∨ tokKind (c :: t.take k) = 3 by omega) with h1 | h1 | h1
            · have := hAc.1 (by omega); rw [kind_let h1] at this; cases this
            · have := hAc.2 (by omega); rw [kind_dig h1] at this; cases this
            · exact h1
          · simp only [hlen]
            exact ih _ _ _ _ hr (Nat.le_refl _) (by omega) (fun j h1 h2 => by omega) (fun _ => by
              have := adj_word hn
              rw [List.drop_drop] at this
              exact this)

theorem words_laid {L : List UInt8} {ts : List T} (h : words L = some ts) : LaidFrom L 0 0 ts :=
  toks_laid L _ 0 0 0 ts (by simpa [words] using h) (Nat.le_refl _) (Nat.zero_le _) (fun j h1 h2 => by omega) (fun _ c hc => by simp)

theorem toks_pad : ∀ (k f a : Nat) (l : List UInt8), toks (f + k) a (List.replicate k 32 ++ l) = toks f (a + k) l := by
  intro k
  induction k with
  | zero => intro f a l; simp
  | succ k ih =>
    intro f a l
    rw [List.replicate_succ, List.cons_append, ← Nat.add_assoc, toks_space, ih, show a + 1 + k = a + (k + 1) by omega]
theorem words_pad (k : Nat) (l : List UInt8) : words (List.replicate k 32 ++ l) = (words l).map (·.map (sh k)) := by
  unfold words
  rw [List.length_append, List.length_replicate, show k + l.length + 1 = (l.length + 1) + k by omega, toks_pad, toks_shift]
theorem words_spaces : ∀ k : Nat, words (List.replicate k 32) = some [] := by
  intro k
  have := words_pad k []
  rw [List.append_nil] at this
  rw [this]; rfl
theorem words_back (k : Nat) (l : List UInt8) : words (l ++ List.replicate k 32) = words l := by
  cases k with
  | zero => simp
  | succ k =>
    rw [List.replicate_succ, words_cat, words_spaces]
    cases words l <;> simp

theorem place_get : ∀ (ws : List (List UInt8)) (a i : Nat) (h : i < ws.length), ∃ t, (place a ws)[i]? = some t ∧ t.s = ws[i] ∧ t.kind = tokKind ws[i] := by
  intro ws
  induction ws with
  | nil => intro a i h; simp at h
  | cons w r ih =>
    intro a i h
    cases i with
    | zero => exact ⟨_, rfl, rfl, rfl⟩
    | succ i => simpa [place] using ih (a + w.length + 1) i (by simpa using h)
theorem place_length : ∀ (ws : List (List UInt8)) (a : Nat), (place a ws).length = ws.length
  | [], _ => rfl
  | w :: r, a => by simp [place, place_length r]

/-- Writing the words of a text anew. -/
theorem words_again {l : List UInt8} {ts : List T} (h : words l = some ts) : words (tokText (ts.map (·.s))) = some (place 0 (ts.map (·.s))) :=
  words_text _ fun w hw => by
    obtain ⟨t, ht, rfl⟩ := List.mem_map.1 hw
    exact (toks_words _ _ _ _ h t ht).1
end Ilp
