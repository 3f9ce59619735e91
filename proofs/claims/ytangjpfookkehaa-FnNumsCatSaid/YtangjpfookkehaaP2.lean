/- Plain laws of numbers as letters: no program in sight. -/
namespace Ilp

/-- The letter of a digit. -/
def letr (d : Nat) : UInt8 := if d < 16 then UInt8.ofNat (97 + d) else UInt8.ofNat (49 + d)

def letters : List UInt8 := (List.range 32).map letr

/-- The digits of a number, the lowest first. -/
def digs (n : Nat) : List UInt8 := if h : n < 16 then [letr n] else letr (16 + n % 16) :: digs (n / 16)
termination_by n
decreasing_by omega

def zig (n : Int) : Nat := if n < 0 then (-2 * n + 1).toNat else (2 * n).toNat
def unzig (v : Nat) : Int := if v % 2 = 1 then -((v / 2 : Nat) : Int) else ((v / 2 : Nat) : Int)
def numOk (n : Int) : Bool := decide (-1000000 ≤ n) && decide (n ≤ 1000000)
def numText (n : Int) : List UInt8 := if numOk n = true then digs (zig n) else []

/-- The digit of a letter. -/
def dig (c : UInt8) : Option Nat := if 97 ≤ c.toNat ∧ c.toNat ≤ 112 then some (c.toNat - 97) else if 65 ≤ c.toNat ∧ c.toNat ≤ 80 then some (c.toNat - 49) else none

/-- The number whose digits stand at the head, and how many they are. -/
def scan : List UInt8 → Option (Nat × Nat)
  | [] => none
  | c :: t => match dig c with
    | none => none
    | some d => if d < 16 then some (d, 1) else match scan t with
      | none => none
      | some (v, l) => some (d % 16 + 16 * v, l + 1)

def rd (t : List UInt8) : Option (Int × Nat) := match scan t with
  | none => none
  | some (v, l) => if numText (unzig v) = t.take l then some (unzig v, l) else none

def readAt (s : List UInt8) (a : Int) : Int × Int := if 0 ≤ a then (match rd (s.drop a.toNat) with | some (n, l) => (n, a + l) | none => (0, -1)) else (0, -1)

theorem dig_letr : ∀ d, d < 32 → dig (letr d) = some d := by decide
theorem letr_inj {a b : Nat} (ha : a < 32) (hb : b < 32) (h : letr a = letr b) : a = b := by
  have := dig_letr a ha; rw [h, dig_letr b hb] at this; injection this with this; exact this.symm
theorem letr_of_dig : ∀ c : UInt8, ∀ d, dig c = some d → d < 32 ∧ letr d = c := by
  intro c d h
  unfold dig at h
  have hc := c.toNat_lt
  split at h
  · injection h with h; subst h
    refine ⟨by omega, ?_⟩
    unfold letr; rw [if_pos (by omega)]
    apply UInt8.toNat_inj.1; rw [UInt8.toNat_ofNat']; omega
  · split at h
    · injection h with h; subst h
      refine ⟨by omega, ?_⟩
      unfold letr; rw [if_neg (by omega)]
      apply UInt8.toNat_inj.1; rw [UInt8.toNat_ofNat']; omega
    · cases h

theorem digs_small {n : Nat} (h : n < 16) : digs n = [letr n] := by rw [digs, dif_pos h]
theorem digs_big {n : Nat} (h : ¬ n < 16) : digs n = letr (16 + n % 16) :: digs (n / 16) := by rw [digs, dif_neg h]

theorem digs_pos (n : Nat) : 1 ≤ (digs n).length := by
  by_cases h : n < 16
  · rw [digs_small h]; simp
  · rw [digs_big h]; simp

theorem scan_digs (n : Nat) : ∀ r, scan (digs n ++ r) = some (n, (digs n).length) := by
  induction n using Nat.strongRecOn with
  | ind n ih =>
    intro r
    by_cases h : n < 16
    · rw [digs_small h]; simp [scan, dig_letr n (by omega), h]
    · rw [digs_big h]
      simp only [List.cons_append, scan, dig_letr (16 + n % 16) (by omega), ih (n / 16) (by omega) r, List.length_cons]
      rw [if_neg (by omega)]
      simp; omega

theorem unzig_zig (n : Int) : unzig (zig n) = n := by
  unfold unzig zig
  by_cases h : n < 0
  · rw [if_pos h, if_pos (by omega)]; omega
  · rw [if_neg h, if_neg (by omega)]; omega

theorem numText_ok {n : Int} (h : numOk n = true) : numText n = digs (zig n) := by unfold numText; rw [if_pos h]
theorem numText_no {n : Int} (h : numOk n = false) : numText n = [] := by unfold numText; rw [if_neg (by simp [h])]
theorem numText_ne {n : Int} (h : numOk n = true) : numText n ≠ [] := by
  rw [numText_ok h]; have := digs_pos (zig n); intro e; rw [e] at this; simp at this
theorem numText_nil (n : Int) : numText n = [] ↔ numOk n = false := by
  constructor
  · intro h; cases e : numOk n; · rfl
    · exact absurd h (numText_ne e)
  · exact numText_no

theorem rd_numText {n : Int} (h : numOk n = true) (r : List UInt8) : rd (numText n ++ r) = some (n, (numText n).length) := by
  unfold rd
  rw [numText_ok h, scan_digs]
  simp only [unzig_zig, numText_ok h, List.take_left, ↓reduceIte]

theorem scan_len : ∀ t v l, scan t = some (v, l) → 1 ≤ l ∧ l ≤ t.length := by
  intro t
  induction t with
  | nil => intro v l h; simp [scan] at h
  | cons c t ih =>
    intro v l h
    simp only [scan] at h
    cases hd : dig c with
    | none => rw [hd] at h; simp at h
    | some d =>
      rw [hd] at h; simp only [] at h
      split at h
      · injection h with h; injection h with h1 h2; subst h2; simp
      · cases hs : scan t with
        | none => rw [hs] at h; simp at h
        | some p =>
          obtain ⟨v', l'⟩ := p
          rw [hs] at h; simp only [] at h
          injection h with h; injection h with h1 h2
          have := ih v' l' hs
          subst h2; simp; omega

theorem rd_some {t : List UInt8} {n : Int} {l : Nat} (h : rd t = some (n, l)) : numOk n = true ∧ numText n = t.take l ∧ 1 ≤ l ∧ l ≤ t.length := by
  unfold rd at h
  cases hs : scan t with
  | none => rw [hs] at h; simp at h
  | some p =>
    obtain ⟨v, l'⟩ := p
    rw [hs] at h; simp only [] at h
    split at h
    · rename_i he
      injection h with h; injection h with h1 h2; subst h1; subst h2
      have := scan_len t v l' hs
      refine ⟨?_, he, this⟩
      cases e : numOk (unzig v)
      · rw [numText_no e] at he
        have := congrArg List.length he
        simp at this; omega
      · rfl
    · cases h

theorem digs_mono : ∀ b a, a ≤ b → (digs a).length ≤ (digs b).length := by
  intro b
  induction b using Nat.strongRecOn with
  | ind b ih =>
    intro a h
    by_cases hb : b < 16
    · rw [digs_small hb, digs_small (by omega)]; simp
    · by_cases ha : a < 16
      · rw [digs_small ha]; exact digs_pos b
      · rw [digs_big hb, digs_big ha]; simp; exact ih (b / 16) (by omega) (a / 16) (by omega)

theorem digs_twice (n : Nat) : (digs (2 * n + 1)).length = (digs (2 * n)).length := by
  by_cases h : 2 * n < 16
  · rw [digs_small h, digs_small (by omega)]; simp
  · rw [digs_big h, digs_big (by omega)]
    rw [show (2 * n + 1) / 16 = 2 * n / 16 by omega]; simp

theorem digs_le (k : Nat) : ∀ n, n < 16 ^ (k + 1) → (digs n).length ≤ k + 1 := by
  induction k with
  | zero => intro n h; rw [digs_small (by simpa using h)]; simp
  | succ k ih =>
    intro n h
    by_cases hn : n < 16
    · rw [digs_small hn]; simp
    · rw [digs_big hn]; simp
      apply ih; rw [Nat.pow_succ] at h; omega

theorem zig_le {n : Int} (h : numOk n = true) : zig n ≤ 2000001 := by
  unfold numOk at h; simp at h; unfold zig; split <;> omega

theorem numText_len (n : Int) : (numText n).length ≤ 6 := by
  cases e : numOk n
  · rw [numText_no e]; simp
  · rw [numText_ok e]; exact digs_le 5 _ (by have := zig_le e; omega)

/-- Numbers' letters one behind the other. -/
def numsText (l : List Int) : List UInt8 := if l.all numOk = true then l.flatMap numText else []

/-- The numbers of which this is the text. -/
def reads (fuel : Nat) (t : List UInt8) : Option (List Int) := match fuel with
  | 0 => none
  | f + 1 => if t = [] then some [] else match rd t with
    | none => none
    | some (n, l) => (reads f (t.drop l)).map (n :: ·)

theorem reads_cat : ∀ (l : List Int) (r : List UInt8) (f : Nat), (∀ n ∈ l, numOk n = true) → reads (f + l.length) (l.flatMap numText ++ r) = (reads f r).map (l ++ ·) := by
  intro l
  induction l with
  | nil => intro r f _; simp
  | cons n l ih =>
    intro r f h
    have hn := h n (by simp)
    rw [show f + (n :: l).length = (f + l.length) + 1 by simp; omega]
    simp only [List.flatMap_cons, List.append_assoc]
    rw [reads, if_neg (by intro e; exact numText_ne hn (List.append_eq_nil_iff.1 e).1), rd_numText hn]
    simp only [List.drop_left]
    rw [ih r f (fun m hm => h m (by simp [hm]))]
    cases reads f r <;> simp

theorem reads_sound : ∀ (f : Nat) (t : List UInt8) (l : List Int), reads f t = some l → (∀ n ∈ l, numOk n = true) ∧ l.flatMap numText = t := by
  intro f
  induction f with
  | zero => intro t l h; simp [reads] at h
  | succ f ih =>
    intro t l h
    rw [reads] at h
    split at h
    · rename_i e; injection h with h; subst h; subst e; simp
    · cases hr : rd t with
      | none => rw [hr] at h; simp at h
      | some p =>
        obtain ⟨n, k⟩ := p
        rw [hr] at h; simp only [] at h
        cases hq : reads f (t.drop k) with
        | none => rw [hq] at h; simp at h
        | some l' =>
          rw [hq] at h; simp at h; subst h
          have h1 := rd_some hr
          have h2 := ih _ _ hq
          constructor
          · intro m hm; simp at hm; rcases hm with rfl | hm; · exact h1.1
            · exact h2.1 m hm
          · simp [h2.2, h1.2.1]

/-- More fuel tells the same. -/
theorem reads_more : ∀ (f g : Nat) (t : List UInt8), t.length < f → t.length < g → reads f t = reads g t := by
  intro f
  induction f with
  | zero => intro g t h; omega
  | succ f ih =>
    intro g t h1 h2
    cases g with
    | zero => omega
    | succ g =>
      rw [reads, reads]
      by_cases e : t = []
      · rw [if_pos e, if_pos e]
      · rw [if_neg e, if_neg e]
        cases hr : rd t with
        | none => rfl
        | some p =>
          obtain ⟨n, k⟩ := p
          have := rd_some hr
          simp only []
          rw [ih g (t.drop k) (by rw [List.length_drop]; omega) (by rw [List.length_drop]; omega)]

def readAll (t : List UInt8) : Option (List Int) := reads (t.length + 1) t

theorem numText_pos {n : Int} (h : numOk n = true) : 1 ≤ (numText n).length := by
  have := numText_ne h; cases e : numText n <;> simp_all

theorem len_le_flat : ∀ (l : List Int), (∀ n ∈ l, numOk n = true) → l.length ≤ (l.flatMap numText).length := by
  intro l
  induction l with
  | nil => intro _; simp
  | cons n l ih =>
    intro h
    have h0 := ih (fun m hm => h m (by simp [hm]))
    have h1 := numText_pos (h n (by simp))
    simp only [List.flatMap_cons, List.length_append, List.length_cons]; omega

theorem flat_le : ∀ (l : List Int), (l.flatMap numText).length ≤ 6 * l.length := by
  intro l
  induction l with
  | nil => simp
  | cons n l ih =>
    have h1 := numText_len n
    simp only [List.flatMap_cons, List.length_append, List.length_cons]; omega

theorem reads_up : ∀ (f g : Nat) (t : List UInt8) (x : List Int), f ≤ g → reads f t = some x → reads g t = some x := by
  intro f
  induction f with
  | zero => intro g t x _ h; simp [reads] at h
  | succ f ih =>
    intro g t x hg h
    cases g with
    | zero => omega
    | succ g =>
      rw [reads] at h ⊢
      by_cases e : t = []
      · rw [if_pos e] at h ⊢; exact h
      · rw [if_neg e] at h ⊢
        cases hr : rd t with
        | none => rw [hr] at h; exact h
        | some p =>
          obtain ⟨n, k⟩ := p
          rw [hr] at h; simp only [] at h ⊢
          cases hq : reads f (t.drop k) with
          | none => rw [hq] at h; simp at h
          | some y => rw [ih g _ y (by omega) hq]; rw [hq] at h; exact h

theorem readAll_text (l : List Int) (h : ∀ n ∈ l, numOk n = true) : readAll (l.flatMap numText) = some l := by
  unfold readAll
  have e := reads_cat l [] 1 h
  have hr : reads 1 [] = some [] := by simp [reads]
  rw [hr] at e
  simp only [List.append_nil, Option.map_some] at e
  exact reads_up _ _ _ _ (by have := len_le_flat l h; omega) e

theorem readAll_sound {t : List UInt8} {l : List Int} (h : readAll t = some l) : (∀ n ∈ l, numOk n = true) ∧ l.flatMap numText = t := reads_sound _ _ _ h

theorem numsText_of {l : List Int} (h : ∀ n ∈ l, numOk n = true) : numsText l = l.flatMap numText := by
  unfold numsText; rw [if_pos (List.all_eq_true.2 h)]
theorem numsText_ok {l : List Int} (h : l.all numOk = true) : numsText l = l.flatMap numText := by unfold numsText; rw [if_pos h]
theorem numsText_no {l : List Int} (h : l.all numOk = false) : numsText l = [] := by unfold numsText; rw [if_neg (by simp [h])]
theorem numsText_ne {l : List Int} (h : numsText l ≠ []) : l.all numOk = true ∧ l ≠ [] := by
  cases e : l.all numOk
  · exact absurd (numsText_no e) h
  · refine ⟨rfl, ?_⟩; intro hl; subst hl; exact h (by simp [numsText])
theorem numsText_le (l : List Int) : (numsText l).length ≤ 6 * l.length := by
  cases e : l.all numOk
  · rw [numsText_no e]; simp
  · rw [numsText_ok e]; exact flat_le l

/-- The letters ahead of a number's last one are no whole number. -/
theorem scan_torn (n : Nat) : scan ((digs n).dropLast) = none := by
  induction n using Nat.strongRecOn with
  | ind n ih =>
    by_cases h : n < 16
    · rw [digs_small h]; simp [scan]
    · rw [digs_big h]
      have hp := digs_pos (n / 16)
      rw [List.dropLast_cons_of_ne_nil (by intro e; rw [e] at hp; simp at hp)]
      simp only [scan, dig_letr (16 + n % 16) (by omega), ih (n / 16) (by omega)]
      rw [if_neg (by omega)]

theorem rd_torn {n : Int} (h : numOk n = true) : rd ((numText n).dropLast) = none := by
  unfold rd; rw [numText_ok h, scan_torn]

/-- Cut in the last number: read just if that has one letter. -/
theorem readAll_torn (l : List Int) (n : Int) (hl : ∀ m ∈ l, numOk m = true) (hn : numOk n = true) :
    (readAll (l.flatMap numText ++ (numText n).dropLast)).isSome = decide ((numText n).length = 1) := by
  by_cases h1 : (numText n).length = 1
  · have : (numText n).dropLast = [] := by
      apply List.eq_nil_of_length_eq_zero; rw [List.length_dropLast]; omega
    rw [this, List.append_nil, readAll_text l hl]; simp [h1]
  · have hp := numText_pos hn
    have hne : (numText n).dropLast ≠ [] := by
      intro e; have := congrArg List.length e; rw [List.length_dropLast] at this; simp at this; omega
    have e := reads_cat l ((numText n).dropLast) 1 hl
    have hr : reads 1 ((numText n).dropLast) = none := by rw [reads, if_neg hne, rd_torn hn]
    rw [hr] at e; simp only [Option.map_none] at e
    cases hq : readAll (l.flatMap numText ++ (numText n).dropLast) with
    | none => simp [h1]
    | some x =>
      exfalso
      have hs := readAll_sound hq
      -- read with as much fuel as e's: compare
      have h2 : reads (1 + l.length) (l.flatMap numText ++ (numText n).dropLast) = none := e
      -- x begins with l
      have key : ∀ (l : List Int) (x : List Int), (∀ m ∈ l, numOk m = true) → (∀ m ∈ x, numOk m = true) → x.flatMap numText = l.flatMap numText ++ (numText n).dropLast → False := by
        intro l
        induction l with
        | nil =>
          intro x _ hx he
          cases x with
          | nil => simp at he; exact hne he
          | cons m x =>
            have := rd_numText (hx m (by simp)) (x.flatMap numText)
            rw [List.flatMap_cons] at he
            rw [he] at this; simp only [List.flatMap_nil, List.nil_append] at this
            rw [rd_torn hn] at this; cases this
        | cons k l ih =>
          intro x hl hx he
          cases x with
          | nil =>
            simp only [List.flatMap_nil, List.flatMap_cons] at he
            have := numText_pos (hl k (by simp))
            have h3 := congrArg List.length he
            simp only [List.length_nil, List.length_append] at h3; omega
          | cons m x =>
            have h3 := rd_numText (hx m (by simp)) (x.flatMap numText)
            have h4 := rd_numText (hl k (by simp)) (l.flatMap numText ++ (numText n).dropLast)
            simp only [List.flatMap_cons, List.append_assoc] at he
            rw [he, h4] at h3
            injection h3 with h3; injection h3 with h3 h5; subst h3
            exact ih x (fun m hm => hl m (by simp [hm])) (fun m hm => hx m (by simp [hm])) (List.append_cancel_left he)
      exact key l x hl hs.1 hs.2

theorem readAt_at (p : List UInt8) {n : Int} (h : numOk n = true) (r : List UInt8) : readAt (p ++ (numText n ++ r)) p.length = (n, (p.length : Int) + (numText n).length) := by
  unfold readAt
  rw [if_pos (by omega)]
  simp only [Int.toNat_natCast, List.drop_left, rd_numText h]

theorem readAt_cases (s : List UInt8) (a : Int) : (readAt s a = (0, -1)) ∨ ∃ n l, 0 ≤ a ∧ rd (s.drop a.toNat) = some (n, l) ∧ readAt s a = (n, a + l) := by
  unfold readAt
  by_cases h : 0 ≤ a
  · rw [if_pos h]
    cases hr : rd (s.drop a.toNat) with
    | none => exact .inl rfl
    | some p => obtain ⟨n, l⟩ := p; exact .inr ⟨n, l, h, rfl, rfl⟩
  · rw [if_neg h]; exact .inl rfl

theorem numText_pre {n m : Int} (hn : numOk n = true) (hm : numOk m = true) (r : List UInt8) (h : numText m = numText n ++ r) : n = m := by
  have h1 := rd_numText hm []
  have h2 := rd_numText hn r
  rw [List.append_nil, h, h2] at h1
  injection h1 with h1; injection h1 with h1 _

theorem numText_inj {n m : Int} (hn : numOk n = true) (hm : numOk m = true) (h : numText m = numText n) : n = m := numText_pre hn hm [] (by simpa using h)

/-- How many digits of sixteen. -/
def hexes (k : Nat) : Nat := if h : k < 16 then 1 else 1 + hexes (k / 16)
termination_by k
decreasing_by omega
theorem hexes_digs (n : Nat) : hexes n = (digs n).length := by
  induction n using Nat.strongRecOn with
  | ind n ih =>
    by_cases h : n < 16
    · rw [hexes, dif_pos h, digs_small h]; rfl
    · rw [hexes, dif_neg h, digs_big h, ih (n / 16) (by omega)]; simp; omega
theorem digs_head (n : Nat) : ∃ d t, d < 32 ∧ d % 2 = n % 2 ∧ digs n = letr d :: t := by
  by_cases h : n < 16
  · exact ⟨n, [], by omega, rfl, digs_small h⟩
  · exact ⟨16 + n % 16, _, by omega, by omega, digs_big h⟩
theorem zig_odd (n : Int) : zig n % 2 = if n < 0 then 1 else 0 := by unfold zig; split <;> omega
theorem zig_len (n : Int) : (digs (zig n)).length = (digs (2 * n.natAbs)).length := by
  unfold zig
  by_cases h : n < 0
  · rw [if_pos h, ← digs_twice]; congr 2; omega
  · rw [if_neg h]; congr 2; omega
theorem numText_step {n : Int} (h0 : 0 ≤ n) (h1 : n < 1000000) : (numText n).length ≤ (numText (n + 1)).length ∧ (numText (-n)).length = (numText n).length := by
  have a : numOk n = true := by simp [numOk]; omega
  have b : numOk (n + 1) = true := by simp [numOk]; omega
  have c : numOk (-n) = true := by simp [numOk]; omega
  rw [numText_ok a, numText_ok b, numText_ok c, zig_len, zig_len, zig_len, Int.natAbs_neg]
  exact ⟨digs_mono _ _ (by omega), rfl⟩

/-- The first k digits, all with one more behind, come to v. -/
def scanned (T : List UInt8) (k v : Nat) : Prop :=
  v < 16 ^ k ∧ scan T = (scan (T.drop k)).map fun p => (v + 16 ^ k * p.1, k + p.2)
theorem scanned_zero (T : List UInt8) : scanned T 0 0 := by
  refine ⟨by omega, ?_⟩
  cases h : scan T <;> simp [h]
theorem drop_at {T : List UInt8} {k : Nat} {c : UInt8} (hc : T[k]? = some c) : T.drop k = c :: T.drop (k + 1) := by
  obtain ⟨h, e⟩ := List.getElem?_eq_some_iff.1 hc
  rw [List.drop_eq_getElem_cons h, e]
theorem scanned_step {T : List UInt8} {k v d : Nat} {c : UInt8} (h : scanned T k v) (hc : T[k]? = some c) (hd : dig c = some d) (h16 : 16 ≤ d) : scanned T (k + 1) (v + d % 16 * 16 ^ k) := by
  obtain ⟨h1, h2⟩ := h
  have hm : d % 16 < 16 := Nat.mod_lt _ (by omega)
  refine ⟨?_, ?_⟩
  · have : d % 16 * 16 ^ k ≤ 15 * 16 ^ k := Nat.mul_le_mul_right _ (by omega)
    rw [Nat.pow_succ]; omega
  · rw [h2, drop_at hc, scan, hd]
    simp only []
    rw [if_neg (by omega)]
    cases hs : scan (T.drop (k + 1)) with
    | none => rfl
    | some p =>
      obtain ⟨v', l⟩ := p
      simp only [Option.map_some, Option.some.injEq, Prod.mk.injEq]
      refine ⟨?_, by omega⟩
      rw [Nat.pow_succ, Nat.mul_add, Nat.mul_assoc, Nat.mul_comm (d % 16)]; omega
theorem rd_bad {T : List UInt8} {k v : Nat} {c : UInt8} (h : scanned T k v) (hc : T[k]? = some c) (hd : dig c = none) : rd T = none := by
  unfold rd; rw [h.2, drop_at hc, scan, hd]; rfl
theorem rd_end {T : List UInt8} {k v : Nat} (h : scanned T k v) (hk : T.length ≤ k) : rd T = none := by
  unfold rd; rw [h.2, List.drop_eq_nil_of_le hk]; rfl
theorem rd_long {T : List UInt8} {k v : Nat} (h : scanned T k v) (hk : 7 ≤ k) : rd T = none := by
  unfold rd
  cases hs : scan T with
  | none => rfl
  | some p =>
    obtain ⟨V, L⟩ := p
    have hl := scan_len _ _ _ hs
    rw [h.2] at hs
    cases hq : scan (T.drop k) with
    | none => rw [hq] at hs; cases hs
    | some q =>
      rw [hq] at hs
      simp only [Option.map_some, Option.some.injEq, Prod.mk.injEq] at hs
      simp only []
      rw [if_neg]
      intro e
      have := congrArg List.length e
      rw [List.length_take] at this
      have := numText_len (unzig V)
      omega
theorem rd_last {T : List UInt8} {k v d : Nat} {c : UInt8} (h : scanned T k v) (hc : T[k]? = some c) (hd : dig c = some d) (h16 : d < 16) :
    rd T = if numText (unzig (v + d * 16 ^ k)) = T.take (k + 1) then some (unzig (v + d * 16 ^ k), k + 1) else none := by
  unfold rd
  rw [h.2, drop_at hc, scan, hd]
  simp only []
  rw [if_pos h16]
  simp only [Option.map_some, Nat.mul_comm (16 ^ k)]
theorem readAt_neg {s : List UInt8} {a : Int} (h : a < 0) : readAt s a = (0, -1) := by unfold readAt; rw [if_neg (by omega)]
theorem readAt_none {s : List UInt8} {a : Nat} (h : rd (s.drop a) = none) : readAt s (a : Int) = (0, -1) := by
  unfold readAt; rw [if_pos (by omega)]; simp only [Int.toNat_natCast, h]
theorem readAt_some {s : List UInt8} {a : Nat} {n : Int} {l : Nat} (h : rd (s.drop a) = some (n, l)) : readAt s (a : Int) = (n, (a : Int) + l) := by
  unfold readAt; rw [if_pos (by omega)]; simp only [Int.toNat_natCast, h]
theorem pow16_le {k : Nat} (h : k ≤ 8) : 16 ^ k ≤ 4294967296 := by
  have := Nat.pow_le_pow_right (n := 16) (by omega) h
  have e : 16 ^ 8 = 4294967296 := by decide
  omega

theorem readAll_nil : readAll [] = some [] := rfl
theorem readAll_bad {t : List UInt8} (h : t ≠ []) (hr : rd t = none) : readAll t = none := by
  unfold readAll; rw [reads, if_neg h, hr]
theorem readAll_step {t : List UInt8} {n : Int} {l : Nat} (hr : rd t = some (n, l)) : readAll t = (readAll (t.drop l)).map (n :: ·) := by
  have h := rd_some hr
  have hn : t ≠ [] := by intro e; subst e; have := h.2.2.2; simp at this; omega
  unfold readAll
  rw [reads, if_neg hn, hr]
  simp only []
  rw [reads_more t.length ((t.drop l).length + 1) (t.drop l) (by rw [List.length_drop]; omega) (by omega)]

/-- The numbers xs were read up to that byte. -/
def readTo (t : List UInt8) (xs : List Int) (a : Nat) : Prop := readAll t = (readAll (t.drop a)).map (xs ++ ·)
theorem readTo_zero (t : List UInt8) : readTo t [] 0 := by unfold readTo; cases h : readAll t <;> simp [h]
theorem readTo_step {t : List UInt8} {xs : List Int} {a : Nat} {n : Int} {l : Nat} (h : readTo t xs a) (hr : rd (t.drop a) = some (n, l)) : readTo t (xs ++ [n]) (a + l) := by
  unfold readTo at h ⊢
  rw [h, readAll_step hr, List.drop_drop]
  cases readAll (t.drop (a + l)) <;> simp
theorem readTo_end {t : List UInt8} {xs : List Int} {a : Nat} (h : readTo t xs a) (ha : t.length ≤ a) : readAll t = some xs := by
  unfold readTo at h; rw [h, List.drop_eq_nil_of_le ha, readAll_nil]; simp
theorem readTo_bad {t : List UInt8} {xs : List Int} {a : Nat} (h : readTo t xs a) (ha : a < t.length) (hr : rd (t.drop a) = none) : readAll t = none := by
  unfold readTo at h; rw [h, readAll_bad (by intro e; have := congrArg List.length e; simp at this; omega) hr]; rfl
theorem readTo_le {t : List UInt8} {xs : List Int} {a : Nat} (h : xs.length ≤ a) {n : Int} {l : Nat} (hr : rd (t.drop a) = some (n, l)) : (xs ++ [n]).length ≤ a + l := by
  have := (rd_some hr).2.2.1; simp; omega
end Ilp
