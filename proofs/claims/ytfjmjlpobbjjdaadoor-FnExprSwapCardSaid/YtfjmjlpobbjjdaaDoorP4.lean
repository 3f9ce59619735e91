/- What is reckoned, in plain Lean. -/
import Derived.Test.YtfjmjlpobbjjdaaDoorP3
namespace Ilp

inductive Ex where
  | mk (k n : Int) (s : List UInt8) (kids : List Ex)

inductive Bop | add | sub | mul | lt
deriving DecidableEq
inductive Tm where
  | num (n : Nat)
  | name (s : List UInt8)
  | two (o : Bop) (a b : Tm)
  | cast (t : Bool) (a : Tm)
deriving DecidableEq

def wLet : List UInt8 := [108, 101, 116]
def wSay : List UInt8 := [115, 97, 121]
def wWhen : List UInt8 := [119, 104, 101, 110]
def wAs : List UInt8 := [97, 115]
def wPrint : List UInt8 := [112, 114, 105, 110, 116]
def wIf : List UInt8 := [105, 102]
def wInt : List UInt8 := [105, 110, 116]
def wBool : List UInt8 := [98, 111, 111, 108]
def ownWords : List (List UInt8) := [wLet, wSay, wWhen, wAs, wPrint, wIf, wInt, wBool]

def isType (s : List UInt8) : Bool := s == wInt || s == wBool
def isName (s : List UInt8) : Bool := tokWord s && !ownWords.contains s
def tyText (b : Bool) : List UInt8 := if b = true then wBool else wInt
def opText : Bop → List UInt8
  | .add => [43]
  | .sub => [45]
  | .mul => [42]
  | .lt => [60]
def opOf (s : List UInt8) : Option Bop := if s = [43] then some .add else if s = [45] then some .sub else if s = [42] then some .mul else if s = [60] then some .lt else none
def typeOf (s : List UInt8) : Option Bool := if s = wInt then some false else if s = wBool then some true else none
def lev : Bop → Nat
  | .add => 2
  | .sub => 2
  | .mul => 3
  | .lt => 1

def Tm.size : Tm → Nat
  | .num _ => 1
  | .name _ => 1
  | .two _ a b => 1 + a.size + b.size
  | .cast _ a => 1 + a.size
def Tm.depth : Tm → Nat
  | .num _ => 1
  | .name _ => 1
  | .two _ a b => 1 + max a.depth b.depth
  | .cast _ a => 1 + a.depth
def Tm.valid : Tm → Bool
  | .num n => decide (n ≤ 1000000)
  | .name s => isName s
  | .two _ a b => a.valid && b.valid
  | .cast _ a => a.valid
def Tm.toEx : Tm → Ex
  | .num n => .mk 1 n [] []
  | .name s => .mk 2 0 s []
  | .two o a b => .mk 3 0 (opText o) [a.toEx, b.toEx]
  | .cast t a => .mk 4 0 (tyText t) [a.toEx]

/-- What is reckoned, if it is as it must be and not deeper than so. -/
def ofEx : Nat → Ex → Option Tm
  | 0, _ => none
  | d + 1, .mk k n s ks =>
    if k = 1 then (if 0 ≤ n ∧ n ≤ 1000000 ∧ s = [] then (match ks with | [] => some (.num n.toNat) | _ => none) else none)
    else if k = 2 then (if n = 0 ∧ isName s = true then (match ks with | [] => some (.name s) | _ => none) else none)
    else if k = 3 then (if n = 0 then (match opOf s, ks with
      | some o, [a, b] => (match ofEx d a, ofEx d b with
        | some x, some y => some (.two o x y)
        | _, _ => none)
      | _, _ => none) else none)
    else if k = 4 then (if n = 0 then (match typeOf s, ks with
      | some t, [a] => (match ofEx d a with
        | some x => some (.cast t x)
        | none => none)
      | _, _ => none) else none)
    else none

theorem opOf_text (o : Bop) : opOf (opText o) = some o := by cases o <;> rfl
theorem opOf_some {s : List UInt8} {o : Bop} (h : opOf s = some o) : s = opText o := by
  unfold opOf at h
  split at h; · rename_i e; injection h with h; subst h; exact e
  split at h; · rename_i e; injection h with h; subst h; exact e
  split at h; · rename_i e; injection h with h; subst h; exact e
  split at h; · rename_i e; injection h with h; subst h; exact e
  cases h
theorem typeOf_text (t : Bool) : typeOf (tyText t) = some t := by cases t <;> rfl
theorem typeOf_some {s : List UInt8} {t : Bool} (h : typeOf s = some t) : s = tyText t := by
  unfold typeOf at h
  split at h; · rename_i e; injection h with h; subst h; exact e
  split at h; · rename_i e; injection h with h; subst h; exact e
  cases h
theorem typeOf_isType (s : List UInt8) : (typeOf s).isSome = isType s := by
  unfold typeOf isType
  by_cases h : s = wInt
  · simp [h]
  · by_cases h2 : s = wBool
    · subst h2; decide
    · simp [h, h2]

theorem ofEx_some : ∀ (d : Nat) (e : Ex) (t : Tm), ofEx d e = some t → t.toEx = e ∧ t.depth ≤ d ∧ t.valid = true := by
  intro d
  induction d with
  | zero => intro e t h; simp [ofEx] at h
  | succ d ih =>
    intro e t h
    obtain ⟨k, n, s, ks⟩ := e
    unfold ofEx at h
    split at h
    · rename_i hk
      split at h
      · rename_i hn
        split at h
        · injection h with h; subst h; subst hk; obtain ⟨h1, h2, h3⟩ := hn; subst h3
          refine ⟨?_, by simp [Tm.depth], by simp [Tm.valid]; omega⟩
          simp [Tm.toEx, Int.toNat_of_nonneg h1]
        · cases h
      · cases h
    split at h
    · rename_i hk
      split at h
      · rename_i hn
        split at h
        · injection h with h; subst h; subst hk; obtain ⟨h1, h2⟩ := hn; subst h1
          exact ⟨rfl, by simp [Tm.depth], h2⟩
        · cases h
      · cases h
    split at h
    · rename_i hk
      split at h
      · rename_i hn
        split at h
        · rename_i o a b ho
          split at h
          · rename_i x y hx hy
            injection h with h; subst h; subst hk; subst hn
            have h1 := ih _ _ hx
            have h2 := ih _ _ hy
            refine ⟨by simp [Tm.toEx, h1.1, h2.1, opOf_some ho], by simp [Tm.depth]; omega, by simp [Tm.valid, h1.2.2, h2.2.2]⟩
          · cases h
        · cases h
      · cases h
    split at h
    · rename_i hk
      split at h
      · rename_i hn
        split at h
        · rename_i t' a ht
          split at h
          · rename_i x hx
            injection h with h; subst h; subst hk; subst hn
            have h1 := ih _ _ hx
            refine ⟨by simp [Tm.toEx, h1.1, typeOf_some ht], by simp [Tm.depth]; omega, by simp [Tm.valid, h1.2.2]⟩
          · cases h
        · cases h
      · cases h
    cases h

theorem ofEx_toEx : ∀ (t : Tm) (d : Nat), t.depth ≤ d → t.valid = true → ofEx d t.toEx = some t := by
  intro t
  induction t with
  | num n => intro d h v; cases d with
    | zero => simp [Tm.depth] at h
    | succ d => simp [Tm.valid] at v; simp [Tm.toEx, ofEx]; omega
  | name s => intro d h v; cases d with
    | zero => simp [Tm.depth] at h
    | succ d => simp [Tm.valid] at v; simp [Tm.toEx, ofEx, v]
  | two o a b iha ihb => intro d h v; cases d with
    | zero => simp [Tm.depth] at h
    | succ d =>
      simp [Tm.valid] at v; simp [Tm.depth] at h
      simp [Tm.toEx, ofEx, opOf_text, iha d (by omega) v.1, ihb d (by omega) v.2]
  | cast t a iha => intro d h v; cases d with
    | zero => simp [Tm.depth] at h
    | succ d =>
      simp [Tm.valid] at v; simp [Tm.depth] at h
      simp [Tm.toEx, ofEx, typeOf_text, iha d (by omega) v]

def exTm (e : Ex) : Option Tm := match ofEx 5 e with
  | some t => if t.size ≤ 12 then some t else none
  | none => none
def exprOk (e : Ex) : Bool := (exTm e).isSome

/-- The words of a number in decimals. -/
def dec (n : Nat) : List UInt8 := if h : n < 10 then [UInt8.ofNat (48 + n)] else dec (n / 10) ++ [UInt8.ofNat (48 + n % 10)]
termination_by n
decreasing_by omega

def brk (b : Bool) (l : List (List UInt8)) : List (List UInt8) := if b = true then [40] :: l ++ [[41]] else l
def Tm.words : Nat → Tm → List (List UInt8)
  | _, .num n => [dec n]
  | _, .name s => [s]
  | m, .two o a b => brk (decide (lev o < m)) (a.words (max 2 (lev o)) ++ opText o :: b.words (lev o + 1))
  | _, .cast t a => a.words 4 ++ [wAs, tyText t]

def clamp (n : Int) : Int := max (-1000000) (min 1000000 n)

def lastAt (names : List (List UInt8)) (s : List UInt8) : Option Nat := match names.reverse.findIdx? (· == s) with
  | none => none
  | some i => some (names.length - 1 - i)

def Tm.of (names : List (List UInt8)) (nums : List Int) : Tm → Option Int
  | .num n => some n
  | .name s => match lastAt names s with
    | none => none
    | some i => some (clamp (nums.getD i 0))
  | .cast _ a => a.of names nums
  | .two o a b => match a.of names nums, b.of names nums with
    | some x, some y => some (match o with
      | .add => clamp (x + y)
      | .sub => clamp (x - y)
      | .mul => clamp (x * y)
      | .lt => if x < y then 1 else 0)
    | _, _ => none

def Tm.type (names types : List (List UInt8)) : Tm → List UInt8
  | .num _ => wInt
  | .name s => match lastAt names s with
    | none => []
    | some i => types.getD i []
  | .cast t a => if a.type names types = [] then [] else tyText t
  | .two o a b => if a.type names types = wInt ∧ b.type names types = wInt then (if o = .lt then wBool else wInt) else []

end Ilp
