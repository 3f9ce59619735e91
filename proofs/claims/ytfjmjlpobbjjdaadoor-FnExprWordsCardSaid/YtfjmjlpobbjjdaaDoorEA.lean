/- EA: the texts EvM EvP in one. -/
import Derived.Test.YtfjmjlpobbjjdaaDoorLA
import Derived.Test.YtfjmjlpobbjjdaaDoorNA

namespace Ilp
set_option linter.unusedSimpArgs false
theorem ofEx_cases {d : Nat} {t : Ex} {u : Tm} (h : ofEx (d + 1) t = some u) :
    (t.kind = 1 ∧ t.txt = [] ∧ t.kids = [] ∧ 0 ≤ t.num ∧ t.num ≤ 1000000 ∧ u = .num t.num.toNat) ∨
    (t.kind = 2 ∧ t.num = 0 ∧ t.kids = [] ∧ u = .name t.txt) ∨
    (t.kind = 3 ∧ t.num = 0 ∧ ∃ x y o v1 v2, t.kids = [x, y] ∧ ofEx d x = some v1 ∧ ofEx d y = some v2 ∧ u = .two o v1 v2 ∧ t.txt = opText o) ∨
    (t.kind = 4 ∧ t.num = 0 ∧ ∃ x b v, t.kids = [x] ∧ ofEx d x = some v ∧ u = .cast b v ∧ t.txt = tyText b) := by
  obtain ⟨k, n, s, ks⟩ := t
  simp only [Ex.kind, Ex.num, Ex.txt, Ex.kids]
  unfold ofEx at h
  split at h
  · rename_i hk
    split at h
    · rename_i hn
      split at h
      · injection h with h; exact .inl ⟨hk, hn.2.2, rfl, hn.1, hn.2.1, h.symm⟩
      · cases h
    · cases h
  split at h
  · rename_i hk
    split at h
    · rename_i hn
      split at h
      · injection h with h; exact .inr (.inl ⟨hk, hn.1, rfl, h.symm⟩)
      · cases h
    · cases h
  split at h
  · rename_i hk
    split at h
    · rename_i hn
      split at h
      · rename_i o a b ho
        split at h
        · rename_i x y hx hy
          injection h with h
          exact .inr (.inr (.inl ⟨hk, hn, a, b, o, x, y, rfl, hx, hy, h.symm, opOf_some ho⟩))
        · cases h
      · cases h
    · cases h
  split at h
  · rename_i hk
    split at h
    · rename_i hn
      split at h
      · rename_i o a ho
        split at h
        · rename_i x hx
          injection h with h
          exact .inr (.inr (.inr ⟨hk, hn, a, o, x, rfl, hx, h.symm, typeOf_some ho⟩))
        · cases h
      · cases h
    · cases h
  cases h
theorem lastAt_lt {names : List (List UInt8)} {s : List UInt8} {k : Nat} (h : lastAt names s = some k) : k < names.length := by
  unfold lastAt at h
  split at h
  · cases h
  · rename_i i hi
    injection h with h
    have := (List.findIdx?_eq_some_iff_getElem.1 hi).1
    simp at this; omega
theorem lastAt_spec {names : List (List UInt8)} {s : List UInt8} {k : Nat} (h : lastAt names s = some k) : (names[k]'(lastAt_lt h) = s) ∧ ∀ j (hj : j < names.length), k < j → names[j] ≠ s := by
  have hk := lastAt_lt h
  unfold lastAt at h
  split at h
  · cases h
  · rename_i i hi
    injection h with h
    obtain ⟨h1, h2, h3⟩ := List.findIdx?_eq_some_iff_getElem.1 hi
    have hl : i < names.length := by simpa using h1
    rw [List.getElem_reverse] at h2
    refine ⟨?_, fun j hj hkj e => ?_⟩
    · subst h; simpa using h2
    · have := h3 (names.length - 1 - j) (by omega)
      rw [List.getElem_reverse] at this
      have e2 : names.length - 1 - (names.length - 1 - j) = j := by omega
      simp only [e2] at this
      simp [e] at this
def tyE (names types : List (List UInt8)) (t : Ex) : List UInt8 := match exTm t with
  | some u => if names.length = types.length ∧ types.all isType = true then u.type names types else []
  | none => []
def ofE (names : List (List UInt8)) (nums : List Int) (t : Ex) : Option Int := match exTm t with
  | some u => if names.length = nums.length then u.of names nums else none
  | none => none
theorem exTm_ofEx {t : Ex} {u : Tm} (h : exTm t = some u) : ofEx 5 t = some u := by
  unfold exTm at h
  split at h
  · rename_i v hv
    split at h
    · injection h with h; subst h; exact hv
    · cases h
  · cases h
theorem exOk_some {t : Ex} (h : exprOk t = true) : ∃ u, exTm t = some u ∧ ofEx 5 t = some u := by
  obtain ⟨u, hu⟩ := Option.isSome_iff_exists.1 h
  exact ⟨u, hu, exTm_ofEx hu⟩
theorem exOk_none {t : Ex} (h : exprOk t = false) : exTm t = none := by
  unfold exprOk at h; simpa using h
theorem clamp_le (n : Int) : -1000000 ≤ clamp n ∧ clamp n ≤ 1000000 := by unfold clamp; omega
theorem Tm.of_le {names : List (List UInt8)} {nums : List Int} : ∀ {u : Tm}, u.valid = true → ∀ {r : Int}, u.of names nums = some r → -1000000 ≤ r ∧ r ≤ 1000000 := by
  intro u
  induction u with
  | num n => intro hv r h; simp [Tm.of] at h; simp [Tm.valid] at hv; omega
  | name s =>
    intro hv r h
    unfold Tm.of at h
    split at h
    · cases h
    · injection h with h; subst h; exact clamp_le _
  | cast b v ih => intro hv r h; exact ih (by simpa [Tm.valid] using hv) (by simpa [Tm.of] using h)
  | two o a b iha ihb =>
    intro hv r h
    unfold Tm.of at h
    split at h
    · injection h with h; subst h
      cases o <;> dsimp only
      · exact clamp_le _
      · exact clamp_le _
      · exact clamp_le _
      · split <;> omega
    · cases h
end Ilp
namespace Go.Proofs.YtfjmjlpobbjjdaaDoor
open Go.RowKit Ilp
set_option linter.unusedVariables false
theorem lstL_length (zs : List ByteArray) : (lstL zs).length = zs.length := by simp [lstL]
theorem lastI_cases (zs : List ByteArray) (s : ByteArray) : (lastI zs s = -1 ∧ lastAt (lstL zs) s.data.toList = none) ∨ ∃ k, k < zs.length ∧ lastI zs s = (k : Int) ∧ lastAt (lstL zs) s.data.toList = some k := by
  unfold lastI
  cases h : lastAt (lstL zs) s.data.toList with
  | none => exact .inl ⟨rfl, rfl⟩
  | some k => exact .inr ⟨k, by have := lastAt_lt h; rwa [lstL_length] at this, rfl, rfl⟩
end Go.Proofs.YtfjmjlpobbjjdaaDoor

namespace Ilp
set_option linter.unusedSimpArgs false
theorem ofEx_mono : ∀ {d d' : Nat} {t : Ex} {u : Tm}, ofEx d t = some u → d ≤ d' → ofEx d' t = some u := by
  intro d d' t u h hd
  obtain ⟨h1, h2, h3⟩ := ofEx_some d t u h
  rw [← h1]
  exact ofEx_toEx u d' (by omega) h3
theorem exTm_size {t : Ex} {u : Tm} (h : exTm t = some u) : u.size ≤ 12 := by
  unfold exTm at h
  split at h
  · split at h
    · injection h with h; subst h; assumption
    · cases h
  · cases h
theorem exTm_of {t : Ex} {u : Tm} (h : ofEx 5 t = some u) (hs : u.size ≤ 12) : exTm t = some u := by
  unfold exTm; rw [h]; simp [hs]
theorem Tm.size_pos (u : Tm) : 1 ≤ u.size := by cases u <;> simp [Tm.size] <;> omega
/-- The parts of one that is ok. -/
theorem exTm_cases {t : Ex} {u : Tm} (h : exTm t = some u) :
    (t.kind = 1 ∧ 0 ≤ t.num ∧ t.num ≤ 1000000 ∧ t.kids = [] ∧ u = .num t.num.toNat) ∨
    (t.kind = 2 ∧ t.kids = [] ∧ u = .name t.txt) ∨
    (t.kind = 3 ∧ ∃ x y o v1 v2, t.kids = [x, y] ∧ exTm x = some v1 ∧ exTm y = some v2 ∧ u = .two o v1 v2 ∧ t.txt = opText o) ∨
    (t.kind = 4 ∧ ∃ x b v, t.kids = [x] ∧ exTm x = some v ∧ u = .cast b v ∧ t.txt = tyText b) := by
  have h5 := exTm_ofEx h
  have hs := exTm_size h
  rcases ofEx_cases h5 with ⟨hk1, hs1, hks, h0, h1, hu⟩ | ⟨hk1, h0, hks, hu⟩ | ⟨hk1, h0, x, y, o, v1, v2, hks, hx, hy, hu, ht⟩ | ⟨hk1, h0, x, b, v, hks, hx, hu, ht⟩
  · exact .inl ⟨hk1, h0, h1, hks, hu⟩
  · exact .inr (.inl ⟨hk1, hks, hu⟩)
  · subst hu
    simp only [Tm.size] at hs
    exact .inr (.inr (.inl ⟨hk1, x, y, o, v1, v2, hks, exTm_of (ofEx_mono hx (by omega)) (by omega), exTm_of (ofEx_mono hy (by omega)) (by omega), rfl, ht⟩))
  · subst hu
    simp only [Tm.size] at hs
    exact .inr (.inr (.inr ⟨hk1, x, b, v, hks, exTm_of (ofEx_mono hx (by omega)) (by omega), rfl, ht⟩))
theorem exTm_valid {t : Ex} {u : Tm} (h : exTm t = some u) : u.valid = true := (ofEx_some _ _ _ (exTm_ofEx h)).2.2

theorem type_three (names types : List (List UInt8)) (hT : types.all isType = true) (hl : names.length = types.length) : ∀ u : Tm, u.type names types = [] ∨ u.type names types = wInt ∨ u.type names types = wBool := by
  intro u
  induction u with
  | num n => exact .inr (.inl rfl)
  | name s =>
    unfold Tm.type
    cases h : lastAt names s with
    | none => exact .inl rfl
    | some k =>
      have hk : k < types.length := by rw [← hl]; exact lastAt_lt h
      have := List.all_eq_true.1 hT types[k] (List.getElem_mem hk)
      simp only [List.getD_eq_getElem?_getD, List.getElem?_eq_getElem hk, Option.getD_some]
      unfold isType at this
      simp only [Bool.or_eq_true, beq_iff_eq] at this
      exact .inr this
  | cast b v ih =>
    unfold Tm.type
    split
    · exact .inl rfl
    · cases b
      · exact .inr (.inl rfl)
      · exact .inr (.inr rfl)
  | two o a b iha ihb =>
    unfold Tm.type
    split
    · split
      · exact .inr (.inr rfl)
      · exact .inr (.inl rfl)
    · exact .inl rfl
/-- What has a type comes to a number. -/
theorem type_of (names types : List (List UInt8)) (nums : List Int) : ∀ u : Tm, u.type names types ≠ [] → (u.of names nums).isSome = true := by
  intro u
  induction u with
  | num n => intro _; rfl
  | name s =>
    intro h
    unfold Tm.type at h
    unfold Tm.of
    cases h2 : lastAt names s with
    | none => rw [h2] at h; exact absurd rfl h
    | some k => rfl
  | cast b v ih =>
    intro h
    unfold Tm.type at h
    unfold Tm.of
    split at h
    · exact absurd rfl h
    · rename_i h2; exact ih h2
  | two o a b iha ihb =>
    intro h
    unfold Tm.type at h
    split at h
    · rename_i h2
      obtain ⟨x, hx⟩ := Option.isSome_iff_exists.1 (iha (by rw [h2.1]; decide))
      obtain ⟨y, hy⟩ := Option.isSome_iff_exists.1 (ihb (by rw [h2.2]; decide))
      unfold Tm.of
      rw [hx, hy]; rfl
    · exact absurd rfl h

/-- No name is this one. -/
def Tm.noName (s : List UInt8) : Tm → Bool
  | .num _ => true
  | .name x => !(x == s)
  | .cast _ a => a.noName s
  | .two _ a b => a.noName s && b.noName s
theorem lastAt_snoc (names : List (List UInt8)) (z s : List UInt8) (h : z ≠ s) : lastAt (names ++ [z]) s = lastAt names s := by
  cases hl : lastAt names s with
  | none =>
    apply lastAt_none
    intro x hx e
    rcases List.mem_append.1 hx with hx | hx
    · have : lastAt names s ≠ none := by
        intro hn
        unfold lastAt at hn
        split at hn
        · rename_i hf
          rw [List.findIdx?_eq_none_iff] at hf
          have := hf x (by simpa using hx)
          simp [e] at this
        · cases hn
      exact this hl
    · simp at hx; exact h (hx ▸ e)
  | some k =>
    have hk := lastAt_lt hl
    have hg : names[k] = s ∧ ∀ j (h : j < names.length), k < j → names[j] ≠ s := lastAt_spec hl
    refine lastAt_some (k := k) (by simp; omega) (by rw [List.getElem_append_left hk]; exact hg.1) ?_
    intro j hj hkj e
    simp at hj
    by_cases hjl : j < names.length
    · rw [List.getElem_append_left hjl] at e; exact hg.2 j hjl hkj e
    · have : j = names.length := by omega
      subst this
      simp at e; exact h e
theorem lastAt_pre (pre names : List (List UInt8)) (s : List UInt8) {k : Nat} (h : lastAt names s = some k) : lastAt (pre ++ names) s = some (pre.length + k) := by
  have hk := lastAt_lt h
  obtain ⟨h1, h2⟩ := lastAt_spec h
  refine lastAt_some (k := pre.length + k) (by simp; omega) ?_ ?_
  · rw [List.getElem_append_right (by omega)]; simpa using h1
  · intro j hj hkj e
    simp at hj
    rw [List.getElem_append_right (by omega)] at e
    exact h2 (j - pre.length) (by omega) (by omega) e
theorem of_snoc (names : List (List UInt8)) (nums : List Int) (z : List UInt8) (v : Int) (hl : names.length = nums.length) : ∀ u : Tm, u.noName z = true → u.of (names ++ [z]) (nums ++ [v]) = u.of names nums := by
  intro u
  induction u with
  | num n => intro _; rfl
  | name s =>
    intro h
    simp only [Tm.noName, Bool.not_eq_true', beq_eq_false_iff_ne, ne_eq] at h
    unfold Tm.of
    rw [lastAt_snoc names z s (fun e => h e.symm)]
    cases h2 : lastAt names s with
    | none => rfl
    | some k =>
      have hk := lastAt_lt h2
      simp only [List.getD_eq_getElem?_getD]
      rw [List.getElem?_append_left (by omega)]
  | cast b v ih => intro h; unfold Tm.of; exact ih (by simpa [Tm.noName] using h)
  | two o a b iha ihb =>
    intro h
    simp only [Tm.noName, Bool.and_eq_true] at h
    unfold Tm.of
    rw [iha h.1, ihb h.2]
theorem of_pre (pre names : List (List UInt8)) (pn nums : List Int) (hl : pre.length = pn.length) : ∀ (u : Tm) (r : Int), u.of names nums = some r → u.of (pre ++ names) (pn ++ nums) = some r := by
  intro u
  induction u with
  | num n => intro r h; exact h
  | name s =>
    intro r h
    unfold Tm.of at h ⊢
    cases h2 : lastAt names s with
    | none => rw [h2] at h; cases h
    | some k =>
      rw [h2] at h
      rw [lastAt_pre pre names s h2]
      simp only [List.getD_eq_getElem?_getD] at h ⊢
      rw [List.getElem?_append_right (by omega)]
      rw [show pre.length + k - pn.length = k by omega]; exact h
  | cast b v ih => intro r h; unfold Tm.of at h ⊢; exact ih r h
  | two o a b iha ihb =>
    intro r h
    unfold Tm.of at h ⊢
    split at h
    · rename_i x y hx hy
      rw [iha x hx, ihb y hy]; exact h
    · cases h
theorem type_pre (pre names : List (List UInt8)) (pt types : List (List UInt8)) (hl : pre.length = pt.length) : ∀ (u : Tm), u.type names types ≠ [] → u.type (pre ++ names) (pt ++ types) = u.type names types := by
  intro u
  induction u with
  | num n => intro h; rfl
  | name s =>
    intro h
    unfold Tm.type at h ⊢
    cases h2 : lastAt names s with
    | none => rw [h2] at h; exact absurd rfl h
    | some k =>
      rw [lastAt_pre pre names s h2]
      simp only [List.getD_eq_getElem?_getD]
      rw [List.getElem?_append_right (by omega)]
      rw [show pre.length + k - pt.length = k by omega]
  | cast b v ih =>
    intro h
    unfold Tm.type at h ⊢
    split at h
    · exact absurd rfl h
    · rename_i h2; rw [ih h2, if_neg h2]
  | two o a b iha ihb =>
    intro h
    unfold Tm.type at h ⊢
    split at h
    · rename_i h2
      rw [iha (by rw [h2.1]; decide), ihb (by rw [h2.2]; decide), if_pos h2]
    · exact absurd rfl h
end Ilp
