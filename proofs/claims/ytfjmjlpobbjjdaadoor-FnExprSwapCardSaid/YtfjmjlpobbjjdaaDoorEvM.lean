/- What is reckoned: types and numbers, case by case. -/
import Derived.Test.YtfjmjlpobbjjdaaDoorLb
import Derived.Test.YtfjmjlpobbjjdaaDoorMa
namespace Ilp
set_option linter.unusedSimpArgs false
theorem ofEx_cases {d : Nat} {t : Ex} {u : Tm} (h : ofEx (d + 1) t = some u) :
    (t.kind = 1 ∧ t.txt = [] ∧ t.kids = [] ∧ 0 ≤ t.num ∧ t.num ≤ 1000000 ∧ u = .num t.num.toNat) ∨
    (t.kind = 2 ∧ t.num = 0 ∧ t.kids = [] ∧ u = .name t.txt) ∨
    (t.kind = 3 ∧ t.num = 0 ∧ ∃ x y o v1 v2, t.kids = [x, y] ∧ ofEx d x = some v1 ∧ ofEx d y = some v2 ∧ u = .two o v1 v2 ∧ t.txt = opText o) ∨
    (t.kind = 4 ∧ t.num = 0 ∧ ∃ x b v, t.kids = [x] ∧ ofEx d x = some v ∧ u = .cast b v ∧ t.txt = tyText b) := by
  obtain ⟨k, n, s, ks⟩ := t
  simp only [Ex.kind, Ex.num, Ex.txt, Ex.kids]
  unfold ofEx at h
  split at h
  · rename_i hk
    split at h
    · rename_i hn
      split at h
      · injection h with h; exact .inl ⟨hk, hn.2.2, rfl, hn.1, hn.2.1, h.symm⟩
      · cases h
    · cases h
  split at h
  · rename_i hk
    split at h
    · rename_i hn
      split at h
      · injection h with h; exact .inr (.inl ⟨hk, hn.1, rfl, h.symm⟩)
      · cases h
    · cases h
  split at h
  · rename_i hk
    split at h
    · rename_i hn
      split at h
      · rename_i o a b ho
        split at h
        · rename_i x y hx hy
          injection h with h
          exact .inr (.inr (.inl ⟨hk, hn, a, b, o, x, y, rfl, hx, hy, h.symm, opOf_some ho⟩))
        · cases h
      · cases h
    · cases h
  split at h
  · rename_i hk
    split at h
    · rename_i hn
      split at h
      · rename_i o a ho
        split at h
        · rename_i x hx
          injection h with h
          exact .inr (.inr (.inr ⟨hk, hn, a, o, x, rfl, hx, h.symm, typeOf_some ho⟩))
        · cases h
      · cases h
    · cases h
  cases h
theorem lastAt_lt {names : List (List UInt8)} {s : List UInt8} {k : Nat} (h : lastAt names s = some k) : k < names.length := by
  unfold lastAt at h
  split at h
  · cases h
  · rename_i i hi
    injection h with h
    have := (List.findIdx?_eq_some_iff_getElem.1 hi).1
    simp at this; omega
theorem lastAt_spec {names : List (List UInt8)} {s : List UInt8} {k : Nat} (h : lastAt names s = some k) : (names[k]'(lastAt_lt h) = s) ∧ ∀ j (hj : j < names.length), k < j → names[j] ≠ s := by
  have hk := lastAt_lt h
  unfold lastAt at h
  split at h
  · cases h
  · rename_i i hi
    injection h with h
    obtain ⟨h1, h2, h3⟩ := List.findIdx?_eq_some_iff_getElem.1 hi
    have hl : i < names.length := by simpa using h1
    rw [List.getElem_reverse] at h2
    refine ⟨?_, fun j hj hkj e => ?_⟩
    · subst h; simpa using h2
    · have := h3 (names.length - 1 - j) (by omega)
      rw [List.getElem_reverse] at this
      have e2 : names.length - 1 - (names.length - 1 - j) = j := by omega
      simp only [e2] at this
      simp [e] at this
def tyE (names types : List (List UInt8)) (t : Ex) : List UInt8 := match exTm t with
  | some u => if names.length = types.length ∧ types.all isType = true then u.type names types else []
  | none => []
def ofE (names : List (List UInt8)) (nums : List Int) (t : Ex) : Option Int := match exTm t with
  | some u => if names.length = nums.length then u.of names nums else none
  | none => none
theorem exTm_ofEx {t : Ex} {u : Tm} (h : exTm t = some u) : ofEx 5 t = some u := by
  unfold exTm at h
  split at h
  · rename_i v hv
    split at h
    · injection h with h; subst h; exact hv
    · cases h
  · cases h
theorem exOk_some {t : Ex} (h : exprOk t = true) : ∃ u, exTm t = some u ∧ ofEx 5 t = some u := by
  obtain ⟨u, hu⟩ := Option.isSome_iff_exists.1 h
  exact ⟨u, hu, exTm_ofEx hu⟩
theorem exOk_none {t : Ex} (h : exprOk t = false) : exTm t = none := by
  unfold exprOk at h; simpa using h
theorem clamp_le (n : Int) : -1000000 ≤ clamp n ∧ clamp n ≤ 1000000 := by unfold clamp; omega
theorem Tm.of_le {names : List (List UInt8)} {nums : List Int} : ∀ {u : Tm}, u.valid = true → ∀ {r : Int}, u.of names nums = some r → -1000000 ≤ r ∧ r ≤ 1000000 := by
  intro u
  induction u with
  | num n => intro hv r h; simp [Tm.of] at h; simp [Tm.valid] at hv; omega
  | name s =>
    intro hv r h
    unfold Tm.of at h
    split at h
    · cases h
    · injection h with h; subst h; exact clamp_le _
  | cast b v ih => intro hv r h; exact ih (by simpa [Tm.valid] using hv) (by simpa [Tm.of] using h)
  | two o a b iha ihb =>
    intro hv r h
    unfold Tm.of at h
    split at h
    · injection h with h; subst h
      cases o <;> dsimp only
      · exact clamp_le _
      · exact clamp_le _
      · exact clamp_le _
      · split <;> omega
    · cases h
end Ilp
namespace Go.Proofs.YtfjmjlpobbjjdaaDoor
open Go.RowKit Ilp
set_option linter.unusedVariables false
theorem lstL_length (zs : List ByteArray) : (lstL zs).length = zs.length := by simp [lstL]
theorem lastI_cases (zs : List ByteArray) (s : ByteArray) : (lastI zs s = -1 ∧ lastAt (lstL zs) s.data.toList = none) ∨ ∃ k, k < zs.length ∧ lastI zs s = (k : Int) ∧ lastAt (lstL zs) s.data.toList = some k := by
  unfold lastI
  cases h : lastAt (lstL zs) s.data.toList with
  | none => exact .inl ⟨rfl, rfl⟩
  | some k => exact .inr ⟨k, by have := lastAt_lt h; rwa [lstL_length] at this, rfl, rfl⟩
end Go.Proofs.YtfjmjlpobbjjdaaDoor
