/- What is reckoned, in plain Lean: the walk over the parts. -/
import Derived.Test.YtfjmjlpobbjjdaaDoorP4b
namespace Ilp

def sOf (o : Option Tm) (p : Nat) : Bool := match o with
  | some t => decide (p + t.size ≤ 12)
  | none => false

/-- The program's own walk over the parts: how many more levels may lie below, how many parts were counted. -/
def wk : Nat → Nat → Ex → Bool × Nat
  | 0, p, _ => (false, p + 1)
  | d + 1, p, .mk k n s ks => if 12 < p + 1 then (false, p + 1) else
    if k = 1 then (decide (0 ≤ n ∧ n ≤ 1000000 ∧ s = [] ∧ ks.length = 0), p + 1)
    else if k = 2 then (decide (n = 0 ∧ isName s = true ∧ ks.length = 0), p + 1)
    else if k = 3 then (if n = 0 ∧ (opOf s).isSome = true then (match ks with
      | [a, b] => if (wk d (p + 1) a).1 = true then wk d (wk d (p + 1) a).2 b else (false, (wk d (p + 1) a).2)
      | _ => (false, p + 1)) else (false, p + 1))
    else if k = 4 then (if n = 0 ∧ isType s = true then (match ks with
      | [a] => wk d (p + 1) a
      | _ => (false, p + 1)) else (false, p + 1))
    else (false, p + 1)

theorem wk_ofEx : ∀ (d p : Nat) (e : Ex), p ≤ 12 → (wk d p e).1 = sOf (ofEx d e) p ∧ (wk d p e).2 ≤ 13 ∧ p ≤ (wk d p e).2 ∧ ∀ t, ofEx d e = some t → (wk d p e).1 = true → (wk d p e).2 = p + t.size := by
  intro d
  induction d with
  | zero => intro p e h; refine ⟨rfl, by simp only [wk]; omega, by simp only [wk]; omega, fun t ht => ?_⟩; simp [ofEx] at ht
  | succ d ih =>
    intro p e h
    obtain ⟨k, n, s, ks⟩ := e
    have hs : ∀ t : Tm, 1 ≤ t.size := size_pos
    by_cases hp : 12 < p + 1
    · have e1 : wk (d + 1) p (.mk k n s ks) = (false, p + 1) := by simp only [wk]; rw [if_pos hp]
      rw [e1]
      refine ⟨?_, by simp only; omega, by simp only; omega, fun t ht he => by cases he⟩
      unfold sOf
      cases ofEx (d + 1) (.mk k n s ks) with
      | none => rfl
      | some t => have := hs t; simp; omega
    · simp only [wk, ofEx]
      rw [if_neg hp]
      by_cases h1 : k = 1
      · simp only [if_pos h1]
        cases ks with
        | nil =>
          by_cases hn : 0 ≤ n ∧ n ≤ 1000000 ∧ s = []
          · simp [hn, sOf, Tm.size]; omega
          · rw [if_neg hn]; simp [sOf]; refine ⟨fun a b c => hn ⟨a, b, c⟩, by omega⟩
        | cons a r => split <;> simp [sOf] <;> omega
      · simp only [if_neg h1]
        by_cases h2 : k = 2
        · simp only [if_pos h2]
          cases ks with
          | nil =>
            by_cases hn : n = 0 ∧ isName s = true
            · simp [hn, sOf, Tm.size]; omega
            · rw [if_neg hn]; simp [sOf]; refine ⟨fun a => by simpa using fun b => hn ⟨a, b⟩, by omega⟩
          | cons a r => split <;> simp [sOf] <;> omega
        · simp only [if_neg h2]
          by_cases h3 : k = 3
          · simp only [if_pos h3]
            by_cases hn : n = 0
            · simp only [hn, true_and, if_true]
              cases ho : opOf s with
              | none => simp [sOf]; omega
              | some o =>
                simp only [Option.isSome_some, if_true]
                match ks with
                | [] => simp [sOf]; omega
                | [a] => simp [sOf]; omega
                | [a, b] =>
                  have ia := ih (p + 1) a (by omega)
                  simp only []
                  by_cases ha : (wk d (p + 1) a).1 = true
                  · rw [if_pos ha]
                    rw [ha] at ia
                    cases ea : ofEx d a with
                    | none => rw [ea] at ia; simp [sOf] at ia
                    | some x =>
                      have e2 := ia.2.2.2 x ea rfl
                      have e1 := ia.1
                      rw [ea] at e1; simp [sOf] at e1
                      rw [e2]
                      have ib := ih (p + 1 + x.size) b (by omega)
                      cases eb : ofEx d b with
                      | none => rw [eb] at ib; simp only [sOf] at ib ⊢; refine ⟨ib.1, ib.2.1, by omega, fun t ht => by cases ht⟩
                      | some y =>
                        rw [eb] at ib; simp only [sOf] at ib ⊢
                        refine ⟨?_, ib.2.1, by omega, ?_⟩
                        · rw [ib.1]; simp only [Tm.size]; apply decide_eq_decide.2; omega
                        · intro t ht hw; injection ht with ht; subst ht
                          rw [ib.2.2.2 y rfl hw]; simp only [Tm.size]; omega
                  · rw [if_neg ha]
                    have hf : (wk d (p + 1) a).1 = false := by simpa using ha
                    rw [hf] at ia
                    refine ⟨?_, ia.2.1, by simp only; omega, fun t ht hw => by cases hw⟩
                    cases ea : ofEx d a with
                    | none => rfl
                    | some x =>
                      cases eb : ofEx d b with
                      | none => rfl
                      | some y => have := hs y; simp only [sOf, Tm.size]; symm; apply decide_eq_false; have e1 := ia.1; rw [ea] at e1; simp only [sOf] at e1; have := of_decide_eq_false e1.symm; omega
                | a :: b :: c :: r => simp [sOf]; omega
            · simp only [hn, false_and, if_false]
              simp [sOf]; omega
          · simp only [if_neg h3]
            by_cases h4 : k = 4
            · simp only [if_pos h4]
              by_cases hn : n = 0
              · simp only [hn, true_and, if_true]
                have ht := typeOf_isType s
                cases ho : typeOf s with
                | none => rw [ho] at ht; simp only [Option.isSome_none] at ht; rw [← ht]; simp [sOf]; omega
                | some o =>
                  rw [ho] at ht; simp only [Option.isSome_some] at ht
                  rw [if_pos ht.symm]
                  match ks with
                  | [] => simp [sOf]; omega
                  | [a] =>
                    have ia := ih (p + 1) a (by omega)
                    simp only []
                    cases ea : ofEx d a with
                    | none => rw [ea] at ia; simp only [sOf] at ia ⊢; exact ⟨ia.1, ia.2.1, by omega, fun t ht => by cases ht⟩
                    | some x =>
                      rw [ea] at ia; simp only [sOf] at ia ⊢
                      refine ⟨?_, ia.2.1, by omega, ?_⟩
                      · rw [ia.1]; simp only [Tm.size]; apply decide_eq_decide.2; omega
                      · intro t ht hw; injection ht with ht; subst ht
                        rw [ia.2.2.2 x rfl hw]; simp only [Tm.size]; omega
                  | a :: b :: r => simp [sOf]; omega
              · simp only [hn, false_and, if_false]
                simp [sOf]; omega
            · simp only [if_neg h4]
              simp [sOf]; omega

theorem wk_ok (e : Ex) : (wk 5 0 e).1 = exprOk e := by
  rw [(wk_ofEx 5 0 e (by omega)).1]
  unfold sOf exprOk exTm
  cases ofEx 5 e with
  | none => rfl
  | some t => simp only [Nat.zero_add]; split <;> simp_all
end Ilp
