/- The plain law of FnExprLast; rows that an append leaves alone. -/
import Derived.Test.YtfjmjlpobbjjdaaDoorOfL
import Derived.Test.YtfjmjlpobbjjdaaDoorEB
import Derived.Maps.AppendAt
namespace Ilp
def unusedW : List UInt8 := [117, 110, 117, 115, 101, 100]
end Ilp
namespace Go.Proofs.YtfjmjlpobbjjdaaDoor
open Go.RowKit Ilp
set_option linter.unusedVariables false

theorem cleanE_kid {t x : Ex} (h : CleanE t) (hx : x ∈ t.kids) : CleanE x := fun d => by
  have := h (d + 1)
  obtain ⟨k, n, s, ks⟩ := t
  simp only [clean, Bool.and_eq_true, List.all_eq_true] at this
  exact this.2 x hx
theorem noName_clean : ∀ (d : Nat) (t : Ex) (u : Tm), ofEx d t = some u → CleanE t → u.noName unusedW = true := by
  intro d
  induction d with
  | zero => intro t u h; cases h
  | succ d ih =>
    intro t u h hc
    rcases ofEx_cases h with ⟨_, _, _, _, _, hu⟩ | ⟨_, _, _, hu⟩ | ⟨_, _, x, y, o, v1, v2, hks, hx, hy, hu, _⟩ | ⟨_, _, x, b, v, hks, hx, hu, _⟩
    · subst hu; rfl
    · subst hu
      have := cleanE_txt hc
      unfold Tm.noName
      simp only [Bool.not_eq_true', beq_eq_false_iff_ne, ne_eq]
      exact this
    · subst hu
      unfold Tm.noName
      rw [ih x v1 hx (cleanE_kid hc (by rw [hks]; simp)), ih y v2 hy (cleanE_kid hc (by rw [hks]; simp))]; rfl
    · subst hu
      unfold Tm.noName
      exact ih x v hx (cleanE_kid hc (by rw [hks]; simp))
theorem lstL_app (a b : List ByteArray) : lstL (a ++ b) = lstL a ++ lstL b := by simp [lstL]
theorem ofE_snoc {ns : List ByteArray} {xs : List Int} {t : Ex} (hc : CleanE t) (hl : ns.length = xs.length) (z : ByteArray) (hz : z.data.toList = unusedW) (v : Int) : ofE (lstL (ns ++ [z])) (xs ++ [v]) t = ofE (lstL ns) xs t := by
  cases hu : exTm t with
  | none => unfold ofE; rw [hu]
  | some u =>
    rw [ofE_some hu (by simp [hl]), ofE_some hu hl, lstL_app]
    have : lstL [z] = [unusedW] := by simp [lstL, hz]
    rw [this]
    exact of_snoc (lstL ns) xs unusedW v (by rw [lstL_length]; exact hl) u (noName_clean 5 t u (exTm_ofEx hu) hc)
theorem ofE_pre {ps ns : List ByteArray} {ys xs : List Int} {t : Ex} {v : Int} (hp : ps.length = ys.length) (h : ofE (lstL ns) xs t = some v) : ofE (lstL (ps ++ ns)) (ys ++ xs) t = some v := by
  rcases ofE_cases ns xs t with h0 | ⟨u, v', hu, hl, hv, he, _⟩
  · rw [h0] at h; cases h
  · rw [he] at h; injection h with h; subst h
    rw [ofE_some hu (by simp [hp, hl]), lstL_app]
    exact of_pre (lstL ps) (lstL ns) ys xs (by rw [lstL_length]; exact hp) u v' hv
theorem tyE_pre {ps ns qs ts : List ByteArray} {t : Ex} (hp : ps.length = qs.length) (hq : allTy qs = true) (h : tyE (lstL ns) (lstL ts) t ≠ []) : tyE (lstL (ps ++ ns)) (lstL (qs ++ ts)) t = tyE (lstL ns) (lstL ts) t := by
  cases hu : exTm t with
  | none => exact absurd (by unfold tyE; rw [hu]) h
  | some u =>
    by_cases hl : ns.length = ts.length
    · cases ha : allTy ts with
      | false => exact absurd (tyE_bad ha) h
      | true =>
        rw [tyE_some hu hl ha] at h ⊢
        have hat : allTy (qs ++ ts) = true := by unfold allTy at hq ha ⊢; rw [lstL_app, List.all_append, hq, ha]; rfl
        rw [tyE_some hu (by simp [hp, hl]) hat, lstL_app, lstL_app]
        exact type_pre (lstL ps) (lstL ns) (lstL qs) (lstL ts) (by rw [lstL_length, lstL_length]; exact hp) u h
    · exact absurd (tyE_len hl) h
section
variable {w w' : World} {base size n : Nat} {e : TypeId} {v : Value} {xs : List Value}
theorem own_apart {r : Option Nat} (h : w.ownsRow base e size v n xs) (hg : w.grownBy w' r) (hne : ∀ k, v.ownBlock = some k → r ≠ some k) : w'.ownsRow base e size v n xs := by
  refine ⟨h.1, ?_⟩
  rcases h.2 with h1 | ⟨g, cap, cur, rfl, hb, hgg, h2⟩
  · exact .inl h1
  · refine .inr ⟨g, cap, cur, rfl, hb, ?_, h2⟩
    exact (hg.block g (Array.getElem?_eq_some_iff.1 hgg).1 (fun e => hne g rfl e.symm)).trans hgg
theorem blk_apart {b : Nat} {T : TypeId} {vs : List Value} {r : Option Nat} (h : Blk w b T vs) (hg : w.grownBy w' r) (hne : r ≠ some b) : Blk w' b T vs := (hg.block b h.lt (fun e => hne e.symm)).trans h
/-- A row of one sort and a row of another lie in two blocks. -/
theorem own_sorts {base' size' n' : Nat} {e' : TypeId} {v' : Value} {xs' : List Value} (h : w.ownsRow base e size v n xs) (h' : w.ownsRow base' e' size' v' n' xs') (hee : e ≠ e') : ∀ k, v.ownBlock = some k → v'.ownBlock ≠ some k := by
  intro k hk hk'
  rcases h.2 with ⟨rfl, _⟩ | ⟨g, cap, cur, rfl, _, hg, _⟩
  · simp [Value.ownBlock] at hk
  · rcases h'.2 with ⟨rfl, _⟩ | ⟨g', cap', cur', rfl, _, hg', _⟩
    · simp [Value.ownBlock] at hk'
    · simp only [Value.ownBlock, Option.some.injEq] at hk hk'
      subst hk hk'
      rw [hg] at hg'
      simp only [Option.some.injEq, Obj.cells.injEq] at hg'
      exact hee hg'.2.1
theorem own_sort_blk {b : Nat} {T : TypeId} {vs : List Value} (h : w.ownsRow base e size v n xs) (hb : Blk w b T vs) (hT : e ≠ T) : v.ownBlock ≠ some b := by
  intro hk
  rcases h.2 with ⟨rfl, _⟩ | ⟨g, cap, cur, rfl, _, hg, _⟩
  · simp [Value.ownBlock] at hk
  · simp only [Value.ownBlock, Option.some.injEq] at hk
    subst hk
    unfold Blk at hb
    rw [hg] at hb
    simp only [Option.some.injEq, Obj.cells.injEq] at hb
    exact hT hb.2.1
end
end Go.Proofs.YtfjmjlpobbjjdaaDoor
