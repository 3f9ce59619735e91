/- FnExprWords: the words in brackets are read as none; plain facts. -/
import Derived.Test.YtfjmjlpobbjjdaaDoorRdF
namespace Go.Proofs.YtfjmjlpobbjjdaaDoor
open Go.RowKit Ilp
set_option linter.unusedVariables false
set_option linter.unusedSimpArgs false

theorem map_mkB_inj {a b : List (List UInt8)} (h : a.map mkB = b.map mkB) : a = b := by rw [← dats_mkB a, h, dats_mkB]
/-- Words in brackets are no words. -/
theorem no_brk {t t' : Ex} (h : wordsOf t ≠ []) (h' : exprOk t' = true) : mkB [40] :: ((wordsOf t).map mkB ++ [mkB [41]]) ≠ (wordsOf t').map mkB := by
  intro e
  have hok : exprOk t = true := by
    cases hq : exprOk t with
    | true => rfl
    | false => exact absurd (wordsOf_none hq) h
  obtain ⟨u, _, _, _, vu, eu⟩ := wordsOf_some hok
  obtain ⟨u', _, _, _, vu', eu'⟩ := wordsOf_some h'
  have e2 : ([40] :: (wordsOf t ++ [[41]])).map mkB = (wordsOf t').map mkB := by simpa using e
  have e3 := map_mkB_inj e2
  rw [eu, eu'] at e3
  exact words_bracketed vu vu' e3.symm
/-- Words with a bracket that closes behind them are no words. -/
theorem no_tail {t t' : Ex} (h : wordsOf t ≠ []) (h' : exprOk t' = true) : (wordsOf t).map mkB ++ [mkB [41]] ≠ (wordsOf t').map mkB := by
  intro e
  have hok : exprOk t = true := by
    cases hq : exprOk t with
    | true => rfl
    | false => exact absurd (wordsOf_none hq) h
  obtain ⟨u, _, _, _, vu, eu⟩ := wordsOf_some hok
  obtain ⟨u', _, _, _, vu', eu'⟩ := wordsOf_some h'
  have e2 : (wordsOf t ++ [[41]]).map mkB = (wordsOf t').map mkB := by simpa using e
  have e3 := map_mkB_inj e2
  rw [eu, eu'] at e3
  exact words_closed vu vu' e3.symm
theorem net_bound : ∀ (l : List (List UInt8)), net l ≤ l.length
  | [] => by simp [net]
  | w :: r => by
    have := net_bound r
    simp only [net, List.length_cons]
    split
    · omega
    · split <;> omega
theorem wordsOf_even (t : Ex) : even (wordsOf t) := by
  cases h : exprOk t with
  | false => rw [wordsOf_none h]; exact ⟨rfl, fun p r e => by
      have : p = [] := by
        have := congrArg List.length e
        simp at this
        exact List.eq_nil_of_length_eq_zero (by omega)
      subst this; simp [net]⟩
  | true =>
    obtain ⟨u, _, _, _, v, e⟩ := wordsOf_some h
    rw [e]; exact words_even u 1 v
/-- How many brackets are open behind so many words. -/
def opn (t : Ex) (i : Nat) : Int := net ((wordsOf t).take i)
theorem opn_zero (t : Ex) : opn t 0 = 0 := by simp [opn, net]
theorem opn_all (t : Ex) : opn t (wordsOf t).length = 0 := by unfold opn; rw [List.take_length]; exact (wordsOf_even t).1
theorem opn_ge (t : Ex) (i : Nat) : 0 ≤ opn t i := (wordsOf_even t).2 _ _ (List.take_append_drop i _).symm
theorem opn_le (t : Ex) (i : Nat) : opn t i ≤ 60 := by
  have h1 := net_bound ((wordsOf t).take i)
  have h2 := wordsOf_len t
  have h3 : ((wordsOf t).take i).length ≤ (wordsOf t).length := by rw [List.length_take]; omega
  unfold opn; omega
theorem opn_next (t : Ex) {i : Nat} (h : i < (wordsOf t).length) : opn t (i + 1) = opn t i + (if (wordsOf t)[i] = [40] then 1 else if (wordsOf t)[i] = [41] then -1 else 0) := by
  unfold opn
  rw [List.take_succ_eq_append_getElem h, net_app]
  simp [net]
theorem wordsOf_word (t : Ex) : ∀ w ∈ wordsOf t, tokKind w ≠ 0 ∧ w.length ≤ 8 := by
  cases h : exprOk t with
  | false => rw [wordsOf_none h]; simp
  | true =>
    obtain ⟨u, _, _, _, v, e⟩ := wordsOf_some h
    rw [e]; intro w hw
    have := words_word u 1 v w hw
    exact ⟨this.1.2.2.2, this.2⟩
theorem own_row1 {w : World} {base n : Nat} {e : TypeId} {v : Value} {xs : List Value} (h : w.ownsRow base e 1 v n xs) : ∃ A c, v = .slice A n c ∧ n ≤ c ∧ c ≤ maxLen ∧ Row w w.heap.size A xs := by
  obtain ⟨A, c, rfl, hc, hr⟩ := own_row h
  refine ⟨A, c, rfl, hc, ?_, hr⟩
  rcases h.2 with ⟨h1, h2⟩ | ⟨g, cap, cur, h1, _, _, _, h4, _⟩
  · simp only [Value.slice.injEq] at h1; rw [h1.2.2]; unfold maxLen; omega
  · simp only [Value.slice.injEq] at h1; rw [h1.2.2]; exact h4
/-- The one text of the words, as the reference makes it. -/
theorem specText (t : Ex) (v : Value) (n b0 : Nat) (W : World) (h : W.ownsRow b0 9 1 v n (wsB (wordsOf t))) (hn : n = (wordsOf t).length) :
    Calls Tryd.prog 29 #[v] W fun e w' => e = .returned (.string (textE t)) ∧ Below W.heap.size W w' := by
  obtain ⟨A, c, rfl, hc, hr⟩ := own_row h
  refine (specTokText A c n (wordsB t) W hr (by unfold Hid wordsB; rw [hn]; simp) (by have := wordsB_sizes t; omega)).mono ?_
  rintro e w' ⟨rfl, rfl⟩
  exact ⟨rfl, Below.refl _ _⟩
/-- What is no words of something is not read. -/
theorem readNot (v : Value) (n b0 : Nat) (xs : List ByteArray) (W : World) (h : W.ownsRow b0 9 1 v n (strB xs)) (hn : xs.length = n) (h8 : ∀ x ∈ xs, x.size ≤ 8) (hT : Tabs W) (hno : ∀ t, exprOk t = true → xs ≠ (wordsOf t).map mkB) :
    Calls Tryd.prog 32 #[v] W fun e w' => ∃ (k n : Int) (s : ByteArray) (A : Option Addr) (l c : Nat), e = .returned (.tuple #[.agg #[.int .i64 k, .int .i64 n, .string s, .slice A l c], .bool false]) ∧ Below W.heap.size W w' := by
  obtain ⟨A, c, rfl, hnc, hc, hr⟩ := own_row1 h
  refine (implExprRead A n c xs W hr hn hnc (by unfold maxLen at hc; omega) h8 hT).mono ?_
  rintro e w' ⟨k, m, s, A', l, c', b, rfl, hb, hbe⟩
  cases b with
  | false => exact ⟨k, m, s, A', l, c', rfl, hbe⟩
  | true =>
    obtain ⟨t, h1, h2⟩ := hb rfl
    exact absurd h2 (hno t h1)
theorem bytes8 (t : Ex) : ∀ x ∈ mkB [40] :: ((wordsOf t).map mkB ++ [mkB [41]]), x.size ≤ 8 := by
  intro x hx
  simp only [List.mem_cons, List.mem_append, List.mem_map, List.not_mem_nil, or_false] at hx
  rcases hx with rfl | ⟨w, hw, rfl⟩ | rfl
  · rw [mkB_size]; simp
  · rw [mkB_size]; exact (wordsOf_word t w hw).2
  · rw [mkB_size]; simp
theorem row_addj {w : World} {B b o : Nat} {vs : List Value} (h : Row w B (some ⟨b, o, none⟩) vs) : ∀ j u, vs[j]? = some u → w.cell? ⟨b, o + j, none⟩ = some u := by
  intro j u hu
  obtain ⟨b', o', e, _, hc⟩ := h j u hu
  injection e with e
  injection e with e1 e2
  subst e1 e2
  exact hc
end Go.Proofs.YtfjmjlpobbjjdaaDoor
