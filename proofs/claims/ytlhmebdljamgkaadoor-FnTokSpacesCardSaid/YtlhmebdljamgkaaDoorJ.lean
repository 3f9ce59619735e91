/- Plain facts: texts joined with a byte between; texts cut at a byte, as the shelf says it. -/
import Derived.Lib.Join
import Derived.Lib.Split
import Derived.Lib.LastIndexByte
import Derived.Test.YtlhmebdljamgkaaDoorP1
namespace Go.Proofs.YtlhmebdljamgkaaDoor
open Ilp

theorem join_take_succ (sep : List UInt8) (xs : List (List UInt8)) (k : Nat) (y : List UInt8) (h : xs[k + 1]? = some y) : Lib.join (xs.take (k + 2)) sep = Lib.join (xs.take (k + 1)) sep ++ sep ++ y := by
  cases xs with
  | nil => simp at h
  | cons x r =>
    simp only [List.take_succ_cons, Lib.join_cons]
    rw [Lib.joinTail_take_succ sep r k y (by simpa using h)]; simp [List.append_assoc]
theorem join_take_one (sep : List UInt8) (xs : List (List UInt8)) (y : List UInt8) (h : xs[0]? = some y) : Lib.join (xs.take 1) sep = y := by
  cases xs with
  | nil => simp at h
  | cons x r => simp at h; subst h; simp [Lib.join_one]
theorem join_len (sep : List UInt8) (xs : List (List UInt8)) : (Lib.join xs sep).length ≤ Lib.lens xs + sep.length * xs.length := by
  cases xs with
  | nil => simp [Lib.join_nil]
  | cons x r =>
    rw [Lib.join_cons, List.length_append, Lib.joinTail_length]
    simp only [Lib.lens, List.map_cons, List.sum_cons, List.length_cons, Nat.mul_succ]; omega
theorem join_take_le (sep : List UInt8) (xs : List (List UInt8)) (k : Nat) : (Lib.join (xs.take k) sep).length ≤ Lib.lens xs + sep.length * xs.length := by
  have h1 := join_len sep (xs.take k)
  have h2 := Lib.lens_take_le xs k
  have h3 : sep.length * (xs.take k).length ≤ sep.length * xs.length := Nat.mul_le_mul_left _ (by rw [List.length_take]; omega)
  omega
theorem lib_join_nl : ∀ (xs : List (List UInt8)), Lib.join xs [10] = Ilp.join xs
  | [] => rfl
  | [a] => by rw [Lib.join_one]; rfl
  | a :: b :: r => by
    rw [Lib.join_cons, Ilp.join, ← lib_join_nl (b :: r), Lib.join_cons]; simp [Lib.joinTail]

theorem nl_parts : ∀ (s : List UInt8), (∀ c ∈ s, c ≠ 10) ∨ ∃ a t, s = a ++ 10 :: t ∧ ∀ c ∈ a, c ≠ 10
  | [] => .inl (by simp)
  | c :: t => by
    by_cases h : c = 10
    · exact .inr ⟨[], t, by simp [h], by simp⟩
    · rcases nl_parts t with h1 | ⟨a, u, rfl, h1⟩
      · exact .inl (by intro d hd; rcases List.mem_cons.1 hd with rfl | hd; exact h; exact h1 d hd)
      · exact .inr ⟨c :: a, u, rfl, by intro d hd; rcases List.mem_cons.1 hd with rfl | hd; exact h; exact h1 d hd⟩
theorem index_plain : ∀ (a : List UInt8), (∀ c ∈ a, c ≠ 10) → Lib.index a [10] = -1
  | [], _ => rfl
  | c :: t, h => by
    have h1 : c ≠ 10 := h c (by simp)
    have h2 := index_plain t (fun d hd => h d (by simp [hd]))
    have e : ([10] : List UInt8).isPrefixOf (c :: t) = false := by
      simp [List.isPrefixOf]; exact fun e => h1 e.symm
    simp [Lib.index, e, h2]
theorem index_app : ∀ (a t : List UInt8), (∀ c ∈ a, c ≠ 10) → Lib.index (a ++ 10 :: t) [10] = (a.length : Int)
  | [], t, _ => by simp [Lib.index, List.isPrefixOf]
  | c :: a, t, h => by
    have h1 : c ≠ 10 := h c (by simp)
    have h2 := index_app a t (fun d hd => h d (by simp [hd]))
    have e : ([10] : List UInt8).isPrefixOf (c :: (a ++ 10 :: t)) = false := by
      simp [List.isPrefixOf]; exact fun e => h1 e.symm
    have e3 : ((a.length : Int) == -1) = false := by rw [beq_eq_false_iff_ne]; omega
    rw [List.cons_append, Lib.index, e, h2, e3]; simp
theorem count_plain {a : List UInt8} (h : ∀ c ∈ a, c ≠ 10) : Lib.count a [10] = 0 := Lib.count_miss (index_plain a h)
theorem drop_app (a t : List UInt8) : (a ++ 10 :: t).drop (a.length + 1) = t := by
  rw [← List.drop_drop, List.drop_left]; rfl
theorem count_app {a : List UInt8} (h : ∀ c ∈ a, c ≠ 10) (t : List UInt8) : Lib.count (a ++ 10 :: t) [10] = 1 + Lib.count t [10] := by
  rw [Lib.count_hit (by simp) (index_app a t h)]
  show 1 + Lib.count ((a ++ 10 :: t).drop (a.length + 1)) [10] = _
  rw [drop_app]
theorem split_cut : ∀ (N : Nat) (s : List UInt8), s.length ≤ N → Lib.splitK [10] 0 (Lib.count s [10]) s = cut s ∧ (cut s).length = Lib.count s [10] + 1 := by
  intro N
  induction N with
  | zero =>
    intro s hs
    obtain rfl : s = [] := List.eq_nil_of_length_eq_zero (by omega)
    rw [count_plain (by simp)]; exact ⟨rfl, rfl⟩
  | succ N ih =>
    intro s hs
    rcases nl_parts s with h | ⟨a, t, rfl, h⟩
    · rw [count_plain h, cut_plain s h]; exact ⟨rfl, rfl⟩
    · obtain ⟨h1, h2⟩ := ih t (by simp at hs; omega)
      rw [count_app h t, cut_app a t h, Nat.add_comm 1]
      refine ⟨?_, by simp [h2]⟩
      have e3 : ((a.length : Int) == -1) = false := by rw [beq_eq_false_iff_ne]; omega
      rw [Lib.splitK, index_app a t h, e3]
      show (if false = true then _ else _) = _
      rw [if_neg (by simp), Int.toNat_natCast]
      show (a ++ 10 :: t).take a.length :: Lib.splitK [10] 0 (Lib.count t [10]) ((a ++ 10 :: t).drop (a.length + 1)) = _
      rw [drop_app, h1, List.take_left]
theorem splitB_cut (s : ByteArray) : (Lib.splitB ⟨#[10]⟩ 0 (Lib.countB s ⟨#[10]⟩) s).map (·.data.toList) = cut s.data.toList ∧ Lib.countB s ⟨#[10]⟩ + 1 = (cut s.data.toList).length := by
  have h := split_cut _ s.data.toList (Nat.le_refl _)
  refine ⟨?_, h.2.symm⟩
  rw [Lib.splitB_data]; exact h.1

theorem pos_count : ∀ (l : List UInt8), (pos l).1 = l.count 10
  | [] => rfl
  | c :: t => by
    have ih := pos_count t
    by_cases h : c = 10
    · subst h; rw [pos_nl, List.count_cons_self]; simp [ih]
    · rw [List.count_cons_of_ne (by simpa using h)]
      by_cases h0 : (pos t).1 = 0
      · rw [pos_zero h t h0]; simp; omega
      · rw [pos_more h t h0]; exact ih
theorem pos_last (s : ByteArray) : ∀ k : Nat, k ≤ s.size → ((pos (s.data.toList.take k)).2 : Int) = (k : Int) - Lib.lastIdx s 10 k - 1
  | 0, _ => by simp [pos, Lib.lastIdx]
  | k + 1, h => by
    have ih := pos_last s k (by omega)
    have hk : k < s.data.size := h
    have e : s.data.toList.take (k + 1) = s.data.toList.take k ++ [s.data[k]'hk] := by
      rw [List.take_succ_eq_append_getElem (by simpa using hk)]; simp
    have e2 : s.data[k]! = s.data[k]'hk := getElem!_pos s.data k hk
    rw [e, pos_snoc]
    by_cases hc : s.data[k]'hk = 10
    · rw [if_pos hc, Lib.lastIdx_hit s 10 k (by rw [e2, hc]; rfl)]
      show ((0 : Nat) : Int) = _
      omega
    · rw [if_neg hc, Lib.lastIdx_miss s 10 k (by rw [e2]; intro h'; apply hc; apply UInt8.toNat_inj.1; show _ = 10; omega)]
      show (((pos (s.data.toList.take k)).2 + 1 : Nat) : Int) = _
      omega
end Go.Proofs.YtlhmebdljamgkaaDoor
