/- Memory that a call has made and hands back; slices.Clip; the marks that a law lays into it. -/
import Derived.Test.YtangjpfookkehaaOwn
import Derived.Test.YtangjpfookkehaaInts
namespace Go.Proofs.Ytangjpfookkehaa
open Go.RowKit
set_option linter.unusedVariables false

/-- The cells vs, at the head of a row of a block from B on, which may be written. -/
def Mine (w : World) (B : Nat) (T : TypeId) (A : Option Addr) (vs : List Value) : Prop :=
  vs = [] ∨ ∃ g cur, A = some ⟨g, 0, none⟩ ∧ B ≤ g ∧ w.heap[g]? = some (.cells cur T (0, 0)) ∧ cur.toList.take vs.length = vs

section
variable {w w' : World} {B : Nat} {T : TypeId} {A : Option Addr} {vs : List Value}
theorem heap_lt {w : World} {g : Nat} {o : Obj} (h : w.heap[g]? = some o) : g < w.heap.size := (Array.getElem?_eq_some_iff.1 h).1
theorem Mine.row (h : Mine w B T A vs) : Row w w.heap.size A vs := by
  rcases h with rfl | ⟨g, cur, rfl, hB, hg, ht⟩
  · exact Row.nil _ _ _
  · intro i v hv
    refine ⟨g, 0, rfl, heap_lt hg, ?_⟩
    have : cur[i]? = some v := by
      rw [← ht, List.getElem?_take] at hv
      split at hv
      · simpa using hv
      · cases hv
    simp [World.cell?, hg, this]
theorem Mine.below (h : Mine w B T A vs) (hb : Below w.heap.size w w') : Mine w' B T A vs := by
  rcases h with rfl | ⟨g, cur, rfl, hB, hg, ht⟩
  · exact .inl rfl
  · exact .inr ⟨g, cur, rfl, hB, (hb.block g (heap_lt hg)).trans hg, ht⟩
theorem Mine.drewN (h : Mine w B T A vs) (k : Nat) : Mine (w.drewN k) B T A vs := h
theorem Mine.of_own {size n : Nat} {v : Value} {xs : List Value} (h : w.ownsRow B T size v n xs) : ∃ A c, v = .slice A n c ∧ n ≤ c ∧ Mine w B T A xs := by
  rcases h.2 with ⟨rfl, rfl⟩ | ⟨g, cap, cur, rfl, hb, hgg, h1, h2, h3, h4⟩
  · have hx : xs = [] := by have := h.1; simp at this; exact this
    exact ⟨none, 0, rfl, Nat.le_refl _, .inl hx⟩
  · exact ⟨_, cap, rfl, h1, .inr ⟨g, cur, rfl, hb, hgg, by rw [h.1]; exact h4⟩⟩
/-- A store at i: what is needed for it, and what it leaves. -/
theorem Mine.at_ (h : Mine w B T A vs) {i : Nat} (hi : i < vs.length) : ∃ g, A = some ⟨g, 0, none⟩ ∧ B ≤ g ∧ w.cell? ⟨g, i, none⟩ = some vs[i] ∧ w.frozen? ⟨g, i, none⟩ = false ∧
    ∀ u, Mine (w.setCell ⟨g, i, none⟩ u) B T (some ⟨g, 0, none⟩) (vs.set i u) := by
  rcases h with rfl | ⟨g, cur, rfl, hB, hg, ht⟩
  · simp at hi
  · have hc : cur[i]? = some vs[i] := by
      have hv := List.getElem?_eq_getElem hi
      have h2 : (cur.toList.take vs.length)[i]? = some vs[i] := by rw [ht]; exact hv
      rw [List.getElem?_take, if_pos hi] at h2
      simpa using h2
    refine ⟨g, rfl, hB, by simp [World.cell?, hg, hc], by simp [World.frozen?, hg], fun u => .inr ⟨g, cur.setIfInBounds i u, rfl, hB, by simp [World.setCell, Array.getElem?_modify, hg], ?_⟩⟩
    rw [List.length_set, Array.toList_setIfInBounds, List.take_set, ht]
end

/-- k, k+1, .. -/
def seqFrom (k : Int) : Nat → List Int
  | 0 => []
  | n + 1 => k :: seqFrom (k + 1) n
theorem seqFrom_length (k : Int) (n : Nat) : (seqFrom k n).length = n := by
  induction n generalizing k with
  | zero => rfl
  | succ n ih => simp [seqFrom, ih]
theorem seqFrom_get (k : Int) (n i : Nat) (h : i < n) : (seqFrom k n)[i]'(by rw [seqFrom_length]; exact h) = k + i := by
  induction n generalizing k i with
  | zero => omega
  | succ n ih =>
    cases i with
    | zero => simp [seqFrom]
    | succ i => simp only [seqFrom, List.getElem_cons_succ]; rw [ih (k + 1) i (by omega)]; omega

def marked (xs : List Int) (k : Int) (i : Nat) : List Value := ints (seqFrom k i ++ xs.drop i)
theorem marked_zero (xs : List Int) (k : Int) : marked xs k 0 = ints xs := by simp [marked, seqFrom]
theorem marked_all (xs : List Int) (k : Int) : marked xs k xs.length = ints (seqFrom k xs.length) := by simp [marked]
theorem marked_len (xs : List Int) (k : Int) (i : Nat) (h : i ≤ xs.length) : (marked xs k i).length = xs.length := by simp [marked, ints, seqFrom_length]; omega
theorem seqFrom_snoc (k : Int) (n : Nat) : seqFrom k (n + 1) = seqFrom k n ++ [k + n] := by
  induction n generalizing k with
  | zero => simp [seqFrom]
  | succ n ih => rw [seqFrom, ih, seqFrom]; simp; omega
theorem marked_set (xs : List Int) (k : Int) (i : Nat) (h : i < xs.length) : (marked xs k i).set i (.int .i64 (k + i)) = marked xs k (i + 1) := by
  unfold marked ints
  rw [← List.map_set, List.set_append_right _ _ (by rw [seqFrom_length]; exact Nat.le_refl _), seqFrom_length, Nat.sub_self, seqFrom_snoc, List.drop_eq_getElem_cons h, List.set_cons_zero, List.append_assoc]
  rfl

set_option maxHeartbeats 1000000 in
theorem clipInts (A : Option Addr) (n c : Nat) (w : World) (hc : n ≤ c) (hn : (n : Int) ≤ 4611686018427387904) :
    Calls Try.prog 47 #[.slice A n c] w fun e w' => e = .returned (.slice A n n) ∧ w = w' := by
  go_enter Try.func47, Try.ntmps47
  go_wp2
  go_ret
  exact ⟨rfl, rfl⟩

set_option maxHeartbeats 1000000 in
theorem markIntS (A : Option Addr) (n c B : Nat) (k : Int) (xs : List Int) (w : World) (h : Mine w B 3 A (ints xs)) (hl : Hid (xs.length = n)) (hB : B ≤ w.heap.size) (hn : (n : Int) ≤ 1000000000) (hk0 : 0 ≤ k) (hk1 : k ≤ 1000000000000) :
    Calls Try.prog 32 #[.slice A n c, .int .i64 k] w fun e w' => e = .returned (.int .i64 (k + n)) ∧ Mine w' B 3 A (ints (seqFrom k n)) ∧ Below B w w' ∧ w'.heap.size = w.heap.size := by
  go_enter Try.func32, Try.ntmps32
  go_wp2_with fail
  go_loopw [1, 5] (fun v u wr => ∃ i : Nat, v = .int .i64 (k + (i : Int)) ∧ u = .int .i64 (i : Int) ∧ i ≤ n ∧ Mine wr B 3 A (marked xs k i) ∧ Below B w wr ∧ wr.heap.size = w.heap.size) (fun _ u _ => n - (intOf u).toNat)
  case atStart => exact ⟨0, by simp, rfl, Nat.zero_le _, by rw [marked_zero]; exact h, Below.refl _ _, rfl⟩
  case round =>
    obtain ⟨i, rfl, rfl, hi, hm, hbw, hsz⟩ := hrel
    have HSZ := Lib.hid hsz; clear hsz
    by_cases hlt : i < n
    · have hx : i < xs.length := by rw [hl.out]; exact hlt
      obtain ⟨g, rfl, hBg, hc, hf, hput⟩ := hm.at_ (i := i) (by rw [marked_len _ _ _ (by omega)]; exact hx)
      have HP := Lib.hid hput
      have HX := Lib.hid hx
      clear hput hm
      go_wp2_with fail
      go_roundw
      case rel =>
        refine ⟨i + 1, by go_num, by go_num, by omega, ?_, hbw.setCell hBg _, ?_⟩
        · exact (marked_set xs k i hx) ▸ HP.out (.int .i64 (k + (i : Int)))
        · rw [← HSZ.out]; simp [World.setCell]
      case measure => simp [intOf]; omega
    · obtain rfl : i = n := by omega
      have hm' : Mine wr B 3 A (ints (seqFrom k i)) := by have := hm; rw [← hl.out, marked_all, hl.out] at this; exact this
      clear hm
      go_wp2_with fail
      go_ret
      exact ⟨rfl, hm', hbw, HSZ.out⟩

set_option maxHeartbeats 1000000 in
theorem heldIntS (A : Option Addr) (n c : Nat) (k : Int) (w : World) (h : Row w w.heap.size A (ints (seqFrom k n))) (hn : (n : Int) ≤ 1000000000) (hk0 : 0 ≤ k) (hk1 : k ≤ 1000000000000) :
    Calls Try.prog 33 #[.slice A n c, .int .i64 k] w fun e w' => e = .returned (.int .i64 (k + n)) ∧ w = w' := by
  go_enter Try.func33, Try.ntmps33
  go_wp2_with fail
  go_loop [1, 5] (fun v u => ∃ i : Nat, v = .int .i64 (k + (i : Int)) ∧ u = .int .i64 (i : Int) ∧ i ≤ n) (fun _ u => n - (intOf u).toNat)
  case atStart => exact ⟨0, by simp, rfl, Nat.zero_le _⟩
  case round =>
    obtain ⟨i, rfl, rfl, hi⟩ := hrel
    by_cases hlt : i < n
    · obtain ⟨b, o, rfl, hb, hc⟩ := h.at_ (i := i) (by rw [ints_length, seqFrom_length]; exact hlt)
      have hc' : w.cell? ⟨b, o + i, none⟩ = some (.int .i64 (k + (i : Int))) := by
        rw [hc]; simp only [ints, List.getElem_map]; rw [seqFrom_get k n i hlt]
      clear hc
      go_wp2_with fail
      go_round
      case rel => exact ⟨i + 1, by go_num, by go_num, by omega⟩
      case measure => simp [intOf]; omega
    · obtain rfl : i = n := by omega
      go_wp2_with fail
      go_ret
      exact ⟨rfl, rfl⟩
end Go.Proofs.Ytangjpfookkehaa
