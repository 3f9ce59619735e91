/- SA: the texts J JB TK MarkS in one. -/
import Derived.Lib.Join
import Derived.Lib.Split
import Derived.Lib.LastIndexByte
import Derived.Test.YtfjmjlpobbjjdaaDoorPA
import Derived.Test.YtfjmjlpobbjjdaaDoorLA
import Derived.Test.YtfjmjlpobbjjdaaDoorShelf
import Derived.Test.YtfjmjlpobbjjdaaDoorTA
import Derived.Lib.QuietBelow
import Derived.Laws.IdiomStrings
import Derived.Handy

namespace Go.Proofs.YtfjmjlpobbjjdaaDoor
open Ilp

theorem join_take_succ (sep : List UInt8) (xs : List (List UInt8)) (k : Nat) (y : List UInt8) (h : xs[k + 1]? = some y) : Lib.join (xs.take (k + 2)) sep = Lib.join (xs.take (k + 1)) sep ++ sep ++ y := by
  cases xs with
  | nil => simp at h
  | cons x r =>
    simp only [List.take_succ_cons, Lib.join_cons]
    rw [Lib.joinTail_take_succ sep r k y (by simpa using h)]; simp [List.append_assoc]
theorem join_take_one (sep : List UInt8) (xs : List (List UInt8)) (y : List UInt8) (h : xs[0]? = some y) : Lib.join (xs.take 1) sep = y := by
  cases xs with
  | nil => simp at h
  | cons x r => simp at h; subst h; simp [Lib.join_one]
theorem join_len (sep : List UInt8) (xs : List (List UInt8)) : (Lib.join xs sep).length ≤ Lib.lens xs + sep.length * xs.length := by
  cases xs with
  | nil => simp [Lib.join_nil]
  | cons x r =>
    rw [Lib.join_cons, List.length_append, Lib.joinTail_length]
    simp only [Lib.lens, List.map_cons, List.sum_cons, List.length_cons, Nat.mul_succ]; omega
theorem join_take_le (sep : List UInt8) (xs : List (List UInt8)) (k : Nat) : (Lib.join (xs.take k) sep).length ≤ Lib.lens xs + sep.length * xs.length := by
  have h1 := join_len sep (xs.take k)
  have h2 := Lib.lens_take_le xs k
  have h3 : sep.length * (xs.take k).length ≤ sep.length * xs.length := Nat.mul_le_mul_left _ (by rw [List.length_take]; omega)
  omega
theorem lib_join_nl : ∀ (xs : List (List UInt8)), Lib.join xs [10] = Ilp.join xs
  | [] => rfl
  | [a] => by rw [Lib.join_one]; rfl
  | a :: b :: r => by
    rw [Lib.join_cons, Ilp.join, ← lib_join_nl (b :: r), Lib.join_cons]; simp [Lib.joinTail]

theorem nl_parts : ∀ (s : List UInt8), (∀ c ∈ s, c ≠ 10) ∨ ∃ a t, s = a ++ 10 :: t ∧ ∀ c ∈ a, c ≠ 10
  | [] => .inl (by simp)
  | c :: t => by
    by_cases h : c = 10
    · exact .inr ⟨[], t, by simp [h], by simp⟩
    · rcases nl_parts t with h1 | ⟨a, u, rfl, h1⟩
      · exact .inl (by intro d hd; rcases List.mem_cons.1 hd with rfl | hd; exact h; exact h1 d hd)
      · exact .inr ⟨c :: a, u, rfl, by intro d hd; rcases List.mem_cons.1 hd with rfl | hd; exact h; exact h1 d hd⟩
theorem index_plain : ∀ (a : List UInt8), (∀ c ∈ a, c ≠ 10) → Lib.index a [10] = -1
  | [], _ => rfl
  | c :: t, h => by
    have h1 : c ≠ 10 := h c (by simp)
    have h2 := index_plain t (fun d hd => h d (by simp [hd]))
    have e : ([10] : List UInt8).isPrefixOf (c :: t) = false := by
      simp [List.isPrefixOf]; exact fun e => h1 e.symm
    simp [Lib.index, e, h2]
theorem index_app : ∀ (a t : List UInt8), (∀ c ∈ a, c ≠ 10) → Lib.index (a ++ 10 :: t) [10] = (a.length : Int)
  | [], t, _ => by simp [Lib.index, List.isPrefixOf]
  | c :: a, t, h => by
    have h1 : c ≠ 10 := h c (by simp)
    have h2 := index_app a t (fun d hd => h d (by simp [hd]))
    have e : ([10] : List UInt8).isPrefixOf (c :: (a ++ 10 :: t)) = false := by
      simp [List.isPrefixOf]; exact fun e => h1 e.symm
    have e3 : ((a.length : Int) == -1) = false := by rw [beq_eq_false_iff_ne]; omega
    rw [List.cons_append, Lib.index, e, h2, e3]; simp
theorem count_plain {a : List UInt8} (h : ∀ c ∈ a, c ≠ 10) : Lib.count a [10] = 0 := Lib.count_miss (index_plain a h)
theorem drop_app (a t : List UInt8) : (a ++ 10 :: t).drop (a.length + 1) = t := by
  rw [← List.drop_drop, List.drop_left]; rfl
theorem count_app {a : List UInt8} (h : ∀ c ∈ a, c ≠ 10) (t : List UInt8) : Lib.count (a ++ 10 :: t) [10] = 1 + Lib.count t [10] := by
  rw [Lib.count_hit (by simp) (index_app a t h)]
  show 1 + Lib.count ((a ++ 10 :: t).drop (a.length + 1)) [10] = _
  rw [drop_app]
theorem split_cut : ∀ (N : Nat) (s : List UInt8), s.length ≤ N → Lib.splitK [10] 0 (Lib.count s [10]) s = cut s ∧ (cut s).length = Lib.count s [10] + 1 := by
  intro N
  induction N with
  | zero =>
    intro s hs
    obtain rfl : s = [] := List.eq_nil_of_length_eq_zero (by omega)
    rw [count_plain (by simp)]; exact ⟨rfl, rfl⟩
  | succ N ih =>
    intro s hs
    rcases nl_parts s with h | ⟨a, t, rfl, h⟩
    · rw [count_plain h, cut_plain s h]; exact ⟨rfl, rfl⟩
    · obtain ⟨h1, h2⟩ := ih t (by simp at hs; omega)
      rw [count_app h t, cut_app a t h, Nat.add_comm 1]
      refine ⟨?_, by simp [h2]⟩
      have e3 : ((a.length : Int) == -1) = false := by rw [beq_eq_false_iff_ne]; omega
      rw [Lib.splitK, index_app a t h, e3]
      show (if false = true then _ else _) = _
      rw [if_neg (by simp), Int.toNat_natCast]
      show (a ++ 10 :: t).take a.length :: Lib.splitK [10] 0 (Lib.count t [10]) ((a ++ 10 :: t).drop (a.length + 1)) = _
      rw [drop_app, h1, List.take_left]
theorem splitB_cut (s : ByteArray) : (Lib.splitB ⟨#[10]⟩ 0 (Lib.countB s ⟨#[10]⟩) s).map (·.data.toList) = cut s.data.toList ∧ Lib.countB s ⟨#[10]⟩ + 1 = (cut s.data.toList).length := by
  have h := split_cut _ s.data.toList (Nat.le_refl _)
  refine ⟨?_, h.2.symm⟩
  rw [Lib.splitB_data]; exact h.1

theorem pos_count : ∀ (l : List UInt8), (pos l).1 = l.count 10
  | [] => rfl
  | c :: t => by
    have ih := pos_count t
    by_cases h : c = 10
    · subst h; rw [pos_nl, List.count_cons_self]; simp [ih]
    · rw [List.count_cons_of_ne (by simpa using h)]
      by_cases h0 : (pos t).1 = 0
      · rw [pos_zero h t h0]; simp; omega
      · rw [pos_more h t h0]; exact ih
theorem pos_last (s : ByteArray) : ∀ k : Nat, k ≤ s.size → ((pos (s.data.toList.take k)).2 : Int) = (k : Int) - Lib.lastIdx s 10 k - 1
  | 0, _ => by simp [pos, Lib.lastIdx]
  | k + 1, h => by
    have ih := pos_last s k (by omega)
    have hk : k < s.data.size := h
    have e : s.data.toList.take (k + 1) = s.data.toList.take k ++ [s.data[k]'hk] := by
      rw [List.take_succ_eq_append_getElem (by simpa using hk)]; simp
    have e2 : s.data[k]! = s.data[k]'hk := getElem!_pos s.data k hk
    rw [e, pos_snoc]
    by_cases hc : s.data[k]'hk = 10
    · rw [if_pos hc, Lib.lastIdx_hit s 10 k (by rw [e2, hc]; rfl)]
      show ((0 : Nat) : Int) = _
      omega
    · rw [if_neg hc, Lib.lastIdx_miss s 10 k (by rw [e2]; intro h'; apply hc; apply UInt8.toNat_inj.1; show _ = 10; omega)]
      show (((pos (s.data.toList.take k)).2 + 1 : Nat) : Int) = _
      omega
end Go.Proofs.YtfjmjlpobbjjdaaDoor

namespace Go.Proofs.YtfjmjlpobbjjdaaDoor
open Go.RowKit Ilp
set_option linter.unusedVariables false

def dats (xs : List ByteArray) : List (List UInt8) := xs.map (·.data.toList)
theorem dats_lens (xs : List ByteArray) : Lib.lens (dats xs) = sizes xs := by
  unfold Lib.lens dats sizes; rw [List.map_map]; rfl
theorem dats_get {xs : List ByteArray} {k : Nat} (h : k < xs.length) : (dats xs)[k]? = some xs[k].data.toList := by simp [dats, h]
theorem dats_take (xs : List ByteArray) (k : Nat) : dats (xs.take k) = (dats xs).take k := by simp [dats, List.map_take]
/-- A list joined with a byte between, as a text. -/
def joinB (c : UInt8) (xs : List ByteArray) : ByteArray := ⟨(Lib.join (dats xs) [c]).toArray⟩
theorem joinB_data (c : UInt8) (xs : List ByteArray) : (joinB c xs).data.toList = Lib.join (dats xs) [c] := by simp [joinB]
theorem joinB_size (c : UInt8) (xs : List ByteArray) : (joinB c xs).size = (Lib.join (dats xs) [c]).length := by simp [joinB, ByteArray.size]
theorem joinB_le (c : UInt8) (xs : List ByteArray) (k : Nat) : (joinB c (xs.take k)).size ≤ sizes xs + xs.length := by
  rw [joinB_size, dats_take]
  have h := join_take_le [c] (dats xs) k
  rw [dats_lens] at h
  simpa [dats] using h
theorem joinB_all (c : UInt8) (xs : List ByteArray) : joinB c (xs.take xs.length) = joinB c xs := by rw [List.take_length]
theorem joinB_one (c : UInt8) {xs : List ByteArray} (h : 0 < xs.length) : joinB c (xs.take 1) = xs[0] := by
  apply ByteArray.ext; apply Array.ext'
  rw [joinB_data, dats_take, join_take_one [c] _ _ (dats_get h)]
theorem joinB_succ (c : UInt8) {xs : List ByteArray} {k : Nat} (h : k + 1 < xs.length) : joinB c (xs.take (k + 2)) = joinB c (xs.take (k + 1)) ++ ⟨#[c]⟩ ++ xs[k + 1] := by
  apply ByteArray.ext; apply Array.ext'
  simp only [ByteArray.data_append, Array.toList_append]
  rw [joinB_data, joinB_data, dats_take, dats_take, join_take_succ [c] _ _ _ (dats_get h)]

theorem stringsJoin (A : Option Addr) (c n : Nat) (b : UInt8) (xs : List ByteArray) (w : World) (hr : Row w w.heap.size A (strB xs)) (hl : Hid (xs.length = n)) (hc : n ≤ c) (hs : sizes xs + xs.length ≤ 1048576) :
    Calls Tryd.prog 59 #[.slice A n c, .string ⟨#[b]⟩] w fun e w' => e = .returned (.string (joinB b xs)) ∧ Below w.heap.size w w' := by
  obtain rfl := hl.out
  by_cases h0 : xs.length = 0
  · have e : xs = [] := List.eq_nil_of_length_eq_zero h0
    subst e
    refine (Tryd.strings_Join_none A c _ w).mono ?_
    rintro e w' ⟨rfl, rfl⟩
    exact ⟨rfl, Below.refl _ _⟩
  · obtain ⟨bk, o, rfl, hb, _⟩ := hr.at_ (i := 0) (by rw [strB_length]; omega)
    refine (Tryd.strings_Join bk o c xs ⟨#[b]⟩ w (fun j x hx => ?_) hb (by omega) hc ?_).mono fun e w' h => h
    · obtain ⟨b', o', e, _, h⟩ := hr j (.string x) (by simp [strB, hx])
      simp only [Option.some.injEq, Addr.mk.injEq] at e
      obtain ⟨rfl, rfl, _⟩ := e
      exact h
    · have h := join_len [b] (dats xs)
      rw [dats_lens] at h
      simp [dats] at h ⊢; omega
end Go.Proofs.YtfjmjlpobbjjdaaDoor

namespace Go.Proofs.YtfjmjlpobbjjdaaDoor
open Go.RowKit Ilp
set_option linter.unusedVariables false

set_option maxHeartbeats 2000000 in
theorem specTokText (A : Option Addr) (c n : Nat) (xs : List ByteArray) (w : World) (hr : Row w w.heap.size A (strB xs)) (hl : Hid (xs.length = n)) (hs : ((sizes xs + xs.length : Nat) : Int) ≤ 1048576) :
    Calls Tryd.prog 29 #[.slice A n c] w fun e w' => e = .returned (.string (joinB 32 xs)) ∧ w = w' := by
  have hn : (n : Int) ≤ 1048576 := by have := hl.out; omega
  have HLE := Lib.hid (joinB_le 32 xs)
  have HS := Lib.hid hs; clear hs
  go_enter Tryd.func29, Tryd.ntmps29
  go_wp2_with fail
  go_loop [3, 4] (fun v u => ∃ (k : Nat) (s : ByteArray), u = .int .i64 (k : Int) ∧ v = .string s ∧ k ≤ n ∧ Hid (s = joinB 32 (xs.take k))) (fun _ u => n - (intOf u).toNat)
  case atStart => exact ⟨0, _, rfl, rfl, Nat.zero_le _, rfl⟩
  case round =>
    obtain ⟨k, s, rfl, rfl, hk, hs⟩ := hrel
    have hle : (s.size : Int) ≤ 1048576 := by rw [hs.out]; have := HLE.out k; have := HS.out; omega
    by_cases hlt : k < n
    · have hx : k < xs.length := by rw [hl.out]; exact hlt
      obtain ⟨b, o, rfl, hbb, hc⟩ := hr.at_ (i := k) (by rw [strB_length]; exact hx)
      obtain ⟨x, ex⟩ : ∃ x, x = xs[k] := ⟨_, rfl⟩
      have hc1 : w.cell? ⟨b, o + k, none⟩ = some (.string x) := by rw [hc, ex]; simp [strB]
      clear hc
      by_cases h0 : k = 0
      · subst h0
        have hs' : s = ByteArray.empty := hs.out
        have H : Hid (x = joinB 32 (xs.take 1)) := by unfold Hid; rw [joinB_one 32 hx, ex]
        have hle2 : (x.size : Int) ≤ 1048576 := by rw [H.out]; have := HLE.out 1; have := HS.out; omega
        subst hs'
        clear ex
        simp only [Nat.add_zero] at hc1
        go_wp2_with fail
        go_round
        case rel => exact ⟨1, x, rfl, by simp, by omega, H⟩
        case measure => simp [intOf]; omega
      · obtain ⟨j, rfl⟩ : ∃ j, k = j + 1 := ⟨k - 1, by omega⟩
        have hsu := joinB_succ 32 hx
        rw [← hs.out, ← ex] at hsu
        have hle2 := HLE.out (j + 2)
        rw [hsu] at hle2
        have hle3 : ((s ++ ⟨#[32]⟩ ++ x).size : Int) ≤ 1048576 := by have := HS.out; omega
        rw [ByteArray.size_append, ByteArray.size_append] at hle3
        have hle4 : (s.size : Int) + 1 + (x.size : Int) ≤ 1048576 := by
          have : (ByteArray.mk #[32]).size = 1 := rfl
          omega
        have H := Lib.hid hsu
        have hk0 : (0 : Int) < ((j + 1 : Nat) : Int) := by omega
        clear hle3 hsu ex
        go_wp2_with fail
        go_round
        case rel => exact ⟨j + 2, _, by go_num, rfl, by omega, H.out.symm⟩
        case measure => simp [intOf]; omega
    · obtain rfl : k = n := by omega
      have H : Hid (s = joinB 32 xs) := by unfold Hid; rw [hs.out, ← hl.out, joinB_all]
      go_wp2_with fail
      go_ret
      exact ⟨by rw [H.out]; rfl, rfl⟩

set_option maxHeartbeats 1000000 in
theorem implTokText (A : Option Addr) (c n : Nat) (xs : List ByteArray) (w : World) (hr : Row w w.heap.size A (strB xs)) (hl : Hid (xs.length = n)) (hc : n ≤ c) (hs : Hid (sizes xs + xs.length ≤ 1048576)) :
    Calls Tryd.prog 28 #[.slice A n c] w fun e w' => e = .returned (.string (joinB 32 xs)) ∧ Below w.heap.size w w' := by
  go_enter Tryd.func28, Tryd.ntmps28
  go_wp2_with fail
  refine (stringsJoin A c n 32 xs w hr hl hc hs.out).mono ?_
  rintro e w1 ⟨rfl, hb⟩
  go_wp2_with fail
  go_ret
  exact ⟨rfl, hb⟩

end Go.Proofs.YtfjmjlpobbjjdaaDoor

namespace Go.Proofs.YtfjmjlpobbjjdaaDoor
open Go.RowKit
set_option linter.unusedVariables false

/-- The digits of a number, none of 0. -/
def digs (n : Nat) : List UInt8 := if h : n = 0 then [] else digs (n / 10) ++ [UInt8.ofNat (48 + n % 10)]
termination_by n
decreasing_by omega
theorem digs_zero : digs 0 = [] := by rw [digs]; simp
theorem digs_pos {n : Nat} (h : n ≠ 0) : digs n = digs (n / 10) ++ [UInt8.ofNat (48 + n % 10)] := by rw [digs]; simp [h]
/-- The mark of a number above 0. -/
def markT (n : Nat) : ByteArray := ⟨(109 :: digs n).toArray⟩
theorem digs_len : ∀ (d n : Nat), n < 10 ^ d → (digs n).length ≤ d := by
  intro d
  induction d with
  | zero => intro n h; obtain rfl : n = 0 := by omega
            rw [digs_zero]; simp
  | succ d ih =>
    intro n h
    by_cases h0 : n = 0
    · subst h0; rw [digs_zero]; simp
    · rw [digs_pos h0, List.length_append]
      have := ih (n / 10) (by rw [Nat.pow_succ] at h; omega)
      simp; omega
theorem digs_le {n : Nat} (h : (n : Int) ≤ 1000000000) : (digs n).length ≤ 10 := digs_len 10 n (by omega)
theorem byteN (d : Nat) (h : d < 10) : ((UInt8.ofNat (48 + d)).toNat : Int) = 48 + (d : Int) := by
  rw [UInt8.toNat_ofNat']; omega

set_option maxHeartbeats 2000000 in
theorem markText (n : Nat) (w : World) (hn0 : 0 < n) (hn : (n : Int) ≤ 1000000000) :
    Calls Tryd.prog 72 #[.int .i64 (n : Int)] w fun e w' => e = .returned (.string (markT n)) ∧ Below w.heap.size w w' := by
  have h0 : ¬ ((n : Int) ≤ 0) := by omega
  have HN := Lib.hid (digs_le hn)
  go_enter Tryd.func72, Tryd.ntmps72
  go_wp2_with fail
  go_loopw [0, 3] (fun v o wr => ∃ (m : Nat) (l : List UInt8), v = .int .i64 (m : Int) ∧ o = .string ⟨l.toArray⟩ ∧ (m : Int) ≤ 1000000000 ∧ l.length ≤ 10 ∧ Hid (digs n = digs m ++ l) ∧ Below w.heap.size w wr) (fun v _ _ => (intOf v).toNat)
  case atStart => exact ⟨n, [], rfl, rfl, hn, by simp, by simp [Hid], Below.refl _ _⟩
  case round =>
    obtain ⟨m, l, rfl, rfl, hm, hl, hd, hbw⟩ := hrel
    have HB := Lib.hid hbw; clear hbw
    by_cases hm0 : m = 0
    · subst hm0
      have e : Hid (markT n = ⟨(109 :: l).toArray⟩) := by
        have := hd.out; rw [digs_zero, List.nil_append] at this
        unfold Hid markT; rw [this]
      have hl' : (l.length : Int) ≤ 10 := by omega
      have e2 : Hid ((ByteArray.mk #[109]) ++ ⟨l.toArray⟩ = ⟨(109 :: l).toArray⟩) := by unfold Hid; apply ByteArray.ext; simp
      go_wp2_with fail
      go_ret
      exact ⟨by rw [e.out, ← e2.out]; rfl, HB.out⟩
    · have hm1 : (0 : Int) < (m : Int) := by omega
      have hst := digs_pos hm0
      have hlen : l.length + 1 ≤ 10 := by
        have h1 := HN.out
        rw [hd.out, hst, List.length_append, List.length_append] at h1
        simp at h1; omega
      have hmod : m % 10 < 10 := Nat.mod_lt _ (by omega)
      have hbt := byteN (m % 10) hmod
      have hcv : ∀ W : World, (convert 22 9 (.slice (some ⟨W.heap.size, 0, none⟩) 1 1)).run Tryd.prog (W.alloc (.cells #[.int .u8 (48 + ((m % 10 : Nat) : Int))] 5)) = .ok (.string ⟨#[UInt8.ofNat (48 + m % 10)]⟩) (W.alloc (.cells #[.int .u8 (48 + ((m % 10 : Nat) : Int))] 5)) := fun W => by
        refine run_convert_bytes_back _ 22 9 5 ⟨W.heap.size, 0, none⟩ 1 [UInt8.ofNat (48 + m % 10)] Tryd.underlying22 Tryd.underlying5 Tryd.underlying9 ?_
        intro j hj
        obtain rfl : j = 0 := by simp at hj; omega
        simp only [Addr.add, List.getElem_cons_zero]
        rw [hbt]; simp
      have HD : Hid (digs n = digs (m / 10) ++ ([UInt8.ofNat (48 + m % 10)] ++ l)) := by unfold Hid; rw [hd.out, hst, List.append_assoc]
      have hme : ((m : Int) % 10) = ((m % 10 : Nat) : Int) := by omega
      have hmr : (0 : Int) ≤ ((m % 10 : Nat) : Int) ∧ ((m % 10 : Nat) : Int) ≤ 9 := by omega
      obtain ⟨hr0, hr1⟩ := hmr
      have hl' : (l.length : Int) ≤ 10 := by omega
      have hdiv : Hid ((m : Int) / 10 = ((m / 10 : Nat) : Int)) := by unfold Hid; omega
      have HLEN := Lib.hid hlen
      clear hst hbt hd hmod hlen
      generalize m % 10 = d at *
      go_wp2_with fail
      go_roundw
      case rel =>
        refine ⟨m / 10, [UInt8.ofNat (48 + d)] ++ l, by rw [hdiv.out], ?_, by omega, by have := HLEN.out; simp; omega, HD, HB.out.alloc HB.out.size _⟩
        congr 1; apply ByteArray.ext; simp
      case measure => simp [intOf]; omega

def marksFrom (k : Nat) : Nat → List ByteArray
  | 0 => []
  | n + 1 => markT k :: marksFrom (k + 1) n
theorem marksFrom_length (k n : Nat) : (marksFrom k n).length = n := by
  induction n generalizing k with
  | zero => rfl
  | succ n ih => simp [marksFrom, ih]
theorem marksFrom_get (k n i : Nat) (h : i < n) : (marksFrom k n)[i]'(by rw [marksFrom_length]; exact h) = markT (k + i) := by
  induction n generalizing k i with
  | zero => omega
  | succ n ih =>
    cases i with
    | zero => simp [marksFrom]
    | succ i => simp only [marksFrom, List.getElem_cons_succ]; rw [ih (k + 1) i (by omega)]; congr 1; omega
theorem marksFrom_snoc (k n : Nat) : marksFrom k (n + 1) = marksFrom k n ++ [markT (k + n)] := by
  induction n generalizing k with
  | zero => simp [marksFrom]
  | succ n ih => rw [marksFrom, ih, marksFrom]; simp; congr 1; omega
def markedS (xs : List ByteArray) (k i : Nat) : List Value := strB (marksFrom k i ++ xs.drop i)
theorem markedS_zero (xs : List ByteArray) (k : Nat) : markedS xs k 0 = strB xs := by simp [markedS, marksFrom]
theorem markedS_all (xs : List ByteArray) (k : Nat) : markedS xs k xs.length = strB (marksFrom k xs.length) := by simp [markedS]
theorem markedS_len (xs : List ByteArray) (k i : Nat) (h : i ≤ xs.length) : (markedS xs k i).length = xs.length := by simp [markedS, strB, marksFrom_length]; omega
theorem markedS_set (xs : List ByteArray) (k i : Nat) (h : i < xs.length) : (markedS xs k i).set i (.string (markT (k + i))) = markedS xs k (i + 1) := by
  unfold markedS strB
  rw [← List.map_set, List.set_append_right _ _ (by rw [marksFrom_length]; exact Nat.le_refl _), marksFrom_length, Nat.sub_self, marksFrom_snoc, List.drop_eq_getElem_cons h, List.set_cons_zero, List.append_assoc]
  rfl
theorem Mine.keep {w w' : World} {B : Nat} {T : TypeId} {A : Option Addr} {vs : List Value} (h : Mine w B T A vs) (hb : Below w.heap.size w w') : Mine w' B T A vs := h.below hb

set_option maxHeartbeats 1000000 in
theorem markStringS (A : Option Addr) (n c B k : Nat) (xs : List ByteArray) (w : World) (h : Mine w B 9 A (strB xs)) (hl : Hid (xs.length = n)) (hB : B ≤ w.heap.size) (hn : (n : Int) ≤ 100000000) (hk0 : 0 < k) (hk1 : (k : Int) ≤ 100000000) :
    Calls Tryd.prog 42 #[.slice A n c, .int .i64 (k : Int)] w fun e w' => e = .returned (.int .i64 ((k + n : Nat) : Int)) ∧ Mine w' B 9 A (strB (marksFrom k n)) ∧ Below B w w' := by
  go_enter Tryd.func42, Tryd.ntmps42
  go_wp2_with fail
  go_loopw [1, 5] (fun v u wr => ∃ i : Nat, v = .int .i64 ((k + i : Nat) : Int) ∧ u = .int .i64 (i : Int) ∧ i ≤ n ∧ Mine wr B 9 A (markedS xs k i) ∧ Below B w wr ∧ B ≤ wr.heap.size) (fun _ u _ => n - (intOf u).toNat)
  case atStart => exact ⟨0, by simp, rfl, Nat.zero_le _, by rw [markedS_zero]; exact h, Below.refl _ _, hB⟩
  case round =>
    clear h hB
    obtain ⟨i, rfl, rfl, hi, hm, hbw, hsz⟩ := hrel
    have HM := Lib.hid hm; clear hm
    have HB := Lib.hid hbw; clear hbw
    by_cases hlt : i < n
    · have hx : i < xs.length := by rw [hl.out]; exact hlt
      have HX := Lib.hid hx
      have hki : ((k + i : Nat) : Int) ≤ 1000000000 := by omega
      have c1 := fun W => markText (k + i) W (by omega) hki
      have C1 := Lib.hid c1
      clear c1
      obtain ⟨q, hq⟩ : ∃ q, q = k + i := ⟨_, rfl⟩
      rw [← hq] at C1 hki ⊢
      have HQ := Lib.hid hq
      clear hq
      go_wp2_with fail
      refine (C1.out wr).mono ?_
      rintro e w1 ⟨rfl, hb1⟩
      have hm1 := HM.out.below hb1
      have hs1 := hb1.size
      obtain ⟨g, rfl, hBg, hc, hf, hput⟩ := hm1.at_ (i := i) (by rw [markedS_len _ _ _ (Nat.le_of_lt HX.out)]; exact HX.out)
      have HP := Lib.hid hput
      have HB1 : Hid (Below B w w1) := HB.out.trans (hb1.mono hsz)
      clear hput hm1 hb1 hx
      go_wp2_with fail
      go_roundw
      case rel =>
        refine ⟨i + 1, by have := HQ.out; subst this; go_num, by go_num, by omega, ?_, HB1.out.setCell hBg _, by simp [World.setCell]; omega⟩
        have := HP.out (.string (markT q))
        rw [HQ.out, markedS_set xs k i HX.out] at this
        rw [HQ.out]; exact this
      case measure => simp [intOf]; omega
    · obtain rfl : i = n := by omega
      have hm' : Mine wr B 9 A (strB (marksFrom k i)) := by have := HM.out; rw [← hl.out, markedS_all, hl.out] at this; exact this
      have HM' := Lib.hid hm'
      clear hm'
      go_wp2_with fail
      go_ret
      exact ⟨rfl, HM'.out, HB.out⟩

set_option maxHeartbeats 1000000 in
theorem heldStringS (A : Option Addr) (n c k : Nat) (w : World) (h : Row w w.heap.size A (strB (marksFrom k n))) (hn : (n : Int) ≤ 100000000) (hk0 : 0 < k) (hk1 : (k : Int) ≤ 100000000) :
    Calls Tryd.prog 43 #[.slice A n c, .int .i64 (k : Int)] w fun e w' => e = .returned (.int .i64 ((k + n : Nat) : Int)) ∧ Below w.heap.size w w' := by
  go_enter Tryd.func43, Tryd.ntmps43
  go_wp2_with fail
  go_loopw [1, 5] (fun v u wr => ∃ i : Nat, v = .int .i64 ((k + i : Nat) : Int) ∧ u = .int .i64 (i : Int) ∧ i ≤ n ∧ Below w.heap.size w wr) (fun _ u _ => n - (intOf u).toNat)
  case atStart => exact ⟨0, by simp, rfl, Nat.zero_le _, Below.refl _ _⟩
  case round =>
    obtain ⟨i, rfl, rfl, hi, hbw⟩ := hrel
    have HB := Lib.hid hbw; clear hbw
    by_cases hlt : i < n
    · obtain ⟨b, o, rfl, hb, hc⟩ := h.at_ (i := i) (by rw [strB_length, marksFrom_length]; exact hlt)
      have hki : ((k + i : Nat) : Int) ≤ 1000000000 := by omega
      have hc' : wr.cell? ⟨b, o + i, none⟩ = some (.string (markT (k + i))) := by
        rw [HB.out.cell (p := ⟨b, o + i, none⟩) hb, hc]; simp only [strB, List.getElem_map]; rw [marksFrom_get k n i hlt]
      have c1 : ∀ d os, Calls Tryd.prog 72 #[.int .i64 ((k + i : Nat) : Int)] (Go.Sort.grow (redrawn wr d) os) fun e w'' => e = .returned (.string (markT (k + i))) ∧ ∃ p : Regrown, w'' = Go.Sort.grow (redrawn wr p.d) p.os := fun d os => Calls.regrown_of (markText (k + i) _ (by omega) hki)
      have C1 := Lib.hid c1
      have g0 : ∀ d os, (Go.Sort.grow (redrawn wr d) os).cell? ⟨b, o + i, none⟩ = some (.string (markT (k + i))) := cell_regrown hc'
      obtain ⟨q, hq⟩ : ∃ q, q = k + i := ⟨_, rfl⟩
      rw [← hq] at C1 g0 hki ⊢
      have HQ := Lib.hid hq
      have h0 : (0 : Int) ≤ (i : Int) := by omega
      have h1 : (i : Int) < (n : Int) := by omega
      clear c1 hc hc' hq
      go_wp2_with fail
      refine wp_region_quiet_below (by kernel_rfl) (by kernel_rfl) ?_
      repeat (go_big_quiet_step (with_reducible exact C1.out _ _))
      refine wpQuiet_nil ?_
      intro w2 hw'
      have hb2 : Below wr.heap.size wr w2 := by obtain ⟨⟨dq, osq⟩, rfl⟩ := hw'; exact below_regrown _ _ _
      have HB2 : Hid (Below w.heap.size w w2) := HB.out.trans (hb2.mono HB.out.size)
      clear hw' hb2 g0
      go_wp2_with fail
      go_roundw
      case rel => exact ⟨i + 1, by have := HQ.out; subst this; go_num, by go_num, by omega, HB2.out⟩
      case measure => simp [intOf]; omega
    · obtain rfl : i = n := by omega
      go_wp2_with fail
      go_ret
      exact ⟨rfl, HB.out⟩
end Go.Proofs.YtfjmjlpobbjjdaaDoor
