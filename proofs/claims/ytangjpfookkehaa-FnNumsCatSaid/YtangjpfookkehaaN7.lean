/- Walks: what NumsRead of the reference and of the program returns. -/
import Derived.Test.YtangjpfookkehaaN6
import Derived.Test.YtangjpfookkehaaMine
namespace Go.Proofs.Ytangjpfookkehaa
open Go.RowKit Ilp
set_option linter.unusedVariables false

/-- The numbers, in memory of the call's own, and true; or nothing and false. -/
def ReadOut (t : List UInt8) (w : World) (e : Ending) (w' : World) : Prop :=
  (readAll t = none ∧ e = .returned (.tuple #[.slice none 0 0, .bool false]) ∧ Below w.heap.size w w') ∨
  ∃ (A : Option Addr) (n c : Nat) (xs : List Int), readAll t = some xs ∧ xs.length = n ∧ e = .returned (.tuple #[.slice A n c, .bool true]) ∧ n ≤ c ∧ Mine w' w.heap.size 3 A (ints xs) ∧ Below w.heap.size w w' ∧ n ≤ t.length

set_option maxHeartbeats 2000000 in
theorem specReads (s : ByteArray) (w : World) (hs : (s.size : Int) ≤ 1048576) :
    Calls Try.prog 31 #[.string s] w (ReadOut s.data.toList w) := by
  obtain ⟨i0, hi, hz0, hz1, hz2⟩ := info_parts intInfo
  go_enter Try.func31, Try.ntmps31
  go_wp2_with fail
  go_loopw [4, 5] (fun v a wr => ∃ (xs : List Int) (p : Nat), a = .int .i64 (p : Int) ∧ p ≤ s.size ∧ xs.length ≤ p ∧ Hid (readTo s.data.toList xs p) ∧ wr.ownsRow w.heap.size 3 1 v xs.length (ints xs) ∧ Below w.heap.size w wr) (fun _ a _ => s.size - (intOf a).toNat)
  case atStart => exact ⟨[], 0, rfl, Nat.zero_le _, Nat.le_refl _, readTo_zero _, World.ownsRow_made w #[] 0 (Nat.le_refl _) (by unfold maxLen; omega) rfl, (Below.refl _ _).alloc (Nat.le_refl _) _⟩
  case round =>
    obtain ⟨xs, p, rfl, hp, hx, hrd, hown, hbw⟩ := hrel
    have HO := Lib.hid hown; clear hown
    have hsz := hbw.size
    by_cases hlt : (p : Int) < s.size
    · cases hr : rd (s.data.toList.drop p) with
      | none =>
        have R : ∀ wx, Below w.heap.size w wx → ReadOut s.data.toList w (.returned (.tuple #[.slice none 0 0, .bool false])) wx := fun wx hb => .inl ⟨readTo_bad hrd.out (by simp; omega) hr, rfl, hb⟩
        have HR := Lib.hid R
        have HV := Lib.hid (readV_none (readAt_none hr))
        clear R hr
        go_wp2_with fail
        refine (specRead s p wr (by omega)).mono ?_
        rintro e w1 ⟨rfl, hb1⟩
        rw [HV.out]
        go_wp2_with fail
        go_ret2
        exact HR.out _ (hbw.trans (hb1.mono hsz))
      | some q =>
        obtain ⟨n, l⟩ := q
        have hrs := rd_some hr
        have hl1 := hrs.2.2.1
        have hl2 : p + l ≤ s.size := by have := hrs.2.2.2; simp at this; omega
        have HV := Lib.hid (readV_some (readAt_some hr))
        have HT : Hid (readTo s.data.toList (xs ++ [n]) (p + l)) := readTo_step hrd.out hr
        have hb1 : -1000000 ≤ n ∧ n ≤ 1000000 := numOk_of hrs.1
        clear hr hrs
        go_wp2_with fail
        refine (specRead s p wr (by omega)).mono ?_
        rintro e w1 ⟨rfl, hb1'⟩
        rw [HV.out]
        have B1 := hbw.trans (hb1'.mono hsz)
        have hs1 := B1.size
        have hown1 := own_below HO.out hb1'
        go_wp2_with (at_builtin; refine wpList_append_own _ rfl _ _ 28 rfl w.heap.size 3 i0 (.int .i64 0) 1 8 Try.underlying28 hi hz0 hz1 hz2 rfl (by decide) _ _ _ rfl (hown1.alloc _) ⟨w1.heap.size, 0, none⟩ 1 1 [.int .i64 n] rfl rfl ?c1 ?c2 ?c3 ?c4 ?c5 ?_)
        case c1 =>
          intro j u hj
          match j, hj with
          | 0, hj => simp at hj; subst hj; simp [Addr.add]
        case c2 => intro u hu; simp at hu; subst hu; rfl
        case c3 => unfold maxLen; omega
        case c4 => omega
        case c5 => simp; omega
        intro v' w2 hown' hgrow _
        have hown2 : w2.ownsRow w.heap.size 3 1 v' (xs ++ [n]).length (ints (xs ++ [n])) := by simpa [ints] using hown'
        have B2 : Below w.heap.size w w2 := (B1.alloc (by omega) _).grown hgrow (by simp; omega) (fun k hk => (hown1.lt k (by first | exact hk | simpa using hk)).1)
        have HO2 := Lib.hid hown2
        clear hown' hown2 hown1
        go_wp2_with fail
        go_roundw
        case rel => exact ⟨xs ++ [n], p + l, by go_num, hl2, by simp; omega, HT, HO2.out, B2⟩
        case measure => simp [intOf]; omega
    · obtain ⟨A, c, rfl, hc, hm⟩ := Mine.of_own HO.out
      have hall := readTo_end hrd.out (by simp; omega)
      have R : ∀ c', xs.length ≤ c' → ReadOut s.data.toList w (.returned (.tuple #[.slice A xs.length c', .bool true])) wr := fun c' hc' => .inr ⟨A, xs.length, c', xs, hall, rfl, rfl, hc', hm, hbw, by simp; omega⟩
      have HR := Lib.hid R
      clear R hall hm
      go_wp2_with fail
      go_ret2
      exact HR.out _ hc

set_option maxHeartbeats 2000000 in
theorem implReads (s : ByteArray) (w : World) (hs : (s.size : Int) ≤ 1048576) :
    Calls Try.prog 28 #[.string s] w (ReadOut s.data.toList w) := by
  obtain ⟨i0, hi, hz0, hz1, hz2⟩ := info_parts intInfo
  go_enter Try.func28, Try.ntmps28
  go_wp2_with fail
  go_loopw [4, 5] (fun v a wr => ∃ (xs : List Int) (p : Nat), a = .int .i64 (p : Int) ∧ p ≤ s.size ∧ xs.length ≤ p ∧ Hid (readTo s.data.toList xs p) ∧ wr.ownsRow w.heap.size 3 1 v xs.length (ints xs) ∧ Below w.heap.size w wr) (fun _ a _ => s.size - (intOf a).toNat)
  case atStart => exact ⟨[], 0, rfl, Nat.zero_le _, Nat.le_refl _, readTo_zero _, World.ownsRow_nil _ _ _ _, Below.refl _ _⟩
  case round =>
    obtain ⟨xs, p, rfl, hp, hx, hrd, hown, hbw⟩ := hrel
    have HO := Lib.hid hown; clear hown
    have hsz := hbw.size
    by_cases hlt : (p : Int) < s.size
    · cases hr : rd (s.data.toList.drop p) with
      | none =>
        have R : ∀ wx, Below w.heap.size w wx → ReadOut s.data.toList w (.returned (.tuple #[.slice none 0 0, .bool false])) wx := fun wx hb => .inl ⟨readTo_bad hrd.out (by simp; omega) hr, rfl, hb⟩
        have HR := Lib.hid R
        have HV := Lib.hid (readV_none (readAt_none hr))
        clear R hr
        go_wp2_with fail
        refine (implRead s p wr (by omega)).mono ?_
        rintro e w1 ⟨rfl, hb1⟩
        rw [HV.out]
        go_wp2_with fail
        go_ret2
        exact HR.out _ (hbw.trans (hb1.mono hsz))
      | some q =>
        obtain ⟨n, l⟩ := q
        have hrs := rd_some hr
        have hl1 := hrs.2.2.1
        have hl2 : p + l ≤ s.size := by have := hrs.2.2.2; simp at this; omega
        have HV := Lib.hid (readV_some (readAt_some hr))
        have HT : Hid (readTo s.data.toList (xs ++ [n]) (p + l)) := readTo_step hrd.out hr
        have hb1 : -1000000 ≤ n ∧ n ≤ 1000000 := numOk_of hrs.1
        clear hr hrs
        go_wp2_with fail
        refine (implRead s p wr (by omega)).mono ?_
        rintro e w1 ⟨rfl, hb1'⟩
        rw [HV.out]
        have B1 := hbw.trans (hb1'.mono hsz)
        have hs1 := B1.size
        have hown1 := own_below HO.out hb1'
        go_wp2_with (at_builtin; refine wpList_append_own _ rfl _ _ 28 rfl w.heap.size 3 i0 (.int .i64 0) 1 8 Try.underlying28 hi hz0 hz1 hz2 rfl (by decide) _ _ _ rfl (hown1.alloc _) ⟨w1.heap.size, 0, none⟩ 1 1 [.int .i64 n] rfl rfl ?c1 ?c2 ?c3 ?c4 ?c5 ?_)
        case c1 =>
          intro j u hj
          match j, hj with
          | 0, hj => simp at hj; subst hj; simp [Addr.add]
        case c2 => intro u hu; simp at hu; subst hu; rfl
        case c3 => unfold maxLen; omega
        case c4 => omega
        case c5 => simp; omega
        intro v' w2 hown' hgrow _
        have hown2 : w2.ownsRow w.heap.size 3 1 v' (xs ++ [n]).length (ints (xs ++ [n])) := by simpa [ints] using hown'
        have B2 : Below w.heap.size w w2 := (B1.alloc (by omega) _).grown hgrow (by simp; omega) (fun k hk => (hown1.lt k (by first | exact hk | simpa using hk)).1)
        have HO2 := Lib.hid hown2
        clear hown' hown2 hown1
        go_wp2_with fail
        go_roundw
        case rel => exact ⟨xs ++ [n], p + l, by go_num, hl2, by simp; omega, HT, HO2.out, B2⟩
        case measure => simp [intOf]; omega
    · obtain ⟨A, c, rfl, hc, hm⟩ := Mine.of_own HO.out
      have hall := readTo_end hrd.out (by simp; omega)
      have R : ∀ c', xs.length ≤ c' → ReadOut s.data.toList w (.returned (.tuple #[.slice A xs.length c', .bool true])) wr := fun c' hc' => .inr ⟨A, xs.length, c', xs, hall, rfl, rfl, hc', hm, hbw, by simp; omega⟩
      have HR := Lib.hid R
      clear R hall hm
      go_wp2_with fail
      refine (clipInts A xs.length c wr hc (by omega)).mono ?_
      rintro e w1 ⟨rfl, rfl⟩
      go_wp2_with fail
      go_ret2
      exact HR.out _ (Nat.le_refl _)
end Go.Proofs.Ytangjpfookkehaa
