/- Walks: what TextJoin of the reference and of the program returns. -/
import Derived.Test.YtdimljolinmofaaSS
import Derived.Test.YtdimljolinmofaaJ
import Derived.Test.YtdimljolinmofaaShelf
namespace Go.Proofs.Ytdimljolinmofaa
open Go.RowKit Ilp
set_option linter.unusedVariables false

def dats (xs : List ByteArray) : List (List UInt8) := xs.map (·.data.toList)
theorem dats_lens (xs : List ByteArray) : Lib.lens (dats xs) = sizes xs := by
  unfold Lib.lens dats sizes; rw [List.map_map]; rfl
theorem dats_get {xs : List ByteArray} {k : Nat} (h : k < xs.length) : (dats xs)[k]? = some xs[k].data.toList := by simp [dats, h]
theorem dats_take (xs : List ByteArray) (k : Nat) : dats (xs.take k) = (dats xs).take k := by simp [dats, List.map_take]
/-- A list joined with a byte between, as a text. -/
def joinB (c : UInt8) (xs : List ByteArray) : ByteArray := ⟨(Lib.join (dats xs) [c]).toArray⟩
theorem joinB_data (c : UInt8) (xs : List ByteArray) : (joinB c xs).data.toList = Lib.join (dats xs) [c] := by simp [joinB]
theorem joinB_size (c : UInt8) (xs : List ByteArray) : (joinB c xs).size = (Lib.join (dats xs) [c]).length := by simp [joinB, ByteArray.size]
theorem joinB_le (c : UInt8) (xs : List ByteArray) (k : Nat) : (joinB c (xs.take k)).size ≤ sizes xs + xs.length := by
  rw [joinB_size, dats_take]
  have h := join_take_le [c] (dats xs) k
  rw [dats_lens] at h
  simpa [dats] using h
theorem joinB_all (c : UInt8) (xs : List ByteArray) : joinB c (xs.take xs.length) = joinB c xs := by rw [List.take_length]
theorem joinB_one (c : UInt8) {xs : List ByteArray} (h : 0 < xs.length) : joinB c (xs.take 1) = xs[0] := by
  apply ByteArray.ext; apply Array.ext'
  rw [joinB_data, dats_take, join_take_one [c] _ _ (dats_get h)]
theorem joinB_succ (c : UInt8) {xs : List ByteArray} {k : Nat} (h : k + 1 < xs.length) : joinB c (xs.take (k + 2)) = joinB c (xs.take (k + 1)) ++ ⟨#[c]⟩ ++ xs[k + 1] := by
  apply ByteArray.ext; apply Array.ext'
  simp only [ByteArray.data_append, Array.toList_append]
  rw [joinB_data, joinB_data, dats_take, dats_take, join_take_succ [c] _ _ _ (dats_get h)]

set_option maxHeartbeats 2000000 in
theorem specTextJoin (A : Option Addr) (c n : Nat) (xs : List ByteArray) (w : World) (hr : Row w w.heap.size A (strB xs)) (hl : Hid (xs.length = n)) (hs : ((sizes xs + xs.length : Nat) : Int) ≤ 1048576) :
    Calls Try.prog 11 #[.slice A n c] w fun e w' => e = .returned (.string (joinB 10 xs)) ∧ w = w' := by
  have hn : (n : Int) ≤ 1048576 := by have := hl.out; omega
  have HLE := Lib.hid (joinB_le 10 xs)
  have HS := Lib.hid hs; clear hs
  go_enter Try.func11, Try.ntmps11
  go_wp2_with fail
  go_loop [3, 4] (fun v u => ∃ (k : Nat) (s : ByteArray), u = .int .i64 (k : Int) ∧ v = .string s ∧ k ≤ n ∧ Hid (s = joinB 10 (xs.take k))) (fun _ u => n - (intOf u).toNat)
  case atStart => exact ⟨0, _, rfl, rfl, Nat.zero_le _, rfl⟩
  case round =>
    obtain ⟨k, s, rfl, rfl, hk, hs⟩ := hrel
    have hle : (s.size : Int) ≤ 1048576 := by rw [hs.out]; have := HLE.out k; have := HS.out; omega
    by_cases hlt : k < n
    · have hx : k < xs.length := by rw [hl.out]; exact hlt
      obtain ⟨b, o, rfl, hbb, hc⟩ := hr.at_ (i := k) (by rw [strB_length]; exact hx)
      obtain ⟨x, ex⟩ : ∃ x, x = xs[k] := ⟨_, rfl⟩
      have hc1 : w.cell? ⟨b, o + k, none⟩ = some (.string x) := by rw [hc, ex]; simp [strB]
      clear hc
      by_cases h0 : k = 0
      · subst h0
        have hs' : s = ByteArray.empty := hs.out
        have H : Hid (x = joinB 10 (xs.take 1)) := by unfold Hid; rw [joinB_one 10 hx, ex]
        have hle2 : (x.size : Int) ≤ 1048576 := by rw [H.out]; have := HLE.out 1; have := HS.out; omega
        subst hs'
        clear ex
        simp only [Nat.add_zero] at hc1
        go_wp2_with fail
        go_round
        case rel => exact ⟨1, x, rfl, by simp, by omega, H⟩
        case measure => simp [intOf]; omega
      · obtain ⟨j, rfl⟩ : ∃ j, k = j + 1 := ⟨k - 1, by omega⟩
        have hsu := joinB_succ 10 hx
        rw [← hs.out, ← ex] at hsu
        have hle2 := HLE.out (j + 2)
        rw [hsu] at hle2
        have hle3 : ((s ++ ⟨#[10]⟩ ++ x).size : Int) ≤ 1048576 := by have := HS.out; omega
        rw [ByteArray.size_append, ByteArray.size_append] at hle3
        have hle4 : (s.size : Int) + 1 + (x.size : Int) ≤ 1048576 := by
          have : (ByteArray.mk #[10]).size = 1 := rfl
          omega
        have H := Lib.hid hsu
        have hk0 : (0 : Int) < ((j + 1 : Nat) : Int) := by omega
        clear hle3 hsu ex
        go_wp2_with fail
        go_round
        case rel => exact ⟨j + 2, _, by go_num, rfl, by omega, H.out.symm⟩
        case measure => simp [intOf]; omega
    · obtain rfl : k = n := by omega
      have H : Hid (s = joinB 10 xs) := by unfold Hid; rw [hs.out, ← hl.out, joinB_all]
      go_wp2_with fail
      go_ret
      exact ⟨by rw [H.out]; rfl, rfl⟩

theorem stringsJoin (A : Option Addr) (c n : Nat) (b : UInt8) (xs : List ByteArray) (w : World) (hr : Row w w.heap.size A (strB xs)) (hl : Hid (xs.length = n)) (hc : n ≤ c) (hs : sizes xs + xs.length ≤ 1048576) :
    Calls Try.prog 20 #[.slice A n c, .string ⟨#[b]⟩] w fun e w' => e = .returned (.string (joinB b xs)) ∧ Below w.heap.size w w' := by
  obtain rfl := hl.out
  by_cases h0 : xs.length = 0
  · have e : xs = [] := List.eq_nil_of_length_eq_zero h0
    subst e
    refine (Try.strings_Join_none A c _ w).mono ?_
    rintro e w' ⟨rfl, rfl⟩
    exact ⟨rfl, Below.refl _ _⟩
  · obtain ⟨bk, o, rfl, hb, _⟩ := hr.at_ (i := 0) (by rw [strB_length]; omega)
    refine (Try.strings_Join bk o c xs ⟨#[b]⟩ w (fun j x hx => ?_) hb (by omega) hc ?_).mono fun e w' h => h
    · obtain ⟨b', o', e, _, h⟩ := hr j (.string x) (by simp [strB, hx])
      simp only [Option.some.injEq, Addr.mk.injEq] at e
      obtain ⟨rfl, rfl, _⟩ := e
      exact h
    · have h := join_len [b] (dats xs)
      rw [dats_lens] at h
      simp [dats] at h ⊢; omega
set_option maxHeartbeats 1000000 in
theorem implTextJoin (A : Option Addr) (c n : Nat) (xs : List ByteArray) (w : World) (hr : Row w w.heap.size A (strB xs)) (hl : Hid (xs.length = n)) (hc : n ≤ c) (hs : Hid (sizes xs + xs.length ≤ 1048576)) :
    Calls Try.prog 13 #[.slice A n c] w fun e w' => e = .returned (.string (joinB 10 xs)) ∧ Below w.heap.size w w' := by
  go_enter Try.func13, Try.ntmps13
  go_wp2_with fail
  refine (stringsJoin A c n 10 xs w hr hl hc hs.out).mono ?_
  rintro e w1 ⟨rfl, hb⟩
  go_wp2_with fail
  go_ret
  exact ⟨rfl, hb⟩

set_option maxHeartbeats 2000000 in
theorem law_FnExactTextJoin (A : Option Addr) (n c : Nat) (z : List ByteArray) (w : World) (hz : IsStrs w A n c z) :
    Calls Try.prog 5 #[.slice A n c] w fun e w' => e = .returned (.bool true) ∧ Below w.heap.size w w' := by
  obtain ⟨hr, hl, hnc, hn, hc, hw⟩ := hz.row
  generalize z.take n = xs at hr hl hw
  clear hz
  have HW := Lib.hid hw
  have HL := Lib.hid hl
  clear hl hw
  go_enter Try.func5, Try.ntmps5
  go_wp2_with fail
  refine (szStringS A c n 1048576 xs w hr HL (by omega) HW.out (by omega) (by omega)).mono ?_
  rintro e w1 ⟨r, rfl, hr1, rfl⟩
  by_cases hneg : r < 0
  · clear hr1
    go_wp2_with fail
    go_ret
    exact ⟨rfl, Below.refl _ _⟩
  · have hb : ((xs.length + sizes xs : Nat) : Int) ≤ 1048576 := by omega
    have HB := Lib.hid hb
    have hn' : (n : Int) ≤ 1048576 := by have := HL.out; omega
    clear hr1 hb
    go_wp2_with fail
    refine (toStringS A c n xs w hr HL hn').mono ?_
    rintro e w1 ⟨rfl, hk1, hb1⟩
    have hs1 := hb1.size
    go_wp2_with fail
    refine (specTextJoin _ _ n xs w1 hk1.row HL (by have := HB.out; omega)).mono ?_
    rintro e w2 ⟨rfl, rfl⟩
    have hr1 := hr.below hb1
    have hr1' := hr1.more hs1
    go_wp2_with fail
    refine (toStringS A c n xs w1 hr1' HL hn').mono ?_
    rintro e w2 ⟨rfl, hk2, hb2⟩
    have hs2 := hb2.size
    go_wp2_with fail
    refine (implTextJoin _ _ n xs w2 hk2.row HL (Nat.le_refl _) (by have := HB.out; unfold Hid; omega)).mono ?_
    rintro e w3 ⟨rfl, hb3⟩
    have hs3 := hb3.size
    have hk3 := hk2.below hb3 hk2.lt
    have hr3' := ((hr1'.below hb2).more hs2).below hb3
    have hr3 := hr3'.more hs3
    go_wp2_with fail
    refine (toStringS A c n xs w3 hr3 HL hn').mono ?_
    rintro e w4 ⟨rfl, hk4, hb4⟩
    have hs4 := hb4.size
    have hk5 := hk3.below hb4 hk3.lt
    go_wp2_with fail
    refine (eqStringS_same _ _ _ _ n xs w4 hk5.row hk4.row HL (by omega)).mono ?_
    rintro e w5 ⟨rfl, hb5⟩
    go_wp2_with fail
    go_ret
    refine ⟨rfl, ?_⟩
    exact hb1.trans ((hb2.mono (by omega)).trans ((hb3.mono (by omega)).trans ((hb4.mono (by omega)).trans (hb5.mono (by omega)))))
end Go.Proofs.Ytdimljolinmofaa
