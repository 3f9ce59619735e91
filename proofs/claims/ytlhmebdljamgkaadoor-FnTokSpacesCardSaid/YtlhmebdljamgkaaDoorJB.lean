/- Texts joined with a byte between; strings.Join. -/
import Derived.Test.YtlhmebdljamgkaaDoorSS
import Derived.Test.YtlhmebdljamgkaaDoorJ
import Derived.Test.YtlhmebdljamgkaaDoorShelf
namespace Go.Proofs.YtlhmebdljamgkaaDoor
open Go.RowKit Ilp
set_option linter.unusedVariables false

def dats (xs : List ByteArray) : List (List UInt8) := xs.map (·.data.toList)
theorem dats_lens (xs : List ByteArray) : Lib.lens (dats xs) = sizes xs := by
  unfold Lib.lens dats sizes; rw [List.map_map]; rfl
theorem dats_get {xs : List ByteArray} {k : Nat} (h : k < xs.length) : (dats xs)[k]? = some xs[k].data.toList := by simp [dats, h]
theorem dats_take (xs : List ByteArray) (k : Nat) : dats (xs.take k) = (dats xs).take k := by simp [dats, List.map_take]
/-- A list joined with a byte between, as a text. -/
def joinB (c : UInt8) (xs : List ByteArray) : ByteArray := ⟨(Lib.join (dats xs) [c]).toArray⟩
theorem joinB_data (c : UInt8) (xs : List ByteArray) : (joinB c xs).data.toList = Lib.join (dats xs) [c] := by simp [joinB]
theorem joinB_size (c : UInt8) (xs : List ByteArray) : (joinB c xs).size = (Lib.join (dats xs) [c]).length := by simp [joinB, ByteArray.size]
theorem joinB_le (c : UInt8) (xs : List ByteArray) (k : Nat) : (joinB c (xs.take k)).size ≤ sizes xs + xs.length := by
  rw [joinB_size, dats_take]
  have h := join_take_le [c] (dats xs) k
  rw [dats_lens] at h
  simpa [dats] using h
theorem joinB_all (c : UInt8) (xs : List ByteArray) : joinB c (xs.take xs.length) = joinB c xs := by rw [List.take_length]
theorem joinB_one (c : UInt8) {xs : List ByteArray} (h : 0 < xs.length) : joinB c (xs.take 1) = xs[0] := by
  apply ByteArray.ext; apply Array.ext'
  rw [joinB_data, dats_take, join_take_one [c] _ _ (dats_get h)]
theorem joinB_succ (c : UInt8) {xs : List ByteArray} {k : Nat} (h : k + 1 < xs.length) : joinB c (xs.take (k + 2)) = joinB c (xs.take (k + 1)) ++ ⟨#[c]⟩ ++ xs[k + 1] := by
  apply ByteArray.ext; apply Array.ext'
  simp only [ByteArray.data_append, Array.toList_append]
  rw [joinB_data, joinB_data, dats_take, dats_take, join_take_succ [c] _ _ _ (dats_get h)]

theorem stringsJoin (A : Option Addr) (c n : Nat) (b : UInt8) (xs : List ByteArray) (w : World) (hr : Row w w.heap.size A (strB xs)) (hl : Hid (xs.length = n)) (hc : n ≤ c) (hs : sizes xs + xs.length ≤ 1048576) :
    Calls Tryd.prog 42 #[.slice A n c, .string ⟨#[b]⟩] w fun e w' => e = .returned (.string (joinB b xs)) ∧ Below w.heap.size w w' := by
  obtain rfl := hl.out
  by_cases h0 : xs.length = 0
  · have e : xs = [] := List.eq_nil_of_length_eq_zero h0
    subst e
    refine (Tryd.strings_Join_none A c _ w).mono ?_
    rintro e w' ⟨rfl, rfl⟩
    exact ⟨rfl, Below.refl _ _⟩
  · obtain ⟨bk, o, rfl, hb, _⟩ := hr.at_ (i := 0) (by rw [strB_length]; omega)
    refine (Tryd.strings_Join bk o c xs ⟨#[b]⟩ w (fun j x hx => ?_) hb (by omega) hc ?_).mono fun e w' h => h
    · obtain ⟨b', o', e, _, h⟩ := hr j (.string x) (by simp [strB, hx])
      simp only [Option.some.injEq, Addr.mk.injEq] at e
      obtain ⟨rfl, rfl, _⟩ := e
      exact h
    · have h := join_len [b] (dats xs)
      rw [dats_lens] at h
      simp [dats] at h ⊢; omega
end Go.Proofs.YtlhmebdljamgkaaDoor
