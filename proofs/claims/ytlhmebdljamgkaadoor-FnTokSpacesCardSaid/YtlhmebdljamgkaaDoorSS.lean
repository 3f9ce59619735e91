/- Walks over slices of strings: szStringS, toStringS, eqStringS. -/
import Derived.Test.YtlhmebdljamgkaaDoorGround
import Derived.Laws.MakeOwn
import Derived.Deep.QuietTactic
import Derived.BigQuiet
import Derived.Outline
namespace Go.Proofs.YtlhmebdljamgkaaDoor
open Go.RowKit
set_option linter.unusedVariables false

def strB (xs : List ByteArray) : List Value := xs.map .string
theorem strB_length (xs : List ByteArray) : (strB xs).length = xs.length := by simp [strB]
theorem strB_get {xs : List ByteArray} {i : Nat} (h : i < xs.length) : (strB xs)[i]? = some (.string xs[i]) := by simp [strB, h]
def sizes (xs : List ByteArray) : Nat := (xs.map (·.size)).sum
theorem sizes_take {xs : List ByteArray} {k : Nat} (h : k < xs.length) : sizes (xs.take (k + 1)) = sizes (xs.take k) + xs[k].size := by
  unfold sizes; rw [List.take_succ_eq_append_getElem h, List.map_append, List.sum_append]; simp only [List.map_cons, List.map_nil, List.sum_cons, List.sum_nil]; omega
theorem sizes_all (xs : List ByteArray) : sizes (xs.take xs.length) = sizes xs := by rw [List.take_length]

/-- A slice of strings that came in. -/
def IsStrs (w : World) (a : Option Addr) (len cap : Nat) (ss : List ByteArray) : Prop :=
  (a = none ∧ len = 0 ∧ cap = 0 ∧ ss = []) ∨
  ∃ x, a = some x ∧ len ≤ cap ∧ cap ≤ maxLen ∧ ss.length = cap ∧ (∀ i, i < ss.length → w.cell? (x.add i) = some (.string (ss.getD i ByteArray.empty))) ∧ ∀ s ∈ ss, s.size ≤ maxLen

theorem IsStrs.row {w : World} {a : Option Addr} {len cap : Nat} {zs : List ByteArray} (h : IsStrs w a len cap zs) :
    Row w w.heap.size a (strB (zs.take len)) ∧ (zs.take len).length = len ∧ len ≤ cap ∧ (len : Int) ≤ 9223372036854775807 ∧ (cap : Int) ≤ 9223372036854775807 ∧ (∀ s ∈ zs.take len, (s.size : Int) ≤ 9223372036854775807) := by
  rcases h with ⟨rfl, rfl, rfl, rfl⟩ | ⟨x, rfl, hl, hm, hz, hc, hw⟩
  · refine ⟨by simpa [strB] using Row.nil w w.heap.size none, by simp, by omega, by omega, by omega, by simp⟩
  · unfold maxLen at hm hw
    refine ⟨fun i v hv => ?_, by simp; omega, hl, by omega, by omega, fun n hn => by have := hw n (List.mem_of_mem_take hn); omega⟩
    have hi : i < len ∧ i < zs.length := by
      have := (List.getElem?_eq_some_iff.1 hv).1
      simp [strB] at this; omega
    have h1 := hc i hi.2
    obtain ⟨b, o, s⟩ := x
    have hs : s = none := by
      simpa [Addr.add] using World.cell?_spot (hc 0 (by omega))
    subst hs
    have e : (Addr.mk b o none).add i = ⟨b, o + i, none⟩ := by unfold Addr.add; split <;> simp_all
    rw [e] at h1
    refine ⟨b, o, rfl, cell_lt h1, ?_⟩
    rw [h1, ← hv]
    simp [strB, hi.1, List.getD_eq_getElem?_getD, List.getElem?_eq_getElem hi.2]

theorem isStrs_below {w w' : World} {a : Option Addr} {len cap : Nat} {zs : List ByteArray} (h : IsStrs w a len cap zs) (hb : Below w.heap.size w w') : IsStrs w' a len cap zs := by
  rcases h with h | ⟨x, hx, hl, hm, hz, hc, hw⟩
  · exact .inl h
  · exact .inr ⟨x, hx, hl, hm, hz, fun i hi => by rw [hb.cell (cell_lt (hc i hi))]; exact hc i hi, hw⟩

theorem strInfo : (Tryd.prog.info? 9).map (fun i => (i.zero, i.size, i.bytes)) = some (some (.string ByteArray.empty), 1, 16) := by kernel_rfl

theorem made_strs (n : Nat) : madeCells (Value.cells (.string ByteArray.empty)) n = (strB (List.replicate n ByteArray.empty)).toArray := by
  apply Array.ext
  · simp [size_madeCells, strB]
  · intro i h1 h2
    simp [madeCells, Value.cells, strB, Nat.mod_one]

theorem makeStrs (n : Nat) (hn : (n : Int) ≤ 1048576) (w : World) :
    (Instr.makeSlice 30 (.int .i64 (n : Int)) (.int .i64 (n : Int))).run Tryd.prog w = .ok (.slice (some ⟨w.heap.size, 0, none⟩) n n) (w.alloc (.cells (strB (List.replicate n ByteArray.empty)).toArray 9)) := by
  obtain ⟨i0, hi, hz0, hz1, hz2⟩ := info_parts strInfo
  have h := run_make (P := Tryd.prog) w 30 9 i0 (.string ByteArray.empty) Tryd.underlying30 hi hz0 .i64 .i64 (n : Int) (n : Int) (by omega) (by omega) (by rw [hz2]; omega) (by omega)
  rw [hz1, Int.toNat_natCast, Nat.mul_one, made_strs] at h
  exact h

def fillS (xs : List ByteArray) (k : Nat) : List Value := strB (xs.take k ++ List.replicate (xs.length - k) ByteArray.empty)
theorem fillS_zero (xs : List ByteArray) : fillS xs 0 = strB (List.replicate xs.length ByteArray.empty) := by simp [fillS]
theorem fillS_all (xs : List ByteArray) : fillS xs xs.length = strB xs := by simp [fillS]
theorem fillS_len (xs : List ByteArray) (k : Nat) (h : k ≤ xs.length) : (fillS xs k).length = xs.length := by simp [fillS, strB]; omega
theorem fillS_set (xs : List ByteArray) (k : Nat) (h : k < xs.length) : (fillS xs k).set k (.string xs[k]) = fillS xs (k + 1) := by
  apply List.ext_getElem
  · simp [fillS, strB]; omega
  · intro i h1 h2
    simp only [fillS, strB, List.getElem_set, List.getElem_map, List.getElem_append, List.length_take, List.getElem_take, List.getElem_replicate]
    by_cases hk : k = i
    · subst hk; rw [if_pos rfl, dif_pos (by omega)]
    · rw [if_neg hk]
      by_cases hi : i < k
      · rw [dif_pos (by omega), dif_pos (by omega)]
      · rw [dif_neg (by omega), dif_neg (by omega)]



end Go.Proofs.YtlhmebdljamgkaaDoor
