/- LA: the texts SS La Lb in one. -/
import Derived.Test.YtfjmjlpobbjjdaaDoorGA
import Derived.Laws.MakeOwn
import Derived.Deep.QuietTactic
import Derived.BigQuiet
import Derived.Outline
import Derived.RangeFuncNested
import Derived.RangeFuncBound
import Derived.RangeFuncCalls
import Derived.RangeFuncLeaves
import Derived.RangeFuncBox
import Derived.Shelf.Abstract
import Derived.Shelf.RegionOpen
import Derived.WalkKit
import Derived.OwnWalkIn
import Derived.TacticsInMore
import Derived.LoopNIn
import Derived.LoopIn
import Derived.Test.YtfjmjlpobbjjdaaDoorNA

namespace Go.Proofs.YtfjmjlpobbjjdaaDoor
open Go.RowKit
set_option linter.unusedVariables false

def strB (xs : List ByteArray) : List Value := xs.map .string
theorem strB_length (xs : List ByteArray) : (strB xs).length = xs.length := by simp [strB]
theorem strB_get {xs : List ByteArray} {i : Nat} (h : i < xs.length) : (strB xs)[i]? = some (.string xs[i]) := by simp [strB, h]
def sizes (xs : List ByteArray) : Nat := (xs.map (·.size)).sum
theorem sizes_take {xs : List ByteArray} {k : Nat} (h : k < xs.length) : sizes (xs.take (k + 1)) = sizes (xs.take k) + xs[k].size := by
  unfold sizes; rw [List.take_succ_eq_append_getElem h, List.map_append, List.sum_append]; simp only [List.map_cons, List.map_nil, List.sum_cons, List.sum_nil]; omega
theorem sizes_all (xs : List ByteArray) : sizes (xs.take xs.length) = sizes xs := by rw [List.take_length]

/-- A slice of strings that came in. -/
def IsStrs (w : World) (a : Option Addr) (len cap : Nat) (ss : List ByteArray) : Prop :=
  (a = none ∧ len = 0 ∧ cap = 0 ∧ ss = []) ∨
  ∃ x, a = some x ∧ len ≤ cap ∧ cap ≤ maxLen ∧ ss.length = cap ∧ (∀ i, i < ss.length → w.cell? (x.add i) = some (.string (ss.getD i ByteArray.empty))) ∧ ∀ s ∈ ss, s.size ≤ maxLen

theorem IsStrs.row {w : World} {a : Option Addr} {len cap : Nat} {zs : List ByteArray} (h : IsStrs w a len cap zs) :
    Row w w.heap.size a (strB (zs.take len)) ∧ (zs.take len).length = len ∧ len ≤ cap ∧ (len : Int) ≤ 9223372036854775807 ∧ (cap : Int) ≤ 9223372036854775807 ∧ (∀ s ∈ zs.take len, (s.size : Int) ≤ 9223372036854775807) := by
  rcases h with ⟨rfl, rfl, rfl, rfl⟩ | ⟨x, rfl, hl, hm, hz, hc, hw⟩
  · refine ⟨by simpa [strB] using Row.nil w w.heap.size none, by simp, by omega, by omega, by omega, by simp⟩
  · unfold maxLen at hm hw
    refine ⟨fun i v hv => ?_, by simp; omega, hl, by omega, by omega, fun n hn => by have := hw n (List.mem_of_mem_take hn); omega⟩
    have hi : i < len ∧ i < zs.length := by
      have := (List.getElem?_eq_some_iff.1 hv).1
      simp [strB] at this; omega
    have h1 := hc i hi.2
    obtain ⟨b, o, s⟩ := x
    have hs : s = none := by
      simpa [Addr.add] using World.cell?_spot (hc 0 (by omega))
    subst hs
    have e : (Addr.mk b o none).add i = ⟨b, o + i, none⟩ := by unfold Addr.add; split <;> simp_all
    rw [e] at h1
    refine ⟨b, o, rfl, cell_lt h1, ?_⟩
    rw [h1, ← hv]
    simp [strB, hi.1, List.getD_eq_getElem?_getD, List.getElem?_eq_getElem hi.2]

theorem isStrs_below {w w' : World} {a : Option Addr} {len cap : Nat} {zs : List ByteArray} (h : IsStrs w a len cap zs) (hb : Below w.heap.size w w') : IsStrs w' a len cap zs := by
  rcases h with h | ⟨x, hx, hl, hm, hz, hc, hw⟩
  · exact .inl h
  · exact .inr ⟨x, hx, hl, hm, hz, fun i hi => by rw [hb.cell (cell_lt (hc i hi))]; exact hc i hi, hw⟩

theorem strInfo : (Tryd.prog.info? 9).map (fun i => (i.zero, i.size, i.bytes)) = some (some (.string ByteArray.empty), 1, 16) := by kernel_rfl

theorem made_strs (n : Nat) : madeCells (Value.cells (.string ByteArray.empty)) n = (strB (List.replicate n ByteArray.empty)).toArray := by
  apply Array.ext
  · simp [size_madeCells, strB]
  · intro i h1 h2
    simp [madeCells, Value.cells, strB, Nat.mod_one]

theorem makeStrs (n : Nat) (hn : (n : Int) ≤ 1048576) (w : World) :
    (Instr.makeSlice 26 (.int .i64 (n : Int)) (.int .i64 (n : Int))).run Tryd.prog w = .ok (.slice (some ⟨w.heap.size, 0, none⟩) n n) (w.alloc (.cells (strB (List.replicate n ByteArray.empty)).toArray 9)) := by
  obtain ⟨i0, hi, hz0, hz1, hz2⟩ := info_parts strInfo
  have h := run_make (P := Tryd.prog) w 26 9 i0 (.string ByteArray.empty) Tryd.underlying26 hi hz0 .i64 .i64 (n : Int) (n : Int) (by omega) (by omega) (by rw [hz2]; omega) (by omega)
  rw [hz1, Int.toNat_natCast, Nat.mul_one, made_strs] at h
  exact h

def fillS (xs : List ByteArray) (k : Nat) : List Value := strB (xs.take k ++ List.replicate (xs.length - k) ByteArray.empty)
theorem fillS_zero (xs : List ByteArray) : fillS xs 0 = strB (List.replicate xs.length ByteArray.empty) := by simp [fillS]
theorem fillS_all (xs : List ByteArray) : fillS xs xs.length = strB xs := by simp [fillS]
theorem fillS_len (xs : List ByteArray) (k : Nat) (h : k ≤ xs.length) : (fillS xs k).length = xs.length := by simp [fillS, strB]; omega
theorem fillS_set (xs : List ByteArray) (k : Nat) (h : k < xs.length) : (fillS xs k).set k (.string xs[k]) = fillS xs (k + 1) := by
  apply List.ext_getElem
  · simp [fillS, strB]; omega
  · intro i h1 h2
    simp only [fillS, strB, List.getElem_set, List.getElem_map, List.getElem_append, List.length_take, List.getElem_take, List.getElem_replicate]
    by_cases hk : k = i
    · subst hk; rw [if_pos rfl, dif_pos (by omega)]
    · rw [if_neg hk]
      by_cases hi : i < k
      · rw [dif_pos (by omega), dif_pos (by omega)]
      · rw [dif_neg (by omega), dif_neg (by omega)]

set_option maxHeartbeats 1000000 in
theorem toStringS (A : Option Addr) (c n : Nat) (xs : List ByteArray) (w : World) (hr : Row w w.heap.size A (strB xs)) (hl : Hid (xs.length = n)) (hn : (n : Int) ≤ 1048576) :
    Calls Tryd.prog 21 #[.slice A n c] w fun e w' => e = .returned (.slice (some ⟨w.heap.size, 0, none⟩) n n) ∧ Blk w' w.heap.size 9 (strB xs) ∧ Below w.heap.size w w' := by
  have hmk := makeStrs n hn w
  go_enter Tryd.func21, Tryd.ntmps21
  go_wp2
  clear hmk
  go_loopw [4] (fun v wr => ∃ k : Nat, v = .int .i64 (k : Int) ∧ k ≤ n ∧ Blk wr w.heap.size 9 (fillS xs k) ∧ Below w.heap.size w wr) (fun v _ => n - (intOf v).toNat)
  case atStart =>
    refine ⟨0, rfl, Nat.zero_le _, ?_, (Below.refl _ _).alloc (Nat.le_refl _) _⟩
    rw [fillS_zero, hl.out]; exact Blk.alloc_ _ _ _
  case round =>
    obtain ⟨k, rfl, hk, hb, hbw⟩ := hrel
    by_cases hlt : k < n
    · have hx : k < xs.length := by rw [hl.out]; exact hlt
      obtain ⟨b, o, rfl, hbb, hc⟩ := hr.at_ (i := k) (by rw [strB_length]; exact hx)
      have hc1 : wr.cell? ⟨b, o + k, none⟩ = some (.string xs[k]) := by rw [hbw.cell hbb, hc]; simp [strB]
      have hc2 : wr.cell? ⟨w.heap.size, k, none⟩ = some ((fillS xs k)[k]'(by rw [fillS_len _ _ (by omega)]; exact hx)) := by
        rw [hb.cell]; exact List.getElem?_eq_getElem _
      have hf := hb.frozen k
      have HX := Lib.hid hx
      clear hc
      go_wp2
      go_roundw
      case rel =>
        refine ⟨k + 1, by go_num, by omega, ?_, hbw.setCell (Nat.le_refl _) _⟩
        exact (fillS_set xs k hx) ▸ hb.put k (.string xs[k])
      case measure => simp [intOf]; omega
    · obtain rfl : k = n := by omega
      have hb' : Blk wr w.heap.size 9 (strB xs) := by have := hb; rw [← hl.out, fillS_all] at this; exact this
      clear hb
      go_wp2
      go_ret
      exact ⟨rfl, hb', hbw⟩

/-- What szStringS returns. -/
def Szd (xs : List ByteArray) (left : Int) (w : World) (e : Ending) (w' : World) : Prop := ∃ r : Int, e = .returned (.int .i64 r) ∧ (r < 0 ∨ (0 ≤ r ∧ r ≤ left ∧ ((xs.length + sizes xs : Nat) : Int) ≤ left)) ∧ w = w'
set_option maxHeartbeats 1000000 in
theorem szStringS (A : Option Addr) (c n : Nat) (left : Int) (xs : List ByteArray) (w : World) (hr : Row w w.heap.size A (strB xs)) (hl : Hid (xs.length = n)) (hn : (n : Int) ≤ 9223372036854775807) (hs : ∀ s ∈ xs, (s.size : Int) ≤ 9223372036854775807) (h0 : 0 ≤ left) (h1 : left ≤ 1048576) :
    Calls Tryd.prog 19 #[.slice A n c, .int .i64 left] w (Szd xs left w) := by
  by_cases hneg : left - (n : Int) < 0
  · have R : Szd xs left w (.returned (.int .i64 (-1))) w := ⟨_, rfl, .inl (by omega), rfl⟩
    have HR := Lib.hid R; clear R
    go_enter Tryd.func19, Tryd.ntmps19
    go_wp2_with fail
    go_ret
    exact HR.out
  · have HS := Lib.hid hs; clear hs
    go_enter Tryd.func19, Tryd.ntmps19
    go_wp2_with fail
    go_loop [1, 5] (fun v u => ∃ (k : Nat) (r : Int), u = .int .i64 (k : Int) ∧ v = .int .i64 r ∧ k ≤ n ∧ 0 ≤ r ∧ r ≤ left ∧ Hid (r = left - n - (sizes (xs.take k) : Int))) (fun _ u => n - (intOf u).toNat)
    case atStart => exact ⟨0, left - n, rfl, rfl, Nat.zero_le _, by omega, by omega, by unfold Hid; simp [sizes]⟩
    case round =>
      obtain ⟨k, r, rfl, rfl, hk, hr0, hr1, hr2⟩ := hrel
      by_cases hlt : k < n
      · have hx : k < xs.length := by rw [hl.out]; exact hlt
        obtain ⟨b, o, rfl, hbb, hc⟩ := hr.at_ (i := k) (by rw [strB_length]; exact hx)
        obtain ⟨x, ex⟩ : ∃ x, x = xs[k] := ⟨_, rfl⟩
        have hc1 : w.cell? ⟨b, o + k, none⟩ = some (.string x) := by rw [hc, ex]; simp [strB]
        have hxs := HS.out x (by rw [ex]; exact List.getElem_mem hx)
        have hst : Hid (sizes (xs.take (k + 1)) = sizes (xs.take k) + x.size) := by unfold Hid; rw [sizes_take hx, ex]
        clear hc ex
        by_cases hneg2 : r - (x.size : Int) < 0
        · have R : Szd xs left w (.returned (.int .i64 (-1))) w := ⟨_, rfl, .inl (by omega), rfl⟩
          have HR := Lib.hid R; clear R
          go_wp2_with fail
          go_ret
          exact HR.out
        · go_wp2_with fail
          go_round
          case rel => exact ⟨k + 1, r - x.size, by go_num, rfl, by omega, by omega, by omega, by have h1 := hr2.out; have h2 := hst.out; unfold Hid; omega⟩
          case measure => simp [intOf]; omega
      · obtain rfl : k = n := by omega
        have R : Szd xs left w (.returned (.int .i64 r)) w := ⟨r, rfl, .inr ⟨hr0, hr1, by have h1 := hr2.out; rw [← hl.out, sizes_all] at h1; omega⟩, rfl⟩
        have HR := Lib.hid R; clear R
        go_wp2_with fail
        go_ret
        exact HR.out

set_option maxHeartbeats 1000000 in
theorem eqStringS_same (A A' : Option Addr) (c c' n : Nat) (xs : List ByteArray) (w : World) (hr : Row w w.heap.size A (strB xs)) (hr' : Row w w.heap.size A' (strB xs)) (hl : Hid (xs.length = n)) (hn : (n : Int) ≤ 140737488355328) :
    Calls Tryd.prog 24 #[.slice A n c, .slice A' n c'] w fun e w' => e = .returned (.bool true) ∧ Below w.heap.size w w' := by
  have hnn : ((n : Int) != n) = false := by simp
  go_enter Tryd.func24, Tryd.ntmps24
  go_wp2
  go_loopw [5] (fun v wr => ∃ k : Nat, v = .int .i64 (k : Int) ∧ k ≤ n ∧ Below w.heap.size w wr) (fun v _ => n - (intOf v).toNat)
  case atStart => exact ⟨0, rfl, Nat.zero_le _, Below.refl _ _⟩
  case round =>
    obtain ⟨k, rfl, hk, hbw⟩ := hrel
    by_cases hlt : k < n
    · have hx : k < xs.length := by rw [hl.out]; exact hlt
      obtain ⟨b, o, rfl, hbb, hc⟩ := hr.at_ (i := k) (by rw [strB_length]; exact hx)
      obtain ⟨b', o', rfl, hbb', hc'⟩ := hr'.at_ (i := k) (by rw [strB_length]; exact hx)
      obtain ⟨x, ex⟩ : ∃ x, x = xs[k] := ⟨_, rfl⟩
      have hc1 : wr.cell? ⟨b, o + k, none⟩ = some (.string x) := by rw [hbw.cell hbb, hc, ex]; simp [strB]
      have hc2 : wr.cell? ⟨b', o' + k, none⟩ = some (.string x) := by rw [hbw.cell hbb', hc', ex]; simp [strB]
      have h0 : (0 : Int) ≤ (k : Int) := by omega
      have h1 : (k : Int) < (n : Int) := by omega
      clear hc hc' ex
      go_wp2
      go_quiet (fail)
      go_wp2
      go_roundw
      case rel => exact ⟨k + 1, by go_num, by omega, drewN_below hbw _⟩
      case measure => simp [intOf]; omega
    · obtain rfl : k = n := by omega
      go_wp2
      go_ret
      exact ⟨rfl, hbw⟩
end Go.Proofs.YtfjmjlpobbjjdaaDoor

namespace Ilp
theorem lastAt_none {names : List (List UInt8)} {s : List UInt8} (h : ∀ x ∈ names, x ≠ s) : lastAt names s = none := by
  unfold lastAt
  have : names.reverse.findIdx? (· == s) = none := by
    rw [List.findIdx?_eq_none_iff]; intro x hx; simpa using h x (by simpa using hx)
  rw [this]
theorem lastAt_some {names : List (List UInt8)} {s : List UInt8} {k : Nat} (hk : k < names.length) (h1 : names[k] = s) (h2 : ∀ j (h : j < names.length), k < j → names[j] ≠ s) : lastAt names s = some k := by
  unfold lastAt
  have : names.reverse.findIdx? (· == s) = some (names.length - 1 - k) := by
    rw [List.findIdx?_eq_some_iff_getElem]
    refine ⟨by simp; omega, ?_, fun j hj => ?_⟩
    · rw [List.getElem_reverse]
      have : names.length - 1 - (names.length - 1 - k) = k := by omega
      simp only [this, beq_iff_eq]; exact h1
    · rw [List.getElem_reverse]
      have := h2 (names.length - 1 - j) (by omega) (by omega)
      simpa using this
  rw [this]
  simp; omega
end Ilp
namespace Go.Proofs.YtfjmjlpobbjjdaaDoor
open Go.RowKit Go.Shelf Ilp
set_option linter.unusedVariables false
attribute [local go_sem] Oper.semAt_some

def lstL (zs : List ByteArray) : List (List UInt8) := zs.map (·.data.toList)
def lastI (zs : List ByteArray) (s : ByteArray) : Int := match lastAt (lstL zs) s.data.toList with
  | none => -1
  | some i => (i : Int)
theorem lastI_none {zs : List ByteArray} {s : ByteArray} (h : ∀ j (h : j < zs.length), zs[j] ≠ s) : lastI zs s = -1 := by
  unfold lastI
  rw [lastAt_none]
  intro x hx e
  unfold lstL at hx
  obtain ⟨z, hz, rfl⟩ := List.mem_map.1 hx
  obtain ⟨j, hj, rfl⟩ := List.getElem_of_mem hz
  exact h j hj (by apply ByteArray.ext; apply Array.ext'; exact e)
theorem lastI_some {zs : List ByteArray} {s : ByteArray} {k : Nat} (hk : k < zs.length) (h1 : zs[k] = s) (h2 : ∀ j (h : j < zs.length), k < j → zs[j] ≠ s) : lastI zs s = (k : Int) := by
  unfold lastI
  rw [lastAt_some (k := k) (by unfold lstL; simpa using hk) (by unfold lstL; simp [h1])]
  intro j hj hkj e
  unfold lstL at hj e
  simp only [List.getElem_map, List.length_map] at hj e
  exact h2 j hj hkj (by apply ByteArray.ext; apply Array.ext'; exact e)

set_option maxRecDepth 20000 in
theorem specFind (A : Option Addr) (n c : Nat) (zs : List ByteArray) (s : ByteArray) (w : World) (hr : Row w w.heap.size A (strB zs)) (hl : Hid (zs.length = n)) (hn : (n : Int) ≤ 1048576) :
    Calls Tryd.prog 76 #[.slice A n c, .string s] w fun e w' => e = .returned (.int .i64 (lastI zs s)) ∧ w = w' := by
  go_enter Tryd.func76, Tryd.ntmps76
  go_wp2_with fail
  go_loop [5] (fun v => ∃ m : Nat, v = .int .i64 ((m : Int) - 1) ∧ m ≤ n ∧ Hid (∀ j (h : j < zs.length), m ≤ j → zs[j] ≠ s)) (fun v => (intOf v + 1).toNat)
  case atStart => exact ⟨n, rfl, Nat.le_refl _, fun j h h2 => by have := hl.out; omega⟩
  case round =>
    obtain ⟨m, rfl, hm, hno⟩ := hrel
    cases m with
    | zero =>
      have H : Hid (lastI zs s = -1) := lastI_none fun j h => hno.out j h (Nat.zero_le _)
      rw [show ((0 : Nat) : Int) - 1 = -1 by omega]
      go_wp2_with fail
      go_ret
      exact ⟨by rw [H.out]; rfl, rfl⟩
    | succ m =>
      have hx : m < zs.length := by rw [hl.out]; omega
      obtain ⟨b, o, rfl, hbb, hc⟩ := hr.at_ (i := m) (by rw [strB_length]; exact hx)
      rw [show ((m + 1 : Nat) : Int) - 1 = (m : Int) by omega]
      obtain ⟨x, ex⟩ : ∃ x, x = zs[m] := ⟨_, rfl⟩
      have hc1 : w.cell? ⟨b, o + m, none⟩ = some (.string x) := by rw [hc, ex]; simp [strB]
      have h0 : (0 : Int) ≤ (m : Int) := by omega
      have h1 : (m : Int) < (n : Int) := by omega
      clear hc
      by_cases hxs : x = s
      · have H : Hid (lastI zs s = (m : Int)) := lastI_some hx (by rw [← ex]; exact hxs) fun j h h2 => hno.out j h (by omega)
        have hq : (x.toList == s.toList) = true := by rw [hxs]; simp
        clear ex hxs hx
        go_wp2_with fail
        go_ret
        exact ⟨by rw [H.out]; rfl, rfl⟩
      · have hno2 : Hid (∀ j (h : j < zs.length), m ≤ j → zs[j] ≠ s) := fun j h h2 => by
          by_cases e : j = m
          · subst e; rw [← ex]; exact hxs
          · exact hno.out j h (by omega)
        have hq : (x.toList == s.toList) = false := by
          rw [beq_eq_false_iff_ne]; intro e; apply hxs
          rw [ByteArray.toList_eq, ByteArray.toList_eq] at e; exact ByteArray.ext (Array.ext' e)
        clear ex hxs hx
        go_wp2_with fail
        go_round
        case rel => exact ⟨m, rfl, by omega, hno2⟩
        case measure => simp [intOf]

def uptoF {α : Type} (f : Nat → α) (k : Nat) : List α := (List.range k).map f
theorem uptoF_succ {α : Type} (f : Nat → α) (k : Nat) : uptoF f (k + 1) = uptoF f k ++ [f k] := by simp [uptoF, List.range_succ]
theorem uptoF_length {α : Type} (f : Nat → α) (k : Nat) : (uptoF f k).length = k := by simp [uptoF]
/-- What comes, from behind. -/
def backF (zs : List ByteArray) (n j : Nat) : Nat × ByteArray := (n - 1 - j, zs[n - 1 - j]?.getD ByteArray.empty)

set_option maxRecDepth 100000 in
set_option maxHeartbeats 2000000 in
theorem back1_in (F : Fence) (n : Nat) (hf : F.fn 113) (hro : F.round = none) (hn : 1 ≤ n) (l Bs n₀ len cap : Nat) (A : Option Addr) (zs : List ByteArray) (hlen : (len : Int) ≤ 1048576) (hzl : zs.length = len) (J Jx : List (Nat × ByteArray) → World → Prop)
    (hY : ∀ pre x W, J pre W → pre.length < len → YieldAt F (n - 1) Tryd.prog l #[.int .i64 (x.1 : Int), .string x.2] W fun e W' =>
      (e = .returned (.bool true) ∧ J (pre ++ [x]) W' ∧ Below n₀ W W') ∨ (e = .returned (.bool false) ∧ Jx (pre ++ [x]) W'))
    (W : World) (hBs : ∀ W', Below n₀ W W' → W'.cell? ⟨Bs, 0, none⟩ = some (.slice A len cap)) (hc : Row W n₀ A (strB zs)) (h0 : J [] W) :
    CallsIn F n Tryd.prog 113 #[.func (.yield l) #[] #[], .pointer (some ⟨Bs, 0, none⟩)] W fun e W' => (∃ v, e = .returned v) ∧
      ((∃ ys, ys = uptoF (backF zs len) len ∧ J ys W') ∨ (∃ pre, (∃ k, k ≤ len ∧ pre = uptoF (backF zs len) k) ∧ Jx pre W')) := by
  refine callsIn_of_wp Tryd.func113 rfl hf ?_ hro
  simp only [Tryd.ntmps113, List.size_toArray, List.length_cons, List.length_nil, Nat.reduceAdd, Nat.reduceSub, Array.replicate_succ, Array.replicate_zero, List.push_toArray, List.append_toArray, List.nil_append, List.cons_append]
  have hB0 := hBs W (Below.refl _ _)
  gi_wp2
  gi_loopw [3] (fun i wr => ∃ m : Nat, m ≤ len ∧ i = .int .i64 ((m : Int) - 1) ∧ J (uptoF (backF zs len) (len - m)) wr ∧ Below n₀ W wr)
    (fun i _ => (intOf i + 1).toNat)
  case atStart => exact ⟨len, Nat.le_refl _, rfl, by rw [Nat.sub_self]; exact h0, Below.refl _ _⟩
  case round =>
    obtain ⟨m, hm, rfl, hJs, hnx⟩ := hrel
    have hBw := hBs wr hnx
    cases m with
    | zero =>
      rw [show ((0 : Nat) : Int) - 1 = -1 by omega]
      gi_wp2
      go_end0
      exact ⟨⟨_, rfl⟩, .inl ⟨_, rfl, by simpa using hJs⟩⟩
    | succ m =>
      rw [show ((m + 1 : Nat) : Int) - 1 = (m : Int) by omega]
      have hx : m < zs.length := by omega
      obtain ⟨b, o, rfl, hbb, hcm⟩ := hc.at_ (i := m) (by rw [strB_length]; exact hx)
      have hcx : wr.cell? ⟨b, o + m, none⟩ = some (.string (zs[m]?.getD ByteArray.empty)) := by
        rw [hnx.cell (p := ⟨b, o + m, none⟩) hbb, hcm, List.getElem?_eq_getElem hx]; simp [strB]
      have hb : backF zs len (len - (m + 1)) = (m, zs[m]?.getD ByteArray.empty) := by unfold backF; rw [show len - 1 - (len - (m + 1)) = m by omega]
      obtain ⟨fn, tmps, assign, body, hy, hR⟩ := hY _ (m, zs[m]?.getD ByteArray.empty) wr hJs (by rw [uptoF_length]; omega)
      dsimp only at hy
      have h0m : (0 : Int) ≤ (m : Int) := by omega
      have h1m : (m : Int) < (len : Int) := by omega
      have hup : uptoF (backF zs len) (len - m) = uptoF (backF zs len) (len - (m + 1)) ++ [(m, zs[m]?.getD ByteArray.empty)] := by
        rw [show len - m = (len - (m + 1)) + 1 by omega, uptoF_succ, hb]
      gi_wp2
      refine hR.mono ?_
      rintro e W3 (⟨rfl, hJ3, hk3⟩ | ⟨rfl, hJx3⟩)
      · gi_wp2
        go_roundw
        case rel => exact ⟨m, by omega, rfl, by rw [hup]; exact hJ3, hnx.trans hk3⟩
        case measure => simp [intOf]
      · gi_wp2
        refine bodyPost_ret (results_none rfl _ _ _) rfl ?_
        exact ⟨⟨_, rfl⟩, .inr ⟨_, ⟨len - m, by omega, hup.symm⟩, hJx3⟩⟩

set_option maxHeartbeats 1000000 in
theorem back_in (F : Fence) (n : Nat) (hf : F.fn 100) (hro : F.round = none) (a : Option Addr) (len cap : Nat) (w : World) :
    CallsIn F n Tryd.prog 100 #[.slice a len cap] w fun e w' => e = .returned (.func (.func 113) #[] #[.pointer (some ⟨w.heap.size, 0, none⟩)]) ∧ w' = w.alloc (.cells #[.slice a len cap] 26) := by
  refine callsIn_of_wp Tryd.func100 rfl hf ?_ hro
  simp only [Tryd.ntmps100, List.size_toArray, List.length_cons, List.length_nil, Nat.reduceAdd, Nat.reduceSub, Array.replicate_succ, Array.replicate_zero, List.push_toArray, List.append_toArray, List.nil_append, List.cons_append]
  gi_wp2
  go_ret
  exact ⟨rfl, rfl⟩
theorem back_stops (F : Fence) (n : Nat) (hf : F.fn 113) (hro : F.round = none) (hn : 1 ≤ n) (Bs n₀ len cap : Nat) (A : Option Addr) (zs : List ByteArray) (hlen : (len : Int) ≤ 1048576) (hzl : zs.length = len) (w : World) (hBs : Bs < w.heap.size) (hBn : n₀ ≤ Bs) (hbx : ∀ W, Below w.heap.size w W → True)
    (hc : w.cell? ⟨Bs, 0, none⟩ = some (.slice A len cap)) (hI : Row w n₀ A (strB zs)) :
    SeqStopsK F n Tryd.prog 113 #[.pointer (some ⟨Bs, 0, none⟩)] (fun x : Nat × ByteArray => #[Value.int .i64 (x.1 : Int), Value.string x.2]) (Below (Bs + 1)) (fun ys => ys = uptoF (backF zs len) len)
      (fun pre => ∃ k, k ≤ len ∧ pre = uptoF (backF zs len) k) len w := fun l J Jx W hW _ _ hY h0 => by
  refine back1_in F n hf hro hn l Bs (Bs + 1) len cap A zs hlen hzl J Jx hY W (fun W' h => ?_) ?_ h0
  · rw [h.cell (p := ⟨Bs, 0, none⟩) (Nat.lt_succ_self _), hW.cell (p := ⟨Bs, 0, none⟩) hBs]; exact hc
  · exact (hI.below (hW.mono (by omega))).more (by omega)
end Go.Proofs.YtfjmjlpobbjjdaaDoor

namespace Go.Proofs.YtfjmjlpobbjjdaaDoor
open Go.RowKit Go.Shelf Ilp
set_option linter.unusedVariables false
attribute [local go_sem] Oper.semAt_some

theorem lastI_upto_none {zs : List ByteArray} {s : ByteArray} {len : Nat} (hl : zs.length = len) (h : ∀ p ∈ uptoF (backF zs len) len, p.2 ≠ s) : lastI zs s = -1 := by
  apply lastI_none
  intro j hj e
  refine h (backF zs len (len - 1 - j)) ?_ ?_
  · simp only [uptoF, List.mem_map, List.mem_range]; exact ⟨len - 1 - j, by omega, rfl⟩
  · unfold backF
    have : len - 1 - (len - 1 - j) = j := by omega
    simp only [this, List.getElem?_eq_getElem hj, Option.getD_some]; exact e
theorem lastI_upto_some {zs : List ByteArray} {s : ByteArray} {len k : Nat} (hl : zs.length = len) (hk : k < len) (h1 : (backF zs len k).2 = s) (h : ∀ p ∈ uptoF (backF zs len) k, p.2 ≠ s) : lastI zs s = ((backF zs len k).1 : Int) := by
  have hx : len - 1 - k < zs.length := by omega
  refine lastI_some (k := len - 1 - k) hx ?_ ?_
  · unfold backF at h1; simpa [List.getElem?_eq_getElem hx] using h1
  · intro j hj hkj e
    refine h (backF zs len (len - 1 - j)) ?_ ?_
    · simp only [uptoF, List.mem_map, List.mem_range]; exact ⟨len - 1 - j, by omega, rfl⟩
    · unfold backF
      have : len - 1 - (len - 1 - j) = j := by omega
      simp only [this, List.getElem?_eq_getElem hj, Option.getD_some]; exact e

set_option maxRecDepth 100000 in
set_option maxHeartbeats 4000000 in
theorem last_in (F : Fence) (n : Nat) (hfl : F.fn 74) (hfb : F.fn 100) (hf1 : F.fn 113) (hro : F.round = none) (hn : 3 ≤ n)
    (A : Option Addr) (len cap : Nat) (zs : List ByteArray) (s : ByteArray) (w : World) (hr : Row w w.heap.size A (strB zs)) (hzl : zs.length = len) (hlen : (len : Int) ≤ 1048576) :
    CallsIn F n Tryd.prog 74 #[.slice A len cap, .string s] w fun e W' => e = .returned (.int .i64 (lastI zs s)) ∧ Below w.heap.size w W' := by
  have h1 : 1 ≤ n := by omega
  refine callsIn_of_wp_marks Tryd.func74 rfl hfl ?_ hro
  simp only [Tryd.ntmps74, List.size_toArray, List.length_cons, List.length_nil, Nat.reduceAdd, Nat.reduceSub, Array.replicate_succ, Array.replicate_zero, List.push_toArray, List.append_toArray, List.nil_append, List.cons_append]
  gi_wp2_with (gi_at_call 100; refine (back_in F (n - 1) hfb hro _ _ _ _).mono ?_; rintro e w' ⟨rfl, rfl⟩)
  have c0 := Boxed.new w 9 (.string s)
  have c1 := Boxed.new (w.alloc (.cells #[.string s] 9)) 3 (.int .i64 0)
  have c2 := Boxed.new ((w.alloc (.cells #[.string s] 9)).alloc (.cells #[.int .i64 0] 3)) 26 (.slice A len cap)
  simp only [World.size_alloc] at c1 c2
  have hB0 : Below w.heap.size w (((w.alloc (.cells #[.string s] 9)).alloc (.cells #[.int .i64 0] 3)).alloc (.cells #[.slice A len cap] 26)) := (((Below.refl _ w).alloc (Nat.le_refl _) _).alloc (by simp) _).alloc (by simp; omega) _
  refine wpIn_rangeFunc_ownF hro h1 (gf := 113) (lb := #[.pointer (some ⟨w.heap.size + 1 + 1, 0, none⟩)]) rfl hf1 (enters_of Tryd.func113 (by kernel_rfl) rfl)
    (back_stops F (n - 1) hf1 hro (by omega) (w.heap.size + 1 + 1) w.heap.size len cap A zs hlen hzl _ (by simp) (by omega) (fun _ _ => trivial) c2.cell (hr.below hB0)) belowK_t (belowK_b (by simp)) (Below.refl _ _) (fun _ => rfl)
    (fun pre W => ((∀ y ∈ pre, y.2 ≠ s) ∧ W.cell? ⟨w.heap.size, 0, none⟩ = some (.string s) ∧ W.cell? ⟨w.heap.size + 1, 0, none⟩ = some (.int .i64 0) ∧ W.frozen? ⟨w.heap.size + 1, 0, none⟩ = false) ∧ Below w.heap.size w W)
    (fun c pre W => (c = .ret ∧ ∃ ini lst, pre = ini ++ [lst] ∧ (∀ p ∈ ini, p.2 ≠ s) ∧ lst.2 = s ∧ W.cell? ⟨w.heap.size + 1, 0, none⟩ = some (.int .i64 (lst.1 : Int))) ∧ Below w.heap.size w W)
    (OwnFrom.and (Own.from (fun s A B row hs hg hr => ⟨hs.1, cell_kept hs.2.1 hg hr, cell_kept hs.2.2.1 hg hr, (frozen_kept hs.2.2.1 hg hr).trans hs.2.2.2⟩) _) (ownFrom_below (Nat.le_refl _) (by simp; omega)))
    (fun c => OwnFrom.and (Own.from (fun s A B row hs hg hr => by obtain ⟨hc, ini, lst, e1, e2, e3, e4⟩ := hs; exact ⟨hc, ini, lst, e1, e2, e3, cell_kept e4 hg hr⟩) _) (ownFrom_below (Nat.le_refl _) (by simp; omega)))
    ⟨⟨by simp, ((c0.alloc _).alloc _).cell, (c1.alloc _).cell, (c1.alloc _).frozen⟩, hB0⟩
    (fun x => { tmps := #[.slice A len cap, .string s, undef, .pointer (some ⟨w.heap.size, 0, none⟩), .pointer (some ⟨w.heap.size + 1, 0, none⟩), .int .i64 (x.1 : Int), .string x.2, .slice A len cap, .func (.func 113) #[] #[.pointer (some ⟨w.heap.size + 1 + 1, 0, none⟩)], .int .i64 (x.1 : Int), .string x.2, undef, undef, undef, undef], defers := [] }) ?assign ?body ?done ?stop
  case assign =>
    intro l x W K hK
    gi_wp2
    exact hK
  case body =>
    rintro l pre x W ⟨⟨hp, hcw, hcr, hfr⟩, hB⟩ _
    by_cases hxs : x.2 = s
    · have hq : (x.2.toList == s.toList) = true := by rw [hxs]; simp
      gi_wp2
      exact ⟨KeepsOthers.setCell _ _ _, ⟨rfl, pre, x, rfl, hp, hxs, World.cell?_setCell_same' _ _ _ (by rw [hcr]; rfl)⟩, hB.setCell (p := ⟨w.heap.size + 1, 0, none⟩) (by simp) _⟩
    · have hq : (x.2.toList == s.toList) = false := by
        rw [beq_eq_false_iff_ne]; intro e; apply hxs
        rw [ByteArray.toList_eq, ByteArray.toList_eq] at e; exact ByteArray.ext (Array.ext' e)
      gi_wp2
      exact ⟨KeepsOthers.refl _, Below.refl _ _, ⟨fun y hy => (List.mem_append.1 hy).elim (hp y) (fun e e' => by simp at e; subst e; exact hxs e'), hcw, hcr, hfr⟩, hB⟩
  case done =>
    rintro D ys W hD rfl ⟨⟨hne, _, hcr, hfr⟩, hB⟩ hK
    have HL := lastI_upto_none hzl hne
    gi_wp2
    have hK' := (KeepsOthers.setCell W ⟨w.heap.size + 1, 0, none⟩ (.int .i64 (-1))).same D _ hK rfl
    refine ⟨by simp, .inl ⟨_, _, rfl, run_takeDeferred hK', ?_⟩⟩
    have hc5 := cell_kept (World.cell?_setCell_same' W ⟨w.heap.size + 1, 0, none⟩ (.int .i64 (-1)) (by rw [hcr]; rfl)) (grownBy_putObj' _ D (.deferred none)) (fun r e => by cases e; exact ⟨_, hK', rfl⟩)
    refine ⟨.int .i64 (-1), ?_, by rw [HL], (hB.setCell (p := ⟨w.heap.size + 1, 0, none⟩) (by simp) _).trans (belowK_b (w := w) (Nat.le_refl _) _ D _ _ (by simp at hD; omega) hK' rfl rfl)⟩
    simp [results, Tryd.f74, go_sem, hc5]
  case stop =>
    rintro D c pre W hD ⟨k, hk, rfl⟩ ⟨⟨rfl, ini, lst, e1, e2, e3, hcr⟩, hB⟩ hK
    obtain ⟨k', rfl⟩ : ∃ k', k = k' + 1 := by
      cases k with
      | zero => simp [uptoF] at e1
      | succ k' => exact ⟨k', rfl⟩
    rw [uptoF_succ] at e1
    obtain ⟨rfl, e5⟩ := List.append_inj' e1 rfl
    obtain rfl : backF zs len k' = lst := by simpa using e5
    have HL := lastI_upto_some hzl (by omega) e3 e2
    gi_wp2
    refine ⟨by simp, .inl ⟨_, _, rfl, run_takeDeferred hK, ?_⟩⟩
    have hc5 := cell_kept hcr (grownBy_putObj' _ D (.deferred none)) (fun r e => by cases e; exact ⟨_, hK, rfl⟩)
    refine ⟨.int .i64 ((backF zs len k').1 : Int), ?_, by first | rfl | rw [HL], hB.trans (belowK_b (w := w) (Nat.le_refl _) W D _ _ (by simp at hD; omega) hK rfl rfl)⟩
    simp [results, Tryd.f74, go_sem, hc5]

theorem implLast (A : Option Addr) (len cap : Nat) (zs : List ByteArray) (s : ByteArray) (w : World) (hr : Row w w.heap.size A (strB zs)) (hzl : zs.length = len) (hlen : (len : Int) ≤ 1048576) :
    Calls Tryd.prog 74 #[.slice A len cap, .string s] w fun e W' => e = .returned (.int .i64 (lastI zs s)) ∧ Below w.heap.size w W' :=
  callsIn_wide.1 (last_in Fence.wide 3 trivial trivial trivial rfl (Nat.le_refl _) A len cap zs s w hr hzl hlen)
end Go.Proofs.YtfjmjlpobbjjdaaDoor
