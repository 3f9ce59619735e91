/- Walks: the last place of a name: l4Find; last, over slices.Backward. -/
import Derived.RangeFuncNested
import Derived.RangeFuncBound
import Derived.RangeFuncCalls
import Derived.RangeFuncLeaves
import Derived.RangeFuncBox
import Derived.Shelf.Abstract
import Derived.Shelf.RegionOpen
import Derived.WalkKit
import Derived.OwnWalkIn
import Derived.TacticsInMore
import Derived.LoopNIn
import Derived.LoopIn
import Derived.Test.YtfjmjlpobbjjdaaDoorNa
import Derived.Test.YtfjmjlpobbjjdaaDoorSS
namespace Ilp
theorem lastAt_none {names : List (List UInt8)} {s : List UInt8} (h : ∀ x ∈ names, x ≠ s) : lastAt names s = none := by
  unfold lastAt
  have : names.reverse.findIdx? (· == s) = none := by
    rw [List.findIdx?_eq_none_iff]; intro x hx; simpa using h x (by simpa using hx)
  rw [this]
theorem lastAt_some {names : List (List UInt8)} {s : List UInt8} {k : Nat} (hk : k < names.length) (h1 : names[k] = s) (h2 : ∀ j (h : j < names.length), k < j → names[j] ≠ s) : lastAt names s = some k := by
  unfold lastAt
  have : names.reverse.findIdx? (· == s) = some (names.length - 1 - k) := by
    rw [List.findIdx?_eq_some_iff_getElem]
    refine ⟨by simp; omega, ?_, fun j hj => ?_⟩
    · rw [List.getElem_reverse]
      have : names.length - 1 - (names.length - 1 - k) = k := by omega
      simp only [this, beq_iff_eq]; exact h1
    · rw [List.getElem_reverse]
      have := h2 (names.length - 1 - j) (by omega) (by omega)
      simpa using this
  rw [this]
  simp; omega
end Ilp
namespace Go.Proofs.YtfjmjlpobbjjdaaDoor
open Go.RowKit Go.Shelf Ilp
set_option linter.unusedVariables false
attribute [local go_sem] Oper.semAt_some

def lstL (zs : List ByteArray) : List (List UInt8) := zs.map (·.data.toList)
def lastI (zs : List ByteArray) (s : ByteArray) : Int := match lastAt (lstL zs) s.data.toList with
  | none => -1
  | some i => (i : Int)
theorem lastI_none {zs : List ByteArray} {s : ByteArray} (h : ∀ j (h : j < zs.length), zs[j] ≠ s) : lastI zs s = -1 := by
  unfold lastI
  rw [lastAt_none]
  intro x hx e
  unfold lstL at hx
  obtain ⟨z, hz, rfl⟩ := List.mem_map.1 hx
  obtain ⟨j, hj, rfl⟩ := List.getElem_of_mem hz
  exact h j hj (by apply ByteArray.ext; apply Array.ext'; exact e)
theorem lastI_some {zs : List ByteArray} {s : ByteArray} {k : Nat} (hk : k < zs.length) (h1 : zs[k] = s) (h2 : ∀ j (h : j < zs.length), k < j → zs[j] ≠ s) : lastI zs s = (k : Int) := by
  unfold lastI
  rw [lastAt_some (k := k) (by unfold lstL; simpa using hk) (by unfold lstL; simp [h1])]
  intro j hj hkj e
  unfold lstL at hj e
  simp only [List.getElem_map, List.length_map] at hj e
  exact h2 j hj hkj (by apply ByteArray.ext; apply Array.ext'; exact e)

set_option maxRecDepth 20000 in
theorem specFind (A : Option Addr) (n c : Nat) (zs : List ByteArray) (s : ByteArray) (w : World) (hr : Row w w.heap.size A (strB zs)) (hl : Hid (zs.length = n)) (hn : (n : Int) ≤ 1048576) :
    Calls Tryd.prog 76 #[.slice A n c, .string s] w fun e w' => e = .returned (.int .i64 (lastI zs s)) ∧ w = w' := by
  go_enter Tryd.func76, Tryd.ntmps76
  go_wp2_with fail
  go_loop [5] (fun v => ∃ m : Nat, v = .int .i64 ((m : Int) - 1) ∧ m ≤ n ∧ Hid (∀ j (h : j < zs.length), m ≤ j → zs[j] ≠ s)) (fun v => (intOf v + 1).toNat)
  case atStart => exact ⟨n, rfl, Nat.le_refl _, fun j h h2 => by have := hl.out; omega⟩
  case round =>
    obtain ⟨m, rfl, hm, hno⟩ := hrel
    cases m with
    | zero =>
      have H : Hid (lastI zs s = -1) := lastI_none fun j h => hno.out j h (Nat.zero_le _)
      rw [show ((0 : Nat) : Int) - 1 = -1 by omega]
      go_wp2_with fail
      go_ret
      exact ⟨by rw [H.out]; rfl, rfl⟩
    | succ m =>
      have hx : m < zs.length := by rw [hl.out]; omega
      obtain ⟨b, o, rfl, hbb, hc⟩ := hr.at_ (i := m) (by rw [strB_length]; exact hx)
      rw [show ((m + 1 : Nat) : Int) - 1 = (m : Int) by omega]
      obtain ⟨x, ex⟩ : ∃ x, x = zs[m] := ⟨_, rfl⟩
      have hc1 : w.cell? ⟨b, o + m, none⟩ = some (.string x) := by rw [hc, ex]; simp [strB]
      have h0 : (0 : Int) ≤ (m : Int) := by omega
      have h1 : (m : Int) < (n : Int) := by omega
      clear hc
      by_cases hxs : x = s
      · have H : Hid (lastI zs s = (m : Int)) := lastI_some hx (by rw [← ex]; exact hxs) fun j h h2 => hno.out j h (by omega)
        have hq : (x.toList == s.toList) = true := by rw [hxs]; simp
        clear ex hxs hx
        go_wp2_with fail
        go_ret
        exact ⟨by rw [H.out]; rfl, rfl⟩
      · have hno2 : Hid (∀ j (h : j < zs.length), m ≤ j → zs[j] ≠ s) := fun j h h2 => by
          by_cases e : j = m
          · subst e; rw [← ex]; exact hxs
          · exact hno.out j h (by omega)
        have hq : (x.toList == s.toList) = false := by
          rw [beq_eq_false_iff_ne]; intro e; apply hxs
          rw [ByteArray.toList_eq, ByteArray.toList_eq] at e; exact ByteArray.ext (Array.ext' e)
        clear ex hxs hx
        go_wp2_with fail
        go_round
        case rel => exact ⟨m, rfl, by omega, hno2⟩
        case measure => simp [intOf]

def uptoF {α : Type} (f : Nat → α) (k : Nat) : List α := (List.range k).map f
theorem uptoF_succ {α : Type} (f : Nat → α) (k : Nat) : uptoF f (k + 1) = uptoF f k ++ [f k] := by simp [uptoF, List.range_succ]
theorem uptoF_length {α : Type} (f : Nat → α) (k : Nat) : (uptoF f k).length = k := by simp [uptoF]
/-- What comes, from behind. -/
def backF (zs : List ByteArray) (n j : Nat) : Nat × ByteArray := (n - 1 - j, zs[n - 1 - j]?.getD ByteArray.empty)

set_option maxRecDepth 100000 in
set_option maxHeartbeats 2000000 in
theorem back1_in (F : Fence) (n : Nat) (hf : F.fn 113) (hro : F.round = none) (hn : 1 ≤ n) (l Bs n₀ len cap : Nat) (A : Option Addr) (zs : List ByteArray) (hlen : (len : Int) ≤ 1048576) (hzl : zs.length = len) (J Jx : List (Nat × ByteArray) → World → Prop)
    (hY : ∀ pre x W, J pre W → pre.length < len → YieldAt F (n - 1) Tryd.prog l #[.int .i64 (x.1 : Int), .string x.2] W fun e W' =>
      (e = .returned (.bool true) ∧ J (pre ++ [x]) W' ∧ Below n₀ W W') ∨ (e = .returned (.bool false) ∧ Jx (pre ++ [x]) W'))
    (W : World) (hBs : ∀ W', Below n₀ W W' → W'.cell? ⟨Bs, 0, none⟩ = some (.slice A len cap)) (hc : Row W n₀ A (strB zs)) (h0 : J [] W) :
    CallsIn F n Tryd.prog 113 #[.func (.yield l) #[] #[], .pointer (some ⟨Bs, 0, none⟩)] W fun e W' => (∃ v, e = .returned v) ∧
      ((∃ ys, ys = uptoF (backF zs len) len ∧ J ys W') ∨ (∃ pre, (∃ k, k ≤ len ∧ pre = uptoF (backF zs len) k) ∧ Jx pre W')) := by
  refine callsIn_of_wp Tryd.func113 rfl hf ?_ hro
  simp only [Tryd.ntmps113, List.size_toArray, List.length_cons, List.length_nil, Nat.reduceAdd, Nat.reduceSub, Array.replicate_succ, Array.replicate_zero, List.push_toArray, List.append_toArray, List.nil_append, List.cons_append]
  have hB0 := hBs W (Below.refl _ _)
  gi_wp2
  gi_loopw [3] (fun i wr => ∃ m : Nat, m ≤ len ∧ i = .int .i64 ((m : Int) - 1) ∧ J (uptoF (backF zs len) (len - m)) wr ∧ Below n₀ W wr)
    (fun i _ => (intOf i + 1).toNat)
  case atStart => exact ⟨len, Nat.le_refl _, rfl, by rw [Nat.sub_self]; exact h0, Below.refl _ _⟩
  case round =>
    obtain ⟨m, hm, rfl, hJs, hnx⟩ := hrel
    have hBw := hBs wr hnx
    cases m with
    | zero =>
      rw [show ((0 : Nat) : Int) - 1 = -1 by omega]
      gi_wp2
      go_end0
      exact ⟨⟨_, rfl⟩, .inl ⟨_, rfl, by simpa using hJs⟩⟩
    | succ m =>
      rw [show ((m + 1 : Nat) : Int) - 1 = (m : Int) by omega]
      have hx : m < zs.length := by omega
      obtain ⟨b, o, rfl, hbb, hcm⟩ := hc.at_ (i := m) (by rw [strB_length]; exact hx)
      have hcx : wr.cell? ⟨b, o + m, none⟩ = some (.string (zs[m]?.getD ByteArray.empty)) := by
        rw [hnx.cell (p := ⟨b, o + m, none⟩) hbb, hcm, List.getElem?_eq_getElem hx]; simp [strB]
      have hb : backF zs len (len - (m + 1)) = (m, zs[m]?.getD ByteArray.empty) := by unfold backF; rw [show len - 1 - (len - (m + 1)) = m by omega]
      obtain ⟨fn, tmps, assign, body, hy, hR⟩ := hY _ (m, zs[m]?.getD ByteArray.empty) wr hJs (by rw [uptoF_length]; omega)
      dsimp only at hy
      have h0m : (0 : Int) ≤ (m : Int) := by omega
      have h1m : (m : Int) < (len : Int) := by omega
      have hup : uptoF (backF zs len) (len - m) = uptoF (backF zs len) (len - (m + 1)) ++ [(m, zs[m]?.getD ByteArray.empty)] := by
        rw [show len - m = (len - (m + 1)) + 1 by omega, uptoF_succ, hb]
      gi_wp2
      refine hR.mono ?_
      rintro e W3 (⟨rfl, hJ3, hk3⟩ | ⟨rfl, hJx3⟩)
      · gi_wp2
        go_roundw
        case rel => exact ⟨m, by omega, rfl, by rw [hup]; exact hJ3, hnx.trans hk3⟩
        case measure => simp [intOf]
      · gi_wp2
        refine bodyPost_ret (results_none rfl _ _ _) rfl ?_
        exact ⟨⟨_, rfl⟩, .inr ⟨_, ⟨len - m, by omega, hup.symm⟩, hJx3⟩⟩

set_option maxHeartbeats 1000000 in
theorem back_in (F : Fence) (n : Nat) (hf : F.fn 100) (hro : F.round = none) (a : Option Addr) (len cap : Nat) (w : World) :
    CallsIn F n Tryd.prog 100 #[.slice a len cap] w fun e w' => e = .returned (.func (.func 113) #[] #[.pointer (some ⟨w.heap.size, 0, none⟩)]) ∧ w' = w.alloc (.cells #[.slice a len cap] 26) := by
  refine callsIn_of_wp Tryd.func100 rfl hf ?_ hro
  simp only [Tryd.ntmps100, List.size_toArray, List.length_cons, List.length_nil, Nat.reduceAdd, Nat.reduceSub, Array.replicate_succ, Array.replicate_zero, List.push_toArray, List.append_toArray, List.nil_append, List.cons_append]
  gi_wp2
  go_ret
  exact ⟨rfl, rfl⟩
theorem back_stops (F : Fence) (n : Nat) (hf : F.fn 113) (hro : F.round = none) (hn : 1 ≤ n) (Bs n₀ len cap : Nat) (A : Option Addr) (zs : List ByteArray) (hlen : (len : Int) ≤ 1048576) (hzl : zs.length = len) (w : World) (hBs : Bs < w.heap.size) (hBn : n₀ ≤ Bs) (hbx : ∀ W, Below w.heap.size w W → True)
    (hc : w.cell? ⟨Bs, 0, none⟩ = some (.slice A len cap)) (hI : Row w n₀ A (strB zs)) :
    SeqStopsK F n Tryd.prog 113 #[.pointer (some ⟨Bs, 0, none⟩)] (fun x : Nat × ByteArray => #[Value.int .i64 (x.1 : Int), Value.string x.2]) (Below (Bs + 1)) (fun ys => ys = uptoF (backF zs len) len)
      (fun pre => ∃ k, k ≤ len ∧ pre = uptoF (backF zs len) k) len w := fun l J Jx W hW _ _ hY h0 => by
  refine back1_in F n hf hro hn l Bs (Bs + 1) len cap A zs hlen hzl J Jx hY W (fun W' h => ?_) ?_ h0
  · rw [h.cell (p := ⟨Bs, 0, none⟩) (Nat.lt_succ_self _), hW.cell (p := ⟨Bs, 0, none⟩) hBs]; exact hc
  · exact (hI.below (hW.mono (by omega))).more (by omega)
end Go.Proofs.YtfjmjlpobbjjdaaDoor
