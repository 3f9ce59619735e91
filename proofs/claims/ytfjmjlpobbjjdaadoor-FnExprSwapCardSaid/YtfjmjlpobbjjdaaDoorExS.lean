/- Walks over what is reckoned: szExpr, toExpr, eqExpr. -/
import Derived.Test.YtfjmjlpobbjjdaaDoorEx
namespace Ilp
mutual
/-- How many parts and bytes there are beneath. -/
def wgt : Ex → Nat
  | .mk _ _ s ks => s.length + wgts ks
def wgts : List Ex → Nat
  | [] => 0
  | x :: xs => 1 + wgt x + wgts xs
end
theorem wgt_eq (t : Ex) : wgt t = t.txt.length + wgts t.kids := by cases t; simp [wgt, Ex.txt, Ex.kids]
theorem wgts_app : ∀ (a b : List Ex), wgts (a ++ b) = wgts a + wgts b
  | [], b => by simp [wgts]
  | x :: a, b => by rw [List.cons_append, wgts, wgts, wgts_app a b]; omega
theorem wgts_take {xs : List Ex} {k : Nat} (h : k < xs.length) : wgts (xs.take (k + 1)) = wgts (xs.take k) + 1 + wgt xs[k] := by
  rw [List.take_succ_eq_append_getElem h, wgts_app]; simp [wgts]; omega
theorem wgts_len : ∀ xs : List Ex, xs.length ≤ wgts xs
  | [] => Nat.le_refl _
  | x :: xs => by rw [wgts, List.length_cons]; have := wgts_len xs; omega
theorem wgts_mem : ∀ {xs : List Ex} {x : Ex}, x ∈ xs → wgt x ≤ wgts xs
  | [], x, h => by cases h
  | y :: xs, x, h => by
    rw [wgts]
    rcases List.mem_cons.1 h with rfl | h
    · omega
    · have := wgts_mem h; omega
end Ilp
namespace Go.Proofs.YtfjmjlpobbjjdaaDoor
open Go.RowKit Ilp
set_option linter.unusedVariables false

def SzR (n : Nat) (left : Int) (w : World) (e : Ending) (w' : World) : Prop := ∃ r : Int, e = .returned (.int .i64 r) ∧ (r < 0 ∨ (0 ≤ r ∧ r = left - (n : Int))) ∧ Below w.heap.size w w'
def QSz (d : Nat) : Prop := ∀ (t : Ex) (A : Option Addr) (cap : Nat) (left : Int) (w : World), Kids w (Low w) d A t.kids → t.kids.length ≤ maxLen → t.txt.length ≤ maxLen → 0 ≤ left → left ≤ 1048576 →
  Calls Tryd.prog 18 #[.agg #[.int .i64 t.kind, .int .i64 t.num, .string (mkB t.txt), .slice A t.kids.length cap], .int .i64 left] w (SzR (wgt t) left w)
def RSz (d : Nat) : Prop := ∀ (ks : List Ex) (A : Option Addr) (m cap : Nat) (left : Int) (w : World), Kids w (Low w) d A ks → Hid (ks.length = m) → m ≤ maxLen → 0 ≤ left → left ≤ 1048576 →
  Calls Tryd.prog 54 #[.slice A m cap, .int .i64 left] w (SzR (wgts ks) left w)

set_option maxHeartbeats 2000000 in
theorem szExprS_step (d : Nat) (ih : ∀ d', d = d' + 1 → QSz d') : RSz d := by
  intro ks A m cap left w hk hl hm h0 h1
  have hm' : (m : Int) ≤ 9223372036854775807 := by unfold maxLen at hm; omega
  clear hm
  by_cases hneg : left - (m : Int) < 0
  · have R : SzR (wgts ks) left w (.returned (.int .i64 (-1))) w := ⟨_, rfl, .inl (by omega), Below.refl _ _⟩
    have HR := Lib.hid R; clear R hk
    go_enter Tryd.func54, Tryd.ntmps54
    go_wp2_with fail
    go_ret
    exact HR.out
  · have HK := Lib.hid hk; clear hk
    have HIH := Lib.hid ih; clear ih
    go_enter Tryd.func54, Tryd.ntmps54
    go_wp2_with fail
    go_loopw [1, 5] (fun v u wr => ∃ (k : Nat) (r : Int), u = .int .i64 (k : Int) ∧ v = .int .i64 r ∧ k ≤ m ∧ 0 ≤ r ∧ r ≤ left ∧ Hid (r = left - m + k - (wgts (ks.take k) : Int)) ∧ Below w.heap.size w wr) (fun _ u _ => m - (intOf u).toNat)
    case atStart => exact ⟨0, left - m, rfl, rfl, Nat.zero_le _, by omega, by omega, by unfold Hid; simp [wgts], Below.refl _ _⟩
    case round =>
      obtain ⟨k, r, rfl, rfl, hk, hr0, hr1, hr2, hbw⟩ := hrel
      have HB := Lib.hid hbw; clear hbw
      by_cases hlt : k < m
      · have hx : k < ks.length := by rw [hl.out]; exact hlt
        obtain ⟨b, o, A', cap', d', rfl, hbb, rfl, c0, c1, c2, c3, g1, g2, g3, hkk⟩ := (HK.out.below HB.out).get hx
        have hst : Hid (wgts (ks.take (k + 1)) = wgts (ks.take k) + 1 + wgt ks[k]) := wgts_take hx
        have CZ := Lib.hid (HIH.out d' rfl ks[k] A' cap' r wr hkk (by omega) g3 hr0 (by omega))
        obtain ⟨x, ex⟩ : ∃ x, x = ks[k] := ⟨_, rfl⟩
        rw [← ex] at c0 c1 c2 c3 hst CZ
        clear hkk ex hx g1 g2 g3
        go_wp2_with fail
        refine CZ.out.mono ?_
        rintro e w1 ⟨r', rfl, hr3, hb1⟩
        have HB1 : Hid (Below w.heap.size w w1) := HB.out.trans (hb1.mono HB.out.size)
        clear hb1 c0 c1 c2 c3
        by_cases hneg2 : r' < 0
        · have R : SzR (wgts ks) left w (.returned (.int .i64 (-1))) w1 := ⟨_, rfl, .inl (by omega), HB1.out⟩
          have HR := Lib.hid R; clear R hr3
          go_wp2_with fail
          go_ret
          exact HR.out
        · have e1 : Hid (r' = r - (wgt x : Int)) := by unfold Hid; omega
          clear hr3
          go_wp2_with fail
          go_roundw
          case rel => exact ⟨k + 1, r', by go_num, rfl, by omega, by omega, by have := e1.out; omega, by have h1 := hr2.out; have h2 := hst.out; have h3 := e1.out; unfold Hid; omega, HB1.out⟩
          case measure => simp [intOf]; omega
      · obtain rfl : k = m := by omega
        have R : SzR (wgts ks) left w (.returned (.int .i64 r)) wr := ⟨r, rfl, .inr ⟨hr0, by have h1 := hr2.out; rw [← hl.out, List.take_length] at h1; omega⟩, HB.out⟩
        have HR := Lib.hid R; clear R
        go_wp2_with fail
        go_ret
        exact HR.out
set_option maxHeartbeats 1000000 in
theorem szExpr_step (d : Nat) (ih : RSz d) : QSz d := by
  intro t A cap left w hk hm hs h0 h1
  have hw := wgt_eq t
  have hsz := mkB_size t.txt
  unfold maxLen at hm hs
  have hs' : (((mkB t.txt).size : Nat) : Int) ≤ 9223372036854775807 := by omega
  by_cases hneg : left - ((mkB t.txt).size : Int) < 0
  · have R : SzR (wgt t) left w (.returned (.int .i64 (-1))) w := ⟨_, rfl, .inl (by omega), Below.refl _ _⟩
    have HR := Lib.hid R; clear R hk hw hsz
    generalize mkB t.txt = s at *
    generalize t.kids.length = m at *
    go_enter Tryd.func18, Tryd.ntmps18
    go_wp2_with fail
    go_ret
    obtain ⟨r, h1, h2, h3⟩ := HR.out
    exact ⟨r, h1, h2, by go_grown⟩
  · have C := fun W (h : Below w.heap.size w W) => ih t.kids A t.kids.length cap (left - ((mkB t.txt).size : Int)) W (hk.below h) rfl (by unfold maxLen; omega) (by omega) (by omega)
    have HC := Lib.hid C
    have HW : Hid ((wgt t : Int) = (mkB t.txt).size + wgts t.kids) := by unfold Hid; omega
    clear C hk hw hsz
    generalize mkB t.txt = s at *
    generalize t.kids.length = m at *
    go_enter Tryd.func18, Tryd.ntmps18
    go_wp2_with fail
    refine (HC.out _ (by go_grown)).mono ?_
    rintro e w1 ⟨r, rfl, hr, hb1⟩
    have HB1 : Hid (Below w.heap.size w w1) := Below.trans (by go_grown) (hb1.mono (by simp))
    clear hb1
    by_cases hneg2 : r < 0
    · have R : SzR (wgt t) left w (.returned (.int .i64 (-1))) w1 := ⟨_, rfl, .inl (by omega), HB1.out⟩
      have HR := Lib.hid R; clear R hr
      go_wp2_with fail
      go_ret
      exact HR.out
    · have R : SzR (wgt t) left w (.returned (.int .i64 r)) w1 := ⟨r, rfl, .inr ⟨by omega, by have := HW.out; omega⟩, HB1.out⟩
      have HR := Lib.hid R; clear R hr
      go_wp2_with fail
      go_ret
      exact HR.out
theorem szExpr_all (d : Nat) : QSz d ∧ RSz d := by
  induction d with
  | zero => exact ⟨szExpr_step 0 (szExprS_step 0 fun d' h => by omega), szExprS_step 0 fun d' h => by omega⟩
  | succ d ih =>
    have h : RSz (d + 1) := szExprS_step (d + 1) fun d' h => by
      obtain rfl : d' = d := by omega
      exact ih.1
    exact ⟨szExpr_step _ h, h⟩
end Go.Proofs.YtfjmjlpobbjjdaaDoor
