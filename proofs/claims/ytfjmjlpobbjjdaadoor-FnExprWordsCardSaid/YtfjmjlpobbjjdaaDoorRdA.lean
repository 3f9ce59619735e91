/- The program's reader of words: next, at. -/
import Derived.Test.YtfjmjlpobbjjdaaDoorSmA
namespace Go.Proofs.YtfjmjlpobbjjdaaDoor
open Go.RowKit Ilp
set_option linter.unusedVariables false
set_option linter.unusedSimpArgs false

/-- The reader in its block: the words that are left, lying in memory that stood before. -/
structure RdS (V : World) (R : Nat) (xs : List ByteArray) (bad : Bool) (dp : Int) (A : Option Addr) (m c : Nat) (W : World) : Prop where
  bk : Blk W R 82 [.slice A m c, .bool bad, .int .i64 dp]
  rw : Row V V.heap.size A (strB xs)
  ln : xs.length = m
  mc : m ≤ c
  cm : (c : Int) ≤ 9223372036854775807
  bv : Below V.heap.size V W
  vr : V.heap.size ≤ R
  sh : ∀ x ∈ xs, x.size ≤ 8
section
variable {V : World} {R : Nat} {xs : List ByteArray} {bad : Bool} {dp : Int} {A : Option Addr} {m c : Nat} {W W' : World}
theorem RdS.below (h : RdS V R xs bad dp A m c W) (hb : Below W.heap.size W W') : RdS V R xs bad dp A m c W' :=
  ⟨h.bk.below hb h.bk.lt, h.rw, h.ln, h.mc, h.cm, h.bv.trans (hb.mono h.bv.size), h.vr, h.sh⟩
theorem RdS.keep {Y : Nat} (h : RdS V R xs bad dp A m c W) (hk : Keep Y W W') (hY : V.heap.size ≤ Y) (hR : Y ≠ R) : RdS V R xs bad dp A m c W' :=
  ⟨hk.blk h.bk (fun e => hR e.symm), h.rw, h.ln, h.mc, h.cm, h.bv.trans (hk.below hY h.bv.size), h.vr, h.sh⟩
theorem RdS.cells (h : RdS V R xs bad dp A m c W) : W.cell? ⟨R, 0, none⟩ = some (.slice A m c) ∧ W.cell? ⟨R, 1, none⟩ = some (.bool bad) ∧ W.cell? ⟨R, 2, none⟩ = some (.int .i64 dp) ∧ (∀ j, W.frozen? ⟨R, j, none⟩ = false) :=
  ⟨h.bk.cell 0, h.bk.cell 1, h.bk.cell 2, fun j => h.bk.frozen j⟩
theorem RdS.setBad (h : RdS V R xs bad dp A m c W) (b : Bool) : RdS V R xs b dp A m c (W.setCell ⟨R, 1, none⟩ (.bool b)) :=
  ⟨h.bk.put 1 _, h.rw, h.ln, h.mc, h.cm, h.bv.setCell h.vr _, h.vr, h.sh⟩
theorem RdS.setDeep (h : RdS V R xs bad dp A m c W) (z : Int) : RdS V R xs bad z A m c (W.setCell ⟨R, 2, none⟩ (.int .i64 z)) :=
  ⟨h.bk.put 2 _, h.rw, h.ln, h.mc, h.cm, h.bv.setCell h.vr _, h.vr, h.sh⟩
theorem RdS.take {x : ByteArray} {ys : List ByteArray} (h : RdS V R (x :: ys) bad dp A m c W) : RdS V R ys bad dp (if c = 1 then A else A.map (·.add 1)) (m - 1) (c - 1) (W.setCell ⟨R, 0, none⟩ (.slice (if c = 1 then A else A.map (·.add 1)) (m - 1) (c - 1))) := by
  have hln := h.ln
  have hmc := h.mc
  have hcm := h.cm
  simp only [List.length_cons] at hln
  refine ⟨h.bk.put 0 _, ?_, by omega, by omega, by omega, h.bv.setCell h.vr _, h.vr, fun y hy => h.sh y (by simp [hy])⟩
  by_cases hc : c = 1
  · have : ys = [] := List.eq_nil_of_length_eq_zero (by omega)
    subst this; exact Row.nil _ _ _
  · rw [if_neg hc]
    intro i v hv
    obtain ⟨b, o, e, hb, hcell⟩ := h.rw (i + 1) v (by simpa [strB] using hv)
    refine ⟨b, o + 1, ?_, hb, by rw [← hcell]; congr 2; omega⟩
    rw [e]
    show some ((Addr.mk b o none).add 1) = _
    unfold Addr.add; rfl
end
/-- What next does. -/
def NextR (V : World) (R : Nat) (xs : List ByteArray) (bad : Bool) (dp : Int) (W : World) (e : Ending) (w' : World) : Prop :=
  ∃ (x : ByteArray) (xs' : List ByteArray) (bad' : Bool) (A' : Option Addr) (m' c' : Nat), e = .returned (.string x) ∧ RdS V R xs' bad' dp A' m' c' w' ∧ Keep R W w' ∧ x.size ≤ 8 ∧ w'.heap.size = W.heap.size ∧ xs'.length ≤ xs.length ∧ (xs ≠ [] → xs'.length + 1 = xs.length ∧ bad' = bad) ∧ (xs = [] → x.size = 0)
set_option maxHeartbeats 1000000 in
set_option maxRecDepth 20000 in
theorem rdNext (V : World) (R : Nat) (xs : List ByteArray) (bad : Bool) (dp : Int) (A : Option Addr) (m c : Nat) (W : World) (h : RdS V R xs bad dp A m c W) :
    Calls Tryd.prog 93 #[.pointer (some ⟨R, 0, none⟩)] W (NextR V R xs bad dp W) := by
  have HS := Lib.hid h
  obtain ⟨p0, p1, p2, pf⟩ := h.cells
  have f0 := pf 0
  have f1 := pf 1
  have hmc := h.mc
  have hcm := h.cm
  cases xs with
  | nil =>
    have hm : m = 0 := h.ln.symm
    subst hm
    have R1 : Hid (NextR V R [] bad dp W (.returned (.string ⟨#[]⟩)) (W.setCell ⟨R, 1, none⟩ (.bool true))) := ⟨_, [], true, A, 0, c, rfl, h.setBad true, (Keep.refl _ _).set 1 _, by decide, by simp [World.setCell], by simp, fun e => absurd rfl e, fun _ => rfl⟩
    clear h pf
    go_enter Tryd.func93, Tryd.ntmps93
    go_wp2_with fail
    go_ret
    exact R1.out
  | cons x ys =>
    have hln := h.ln
    simp only [List.length_cons] at hln
    have hm1 : (1 : Int) ≤ (m : Int) := by omega
    have hm2 : ¬ ((m : Int) = 0) := by omega
    have hm3 : ((m : Int) == 0) = false := by simp; omega
    obtain ⟨b, o, rfl, hb, hcx⟩ := h.rw.at_ (i := 0) (by simp [strB])
    have hx : W.cell? ⟨b, o, none⟩ = some (.string x) := by
      rw [h.bv.cell (p := ⟨b, o, none⟩) hb]; simpa [strB] using hcx
    have R1 : Hid (NextR V R (x :: ys) bad dp W (.returned (.string x)) (W.setCell ⟨R, 0, none⟩ (.slice (if c = 1 then some ⟨b, o, none⟩ else (some (Addr.mk b o none)).map (·.add 1)) (m - 1) (c - 1)))) := ⟨x, ys, bad, _, _, _, rfl, h.take, (Keep.refl _ _).set 0 _, h.sh x (by simp), by simp [World.setCell], by simp, fun _ => ⟨by simp, rfl⟩, fun e => by cases e⟩
    clear h pf hln hcx hb
    by_cases hc : c = 1
    · subst hc
      obtain rfl : m = 1 := by omega
      have R2 : Hid (NextR V R (x :: ys) bad dp W (.returned (.string x)) (W.setCell ⟨R, 0, none⟩ (.slice (some ⟨b, o, none⟩) 0 0))) := by have := R1.out; rw [if_pos rfl] at this; exact this
      clear R1
      go_enter Tryd.func93, Tryd.ntmps93
      go_wp2_with fail
      go_ret
      exact R2.out
    · have R2 : Hid (NextR V R (x :: ys) bad dp W (.returned (.string x)) (W.setCell ⟨R, 0, none⟩ (.slice (some ⟨b, o + 1, none⟩) (m - 1) (c - 1)))) := by have := R1.out; rw [if_neg hc] at this; exact this
      have hc1 : (c == 1) = false := by simp [hc]
      clear R1
      go_enter Tryd.func93, Tryd.ntmps93
      go_wp2_with fail
      go_ret
      exact R2.out
/-- What at does: it only looks. -/
theorem rdAt (V : World) (R : Nat) (xs : List ByteArray) (bad : Bool) (dp : Int) (A : Option Addr) (m c g : Nat) (W : World) (h : RdS V R xs bad dp A m c W) (hg : Blk W g 9 [.string ⟨#[97, 115]⟩]) :
    Calls Tryd.prog 108 #[.pointer (some ⟨R, 0, none⟩), .slice (some ⟨g, 0, none⟩) 1 1] W fun e w' => ∃ r : Bool, e = .returned (.bool r) ∧ (r = true → xs ≠ []) ∧ w' = W := by
  obtain ⟨p0, p1, p2, pf⟩ := h.cells
  have hmc := h.mc
  have hcm := h.cm
  have CC := Lib.hid (fun x => Tryd.slices_Contains_string g 0 1 1 [⟨#[97, 115]⟩] x W (by decide) (by omega) (fun j hj => by
    obtain rfl : j = 0 := by simp at hj; omega
    exact hg.cell 0))
  cases bad with
  | true =>
    clear h pf hg
    go_enter Tryd.func108, Tryd.ntmps108
    go_wp2_with fail
    go_ret
    exact ⟨false, rfl, (fun e => by cases e), rfl⟩
  | false =>
    cases xs with
    | nil =>
      have hm : m = 0 := h.ln.symm
      subst hm
      clear h pf hg
      go_enter Tryd.func108, Tryd.ntmps108
      go_wp2_with fail
      go_ret
      exact ⟨false, rfl, (fun e => by cases e), rfl⟩
    | cons x ys =>
      have hln := h.ln
      simp only [List.length_cons] at hln
      have hm1 : (1 : Int) ≤ (m : Int) := by omega
      have hm2 : (0 : Int) < (m : Int) := by omega
      obtain ⟨b, o, rfl, hb, hcx⟩ := h.rw.at_ (i := 0) (by simp [strB])
      have hx : W.cell? ⟨b, o, none⟩ = some (.string x) := by
        rw [h.bv.cell (p := ⟨b, o, none⟩) hb]; simpa [strB] using hcx
      clear h pf hg hcx hb hln
      go_enter Tryd.func108, Tryd.ntmps108
      go_wp2_with fail
      refine (CC.out x).mono ?_
      rintro e w' ⟨rfl, rfl⟩
      go_wp2_with fail
      go_ret
      exact ⟨_, rfl, (fun _ e => by cases e), rfl⟩
end Go.Proofs.YtfjmjlpobbjjdaaDoor
