/- Walks of the reference: how many parts; ExprOk. -/
import Derived.Test.YtfjmjlpobbjjdaaDoorFm
namespace Ilp
def many : Nat → Ex → Nat
  | 0, _ => 1
  | d + 1, .mk _ _ _ ks => 1 + (ks.map (many d)).sum
theorem many_step (d : Nat) (t : Ex) : many (d + 1) t = 1 + (t.kids.map (many d)).sum := by cases t; rfl
theorem many_le : ∀ (d : Nat) (t : Ex), many d t ≤ wgt t + 1 := by
  intro d
  induction d with
  | zero => intro t; unfold many; omega
  | succ d ih =>
    intro t
    rw [many_step, wgt_eq]
    have : ∀ ks : List Ex, (ks.map (many d)).sum ≤ wgts ks := by
      intro ks
      induction ks with
      | nil => simp [wgts]
      | cons x ks ihk => have := ih x; simp [wgts]; omega
    have := this t.kids
    omega
theorem many_size : ∀ (d : Nat) (t : Ex) (u : Tm), ofEx d t = some u → many d t = u.size := by
  intro d
  induction d with
  | zero => intro t u h; simp [ofEx] at h
  | succ d ih =>
    intro e t h
    obtain ⟨k, n, s, ks⟩ := e
    unfold ofEx at h
    split at h
    · split at h
      · split at h
        · injection h with h; subst h; simp [many, Tm.size]
        · cases h
      · cases h
    split at h
    · split at h
      · split at h
        · injection h with h; subst h; simp [many, Tm.size]
        · cases h
      · cases h
    split at h
    · split at h
      · split at h
        · split at h
          · rename_i x y hx hy
            injection h with h; subst h
            simp [many, Tm.size, ih _ _ hx, ih _ _ hy]; omega
          · cases h
        · cases h
      · cases h
    split at h
    · split at h
      · split at h
        · split at h
          · rename_i x hx
            injection h with h; subst h
            simp [many, Tm.size, ih _ _ hx]
          · cases h
        · cases h
      · cases h
    cases h
theorem exprOk_form (t : Ex) : exprOk t = (form 5 t && decide (many 5 t ≤ 12)) := by
  unfold exprOk exTm
  rw [form_ofEx]
  cases h : ofEx 5 t with
  | none => rfl
  | some u =>
    rw [many_size 5 t u h]
    by_cases h2 : u.size ≤ 12 <;> simp [h2]
theorem sum_take_next {f : Ex → Nat} {ts : List Ex} {j : Nat} (h : j < ts.length) : ((ts.take (j + 1)).map f).sum = ((ts.take j).map f).sum + f ts[j] := by
  rw [List.take_succ_eq_append_getElem h]; simp only [List.map_append, List.sum_append, List.map_cons, List.map_nil, List.sum_cons, List.sum_nil, Nat.add_zero]
end Ilp
namespace Go.Proofs.YtfjmjlpobbjjdaaDoor
open Go.RowKit Ilp
set_option linter.unusedVariables false

def ManyQ (d : Nat) : Prop := ∀ (D : Int) (k n : Int) (g : ByteArray) (A : Option Addr) (l c : Nat) (t : Ex) (W : World), IsEV W [.int .i64 k, .int .i64 n, .string g, .slice A l c] t → wgt t ≤ 1048576 → form d t = true → (d : Int) ≤ D → D ≤ 1000 →
  Calls Tryd.prog 65 #[.agg #[.int .i64 k, .int .i64 n, .string g, .slice A l c], .int .i64 D] W fun e w' => e = .returned (.int .i64 (many d t : Int)) ∧ Below W.heap.size W w'
set_option maxHeartbeats 4000000 in
set_option maxRecDepth 20000 in
theorem specMany (d : Nat) : ManyQ d := by
  induction d with
  | zero => intro D k n g A l c t W h hw hf; unfold form at hf; cases hf
  | succ d ih =>
    intro D k n g A l c t W h hw hf hD hD2
    have IH := Lib.hid ih
    obtain ⟨q1, q2, q3, q4, h5, h6, h7, dd, hk⟩ := h.parts
    rw [form_step] at hf
    simp only [Bool.and_eq_true] at hf
    have hkf : Hid (∀ x ∈ t.kids, form d x = true) := fun x hx => List.all_eq_true.1 hf.2 x hx
    have HK := Lib.hid hk
    have HL := Lib.hid q4
    have HW := Lib.hid hw
    have HM := Lib.hid (many_step d t)
    have HML := Lib.hid (many_le (d + 1) t)
    have hd1 : (0 : Int) < D := by omega
    have hd1b : decide ((0 : Int) < D) = true := decide_eq_true hd1
    have hD3 : Hid ((d : Int) ≤ D - 1) := by unfold Hid; omega
    have hlm : (l : Int) ≤ 9223372036854775807 := by unfold maxLen at h6; rw [q4]; omega
    clear ih h hw hf q1 q2 q3 q4 h5 h6 h7 hk hD
    have hA : Blk (W.alloc (.cells #[.int .i64 k, .int .i64 n, .string g, .slice A l c] 25)) W.heap.size 25 [.int .i64 k, .int .i64 n, .string g, .slice A l c] := Blk.alloc_ _ _ _
    have hb0 : Below W.heap.size W (W.alloc (.cells #[.int .i64 k, .int .i64 n, .string g, .slice A l c] 25)) := by go_grown
    have HA := Lib.hid hA
    have HB0 := Lib.hid hb0
    clear hA hb0
    go_enter Tryd.func65, Tryd.ntmps65
    go_wp2_with fail
    generalize W.alloc (.cells #[.int .i64 k, .int .i64 n, .string g, .slice A l c] 25) = w0 at *
    go_loopw [5, 6] (fun u v wr => ∃ (j : Nat) (s : Int), u = .int .i64 s ∧ v = .int .i64 (j : Int) ∧ j ≤ l ∧ Hid (s = 1 + (((t.kids.take j).map (many d)).sum : Nat)) ∧ Below w0.heap.size w0 wr) (fun _ v _ => l - (intOf v).toNat)
    case atStart => exact ⟨0, 1, rfl, rfl, Nat.zero_le _, by simp [Hid], Below.refl _ _⟩
    case round =>
      obtain ⟨j, s, rfl, rfl, hj, hs, hbw⟩ := hrel
      have HBW := Lib.hid hbw
      have HBw : Hid (Below W.heap.size W wr) := HB0.out.trans (hbw.mono HB0.out.size)
      have c3 := (HA.out.below hbw HA.out.lt).cell 3
      simp only [List.getElem?_cons_zero, List.getElem?_cons_succ] at c3
      clear hbw
      by_cases hlt : j < l
      · have hx : j < t.kids.length := by rw [← HL.out]; exact hlt
        obtain ⟨b, o, k', n', g', A', l', c', rfl, hb, hev, e0, e1, e2, e3⟩ := IsEV.kid (HK.out.below HBw.out) hx
        have HEV := Lib.hid hev
        have HWK : Hid (wgt t.kids[j] ≤ 1048576) := by have := HW.out; have h1 := wgt_eq t; have h2 := wgts_mem (List.getElem_mem hx); unfold Hid; omega
        have HFK : Hid (form d t.kids[j] = true) := hkf.out _ (List.getElem_mem hx)
        have hnx := sum_take_next (f := many d) hx
        have hle : ((t.kids.take (j + 1)).map (many d)).sum ≤ 1048576 := by
          have h1 : ∀ ks : List Ex, (ks.map (many d)).sum ≤ wgts ks := by
            intro ks
            induction ks with
            | nil => simp [wgts]
            | cons x ks ihk => have := many_le d x; simp [wgts]; omega
          have h2 := h1 (t.kids.take (j + 1))
          have h3 : wgts (t.kids.take (j + 1)) ≤ wgts t.kids := by
            have := wgts_app (t.kids.take (j + 1)) (t.kids.drop (j + 1))
            rw [List.take_append_drop] at this; omega
          have h4 := wgt_eq t
          have := HW.out
          omega
        have HS : Hid (s + (many d t.kids[j] : Int) = 1 + (((t.kids.take (j + 1)).map (many d)).sum : Nat)) := by unfold Hid; rw [hs.out, hnx]; omega
        have hs0 : 0 ≤ s := by rw [hs.out]; omega
        have hs1 : s + (many d t.kids[j] : Int) ≤ 1048577 := by rw [HS.out]; omega
        have h0 : (0 : Int) ≤ (j : Int) := by omega
        have h1 : (j : Int) < (l : Int) := by omega
        clear hnx hle
        generalize t.kids[j] = x at HEV HWK HFK HS hs1
        clear hev hx
        go_wp2_with fail
        refine (IH.out (D - 1) k' n' g' A' l' c' x wr HEV.out HWK.out HFK.out hD3.out (by omega)).mono ?_
        generalize many d x = mx at *
        rintro e w1 ⟨rfl, hb1⟩
        have HB1 : Hid (Below w0.heap.size w0 w1) := HBW.out.trans (hb1.mono HBW.out.size)
        have hmx : (0 : Int) ≤ (mx : Int) := by omega
        clear hb1 e0 e1 e2 e3 c3
        go_wp2_with fail
        go_roundw
        case rel => exact ⟨j + 1, s + (mx : Int), by go_num, by go_num, by omega, HS, HB1.out⟩
        case measure => simp [intOf]; omega
      · obtain rfl : j = l := by omega
        have HF2 : Hid (s = (many (d + 1) t : Int)) := by
          unfold Hid; rw [HM.out, hs.out, List.take_of_length_le (by rw [← HL.out]; omega)]; omega
        go_wp2_with fail
        go_ret
        exact ⟨by rw [← HF2.out]; rfl, HBw.out⟩

set_option maxHeartbeats 1000000 in
set_option maxRecDepth 20000 in
theorem specExprOk (k n : Int) (g : ByteArray) (A : Option Addr) (l c : Nat) (t : Ex) (W : World) (h : IsEV W [.int .i64 k, .int .i64 n, .string g, .slice A l c] t) (hw : wgt t ≤ 1048576) :
    Calls Tryd.prog 33 #[.agg #[.int .i64 k, .int .i64 n, .string g, .slice A l c]] W fun e w' => e = .returned (.bool (exprOk t)) ∧ Below W.heap.size W w' := by
  have CF := fun W' (hb : Below W.heap.size W W') => specForm 5 (by omega) k n g A l c t W' (h.below hb) hw
  have HCF := Lib.hid CF
  have HE := Lib.hid (exprOk_form t)
  clear CF
  have hA : Blk (W.alloc (.cells #[.int .i64 k, .int .i64 n, .string g, .slice A l c] 25)) W.heap.size 25 [.int .i64 k, .int .i64 n, .string g, .slice A l c] := Blk.alloc_ _ _ _
  have hb0 : Below W.heap.size W (W.alloc (.cells #[.int .i64 k, .int .i64 n, .string g, .slice A l c] 25)) := by go_grown
  have HA := Lib.hid hA
  have HB0 := Lib.hid hb0
  clear hA hb0
  cases hf : form 5 t with
  | false =>
    have HF : Hid (exprOk t = false) := by unfold Hid; rw [HE.out, hf]; rfl
    rw [hf] at HCF
    clear h
    go_enter Tryd.func33, Tryd.ntmps33
    go_wp2_with fail
    refine (HCF.out _ HB0.out).mono ?_
    rintro e w1 ⟨rfl, hb1⟩
    have HB1 : Hid (Below W.heap.size W w1) := HB0.out.trans (hb1.mono HB0.out.size)
    clear hb1
    go_wp2_with fail
    go_ret
    exact ⟨by rw [HF.out]; rfl, HB1.out⟩
  | true =>
    have HF : Hid (exprOk t = decide (many 5 t ≤ 12)) := by unfold Hid; rw [HE.out, hf]; rfl
    have CM := fun W' (hb : Below W.heap.size W W') => specMany 5 5 k n g A l c t W' (h.below hb) hw hf (by omega) (by omega)
    rw [hf] at HCF
    have hml := many_le 5 t
    generalize many 5 t = mm at *
    have HCM := Lib.hid CM
    clear h CM hf
    go_enter Tryd.func33, Tryd.ntmps33
    go_wp2_with fail
    generalize W.alloc (.cells #[.int .i64 k, .int .i64 n, .string g, .slice A l c] 25) = w0 at *
    refine (HCF.out w0 HB0.out).mono ?_
    rintro e w1 ⟨rfl, hb1⟩
    have HB1 : Hid (Below W.heap.size W w1) := HB0.out.trans (hb1.mono HB0.out.size)
    have hA1 := HA.out.below hb1 HA.out.lt
    have a0 := hA1.cell 0
    have a1 := hA1.cell 1
    have a2 := hA1.cell 2
    have a3 := hA1.cell 3
    simp only [List.getElem?_cons_zero, List.getElem?_cons_succ] at a0 a1 a2 a3
    clear hb1 hA1
    go_wp2_with fail
    refine (HCM.out w1 HB1.out).mono ?_
    rintro e w2 ⟨rfl, hb2⟩
    have HB2 : Hid (Below W.heap.size W w2) := HB1.out.trans (hb2.mono HB1.out.size)
    clear hb2
    go_wp2_with fail
    go_ret
    refine ⟨?_, HB2.out⟩
    rw [HF.out]
    simp
    omega
end Go.Proofs.YtfjmjlpobbjjdaaDoor
