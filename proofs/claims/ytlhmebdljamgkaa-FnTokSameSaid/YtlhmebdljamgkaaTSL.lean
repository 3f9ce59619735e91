/- The walk of FnTokSame. -/
import Derived.Test.YtlhmebdljamgkaaDrawV
namespace Go.Proofs.Ytlhmebdljamgkaa
open Go.RowKit Ilp
set_option linter.unusedVariables false

/-- All words up to k are the same, or not. -/
def AllInv (ts us : List Tk) (m m' k : Nat) (b : Bool) : Prop := b = true ↔ (m = m' ∧ ts.take k = us.take k)
theorem tkSame_comm (ts us : List Tk) : tkSame us ts = tkSame ts us := by unfold tkSame; congr 1; exact propext ⟨Eq.symm, Eq.symm⟩
theorem tkSame_tail {ts : List Tk} (h : ts ≠ []) : tkSame ts (ts.drop 1) = false := tkSame_false fun e => by
  have := congrArg List.length e
  rw [List.length_drop] at this
  have : 0 < ts.length := List.length_pos_iff.2 h
  omega
theorem take_all {ts us : List Tk} {n : Nat} (h1 : ts.length = n) (h2 : us.length = n) (h : ts.take n = us.take n) : ts = us := by
  rw [List.take_of_length_le (by omega), List.take_of_length_le (by omega)] at h; exact h
theorem row_tail {w : World} {B : Nat} {b o : Nat} {ts : List Tk} (h : Row w B (some ⟨b, o, none⟩) (tksV ts)) : Row w B (some ⟨b, o + 3, none⟩) (tksV (ts.drop 1)) := by
  cases ts with
  | nil => exact Row.nil _ _ _
  | cons x ts =>
    intro i v hv
    have e : (tksV (x :: ts))[i + 3]? = some v := by rw [tksV_cons]; simpa [tkV] using hv
    obtain ⟨b', o', e1, hb, hc⟩ := h (i + 3) v e
    simp only [Option.some.injEq, Addr.mk.injEq] at e1
    obtain ⟨rfl, rfl, _⟩ := e1
    exact ⟨b, o + 3, rfl, hb, by rw [show o + 3 + i = o + (i + 3) by omega]; exact hc⟩

set_option maxHeartbeats 8000000 in
theorem law_FnTokSame (a : Option Addr) (n c : Nat) (z : List Int) (w : World) (hz : IsRow .u8 w a n c z) :
    Calls Try.prog 6 #[.slice a n c] w fun e w' => e = .returned (.bool true) ∧ Below w.heap.size w w' := by
  obtain ⟨_, _, hnc, hn, hc, _⟩ := hz.row
  have HZ := Lib.hid hz; clear hz
  by_cases hbig : (1048576 : Int) < (n : Int)
  · go_enter Try.func6, Try.ntmps6
    go_wp2
    go_ret
    exact ⟨rfl, Below.refl _ _⟩
  · clear hnc hc
    go_enter Try.func6, Try.ntmps6
    go_wp2_with fail
    refine (drawTokSame a n c z w HZ.out).mono ?_
    rintro e w1 ⟨ts, us, A, B, cA, cB, rfl, hcA, hts, hus, hrA, hrB, hb1⟩
    have HRA := Lib.hid hrA
    have HRB := Lib.hid hrB
    have HB1 := Lib.hid hb1
    obtain ⟨m, hm⟩ : ∃ m, ts.length = m := ⟨_, rfl⟩
    obtain ⟨m', hm'⟩ : ∃ m', us.length = m' := ⟨_, rfl⟩
    rw [hm] at hcA hts
    rw [hm'] at hus
    have HM := Lib.hid hm
    have HM' := Lib.hid hm'
    rw [hm, hm']
    clear hbig hn HZ hrA hrB hb1 hm hm'
    go_wp2_with fail
    refine (implTokSame A B m cA m' cB ts us w1 HRA.out HRB.out HM HM' (by omega) (by omega)).mono ?_
    rintro e w2 ⟨rfl, hb2⟩
    have hs2 := hb2.size
    have HRA2 := Lib.hid ((HRA.out.below hb2).more hs2)
    have HRB2 := Lib.hid ((HRB.out.below hb2).more hs2)
    have HB2 : Hid (Below w.heap.size w w2) := HB1.out.trans (hb2.mono HB1.out.size)
    have hne : (tkSame ts us != tkSame ts us) = false := by simp
    obtain ⟨same, hsame⟩ : ∃ same, tkSame ts us = same := ⟨_, rfl⟩
    have HSAME := Lib.hid hsame
    rw [hsame]
    clear hne hsame hb2 hs2 HRA HRB HB1
    go_wp2_with fail
    refine (specTokSame A B m cA m' cB ts us w2 HRA2.out HRB2.out HM HM' (by omega) (by omega)).mono ?_
    rw [HSAME.out]
    rintro e w3 ⟨rfl, hb3⟩
    have hs3 := hb3.size
    have HRA3 := Lib.hid ((HRA2.out.below hb3).more hs3)
    have HRB3 := Lib.hid ((HRB2.out.below hb3).more hs3)
    have HB3 : Hid (Below w.heap.size w w3) := HB2.out.trans (hb3.mono HB2.out.size)
    have hne : (same != same) = false := by simp
    clear hb3 hs3 HRA2 HRB2 HB2
    go_wp2_with fail
    refine (implTokSame A A m cA m cA ts ts w3 HRA3.out HRA3.out HM HM (by omega) (by omega)).mono ?_
    rw [tkSame_true rfl]
    rintro e w4 ⟨rfl, hb4⟩
    have hs4 := hb4.size
    have HRA4 := Lib.hid ((HRA3.out.below hb4).more hs4)
    have HRB4 := Lib.hid ((HRB3.out.below hb4).more hs4)
    have HB4 : Hid (Below w.heap.size w w4) := HB3.out.trans (hb4.mono HB3.out.size)
    clear hb4 hs4 HRA3 HRB3 HB3
    go_wp2_with fail
    refine (implTokSame B A m' cB m cA us ts w4 HRB4.out HRA4.out HM' HM (by omega) (by omega)).mono ?_
    rw [tkSame_comm, HSAME.out]
    rintro e w5 ⟨rfl, hb5⟩
    have hs5 := hb5.size
    have HRA5 := Lib.hid ((HRA4.out.below hb5).more hs5)
    have HRB5 := Lib.hid ((HRB4.out.below hb5).more hs5)
    have HB5 : Hid (Below w.heap.size w w5) := HB4.out.trans (hb5.mono HB4.out.size)
    clear hb5 hs5 HRA4 HRB4 HB4
    go_wp2_with fail
    go_loopw [6, 7] (fun v i wr => ∃ (k : Nat) (b : Bool), i = .int .i64 (k : Int) ∧ v = .bool b ∧ k ≤ m ∧ Hid (AllInv ts us m m' k b) ∧ Below w5.heap.size w5 wr) (fun _ i _ => m - (intOf i).toNat)
    case atStart =>
      refine ⟨0, ((m : Int) == (m' : Int)), rfl, rfl, Nat.zero_le _, ?_, Below.refl _ _⟩
      unfold Hid AllInv
      simp only [beq_iff_eq, List.take_zero, and_true]
      omega
    case round =>
      obtain ⟨k, b, rfl, rfl, hk, hb, hbw⟩ := hrel
      have HBW := Lib.hid hbw
      have hsw := hbw.size
      clear hbw
      have fin : ∀ (wr' : World), b = same → Below w5.heap.size w5 wr' → True := fun _ _ _ => trivial
      clear fin
      by_cases hgo : (k : Int) < (m : Int) ∧ b = true
      · obtain ⟨hlt, rfl⟩ := hgo
        obtain ⟨hmm, htk⟩ := hb.out.1 rfl
        subst hmm
        have hx : k < ts.length := by rw [HM.out]; omega
        have hx' : k < us.length := by rw [HM'.out]; omega
        obtain ⟨b1, o1, rfl, hb1, d0, d1, d2⟩ := (HRA5.out.below HBW.out).tk hx
        obtain ⟨b2, o2, rfl, hb2, d0', d1', d2'⟩ := (HRB5.out.below HBW.out).tk hx'
        have h0 : (0 : Int) ≤ (k : Int) := by omega
        have HT := Lib.hid htk
        by_cases he : ts[k] = us[k]
        · have HT2 : Hid (AllInv ts us m m (k + 1) true) := ⟨fun _ => ⟨rfl, take_next htk hx hx' he⟩, fun _ => rfl⟩
          rw [← he] at d0' d1' d2'
          generalize ts[k] = x at *
          obtain ⟨xk, xs, xc⟩ := x
          simp only at d0 d1 d2 d0' d1' d2'
          clear he hx hx' htk hb
          go_wp2_with fail
          go_quiet (fail)
          go_wp2_with fail
          go_roundw
          case rel => exact ⟨k + 1, true, by go_num, rfl, by omega, HT2, drewN_below HBW.out _⟩
          case measure => simp [intOf]; omega
        · have HT2 : Hid (AllInv ts us m m (k + 1) false) := by
            refine ⟨fun e => (by cases e), fun e => ?_⟩
            exfalso
            apply he
            have := e.2
            rw [List.take_succ_eq_append_getElem hx, List.take_succ_eq_append_getElem hx'] at this
            simpa using (List.append_inj this (by simp; omega)).2
          have hcase := tk_ne he
          clear he
          generalize ts[k] = x at *
          generalize us[k] = y at *
          obtain ⟨xk, xs, xc⟩ := x
          obtain ⟨yk, ys, yc⟩ := y
          simp only at d0 d1 d2 d0' d1' d2' hcase
          clear hx hx' htk hb
          rcases hcase with h3 | ⟨rfl, h3⟩ | ⟨rfl, rfl, h3⟩
          · have h4 : (xk == yk) = false := by simp [h3]
            clear h3
            go_wp2_with fail
            go_quiet (fail)
            go_wp2_with fail
            go_roundw
            case rel => exact ⟨k + 1, false, by go_num, rfl, by omega, HT2, drewN_below HBW.out _⟩
            case measure => simp [intOf]; omega
          · have h4 := str_ne h3
            clear h3
            go_wp2_with fail
            go_quiet (fail)
            go_wp2_with fail
            go_roundw
            case rel => exact ⟨k + 1, false, by go_num, rfl, by omega, HT2, drewN_below HBW.out _⟩
            case measure => simp [intOf]; omega
          · have h4 : (xc == yc) = false := by simp [h3]
            clear h3
            go_wp2_with fail
            go_quiet (fail)
            go_wp2_with fail
            go_roundw
            case rel => exact ⟨k + 1, false, by go_num, rfl, by omega, HT2, drewN_below HBW.out _⟩
            case measure => simp [intOf]; omega
      · have hbs : b = same := by
          rw [← HSAME.out]
          cases b with
          | true =>
            have hk2 : k = m := by have : ¬ ((k : Int) < (m : Int)) := fun e => hgo ⟨e, rfl⟩; omega
            obtain ⟨hmm, htk⟩ := hb.out.1 rfl
            subst hk2 hmm
            exact (tkSame_true (take_all HM.out HM'.out htk)).symm
          | false =>
            refine (tkSame_false fun e => ?_).symm
            subst e
            have := hb.out.2 ⟨HM.out.symm.trans HM'.out, rfl⟩
            cases this
        subst hbs
        have hend : ((k : Int) < (m : Int)) ∧ b = false ∨ ¬ ((k : Int) < (m : Int)) := by
          by_cases e : (k : Int) < (m : Int)
          · exact .inl ⟨e, by cases b with
              | true => exact absurd ⟨e, rfl⟩ hgo
              | false => rfl⟩
          · exact .inr e
        have HRAw := Lib.hid ((HRA5.out.below HBW.out).more hsw)
        have hbb : (b == b) = true := by simp
        by_cases hm0 : m = 0
        · subst hm0
          have hk0 : ¬ ((k : Int) < ((0 : Nat) : Int)) := by omega
          clear hb hgo hend
          go_wp2_with fail
          go_ret
          exact ⟨rfl, HB5.out.trans (HBW.out.mono HB5.out.size)⟩
        · have hm0b : ((m : Int) == 0) = false := by rw [beq_eq_false_iff_ne]; omega
          have hmp : (1 : Int) ≤ (m : Int) := by omega
          have hmp0 : (0 : Int) < (m : Int) := by omega
          obtain ⟨b1, o1, rfl, hb1, d0, d1, d2⟩ := HRAw.out.tk (i := 0) (by rw [HM.out]; omega)
          have HTAIL := Lib.hid (row_tail HRAw.out)
          have hml : Hid ((ts.drop 1).length = m - 1) := by unfold Hid; rw [List.length_drop, HM.out]
          have hne := tkSame_tail (ts := ts) (by intro e; have := HM.out; rw [e] at this; simp at this; omega)
          have hcA' : (m : Int) ≤ (cA : Int) := by omega
          have hcA1 : (1 : Int) ≤ (cA : Int) := by omega
          clear hb hgo d0 d1 d2
          by_cases hc1 : cA = 1
          · subst hc1
            obtain rfl : m = 1 := by omega
            have CI := implTokSame (some ⟨b1, o1, none⟩) (some ⟨b1, o1, none⟩) 1 1 0 0 ts (ts.drop 1) wr HRAw.out (by rw [List.eq_nil_of_length_eq_zero (l := ts.drop 1) (by rw [hml.out])]; exact Row.nil _ _ _) HM hml (by omega) (by omega)
            rw [hne] at CI
            have HCI := Lib.hid CI
            clear CI hne
            rcases hend with ⟨e1, rfl⟩ | e1
            · go_wp2_with fail
              refine HCI.out.mono ?_
              rintro e w6 ⟨rfl, hb6⟩
              go_wp2_with fail
              go_ret
              exact ⟨rfl, HB5.out.trans ((HBW.out.trans (hb6.mono hsw)).mono HB5.out.size)⟩
            · go_wp2_with fail
              refine HCI.out.mono ?_
              rintro e w6 ⟨rfl, hb6⟩
              go_wp2_with fail
              go_ret
              exact ⟨rfl, HB5.out.trans ((HBW.out.trans (hb6.mono hsw)).mono HB5.out.size)⟩
          · have CI := implTokSame (some ⟨b1, o1, none⟩) (some ⟨b1, o1 + 3, none⟩) m cA (m - 1) (cA - 1) ts (ts.drop 1) wr HRAw.out HTAIL.out HM hml (by omega) (by omega)
            rw [hne] at CI
            have HCI := Lib.hid CI
            have hc2 : (1 : Int) < (cA : Int) := by omega
            clear CI hne
            rcases hend with ⟨e1, rfl⟩ | e1
            · go_wp2_with fail
              refine HCI.out.mono ?_
              rintro e w6 ⟨rfl, hb6⟩
              go_wp2_with fail
              go_ret
              exact ⟨rfl, HB5.out.trans ((HBW.out.trans (hb6.mono hsw)).mono HB5.out.size)⟩
            · go_wp2_with fail
              refine HCI.out.mono ?_
              rintro e w6 ⟨rfl, hb6⟩
              go_wp2_with fail
              go_ret
              exact ⟨rfl, HB5.out.trans ((HBW.out.trans (hb6.mono hsw)).mono HB5.out.size)⟩
end Go.Proofs.Ytlhmebdljamgkaa
