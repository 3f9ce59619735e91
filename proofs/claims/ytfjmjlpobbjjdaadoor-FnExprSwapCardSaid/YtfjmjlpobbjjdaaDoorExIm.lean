/- Walks over what is reckoned: ExprSame of the program. -/
import Derived.Test.YtfjmjlpobbjjdaaDoorExSm
namespace Go.Proofs.YtfjmjlpobbjjdaaDoor
open Go.RowKit Ilp
set_option linter.unusedVariables false

def RSame (d : Nat) : Prop := ∀ (ts us : List Ex) (A A' : Option Addr) (m m' cap cap' : Nat) (w : World), Kids w (Low w) d A ts → Kids w (Low w) d A' us → Hid (ts.length = m) → Hid (us.length = m') → m ≤ maxLen → m' ≤ maxLen →
  Calls Tryd.prog 70 #[.slice A m cap, .slice A' m' cap', .func (.func 39) #[] #[]] w fun e w' => e = .returned (.bool (exsEq ts us)) ∧ Below w.heap.size w w'
set_option maxHeartbeats 4000000 in
set_option maxRecDepth 20000 in
theorem equalFunc_step (d : Nat) (ih : ∀ d', d = d' + 1 → QSame 39 d') : RSame d := by
  intro ts us A A' m m' cap cap' w hk hk' hl hl' hm hm'
  have hmI : (m : Int) ≤ 9223372036854775807 := by unfold maxLen at hm; omega
  have hmI' : (m' : Int) ≤ 9223372036854775807 := by unfold maxLen at hm'; omega
  by_cases hmm : m = m'
  · subst hmm
    have HK := Lib.hid hk
    have HK' := Lib.hid hk'
    have HIH := Lib.hid ih
    have hne : ((m : Int) != m) = false := by simp
    clear hk hk' ih hm hm' hmI'
    go_enter Tryd.func70, Tryd.ntmps70
    go_wp2_with fail
    go_loopw [17] (fun v wr => ∃ k : Nat, v = .int .i64 (k : Int) ∧ k ≤ m ∧ Hid (ts.take k = us.take k) ∧ Below w.heap.size w wr) (fun v _ => m - (intOf v).toNat)
    case atStart => exact ⟨0, rfl, Nat.zero_le _, rfl, Below.refl _ _⟩
    case round =>
      obtain ⟨k, rfl, hk, htk, hbw⟩ := hrel
      have HB := Lib.hid hbw
      clear hbw
      by_cases hlt : k < m
      · have hx : k < ts.length := by rw [hl.out]; exact hlt
        have hx' : k < us.length := by rw [hl'.out]; exact hlt
        obtain ⟨b, o, A1, cap1, d1, rfl, hbb, hd1, c0, c1, c2, c3, g1, g2, g3, hkk⟩ := (HK.out.below HB.out).get hx
        obtain ⟨b', o', A2, cap2, d2, rfl, hbb', hd2, e0, e1, e2, e3, g1', g2', g3', hkk'⟩ := (HK'.out.below HB.out).get hx'
        obtain rfl : d1 = d2 := by omega
        have cE := fun W (h : Below wr.heap.size wr W) => HIH.out d1 hd1 ts[k] us[k] A1 A2 cap1 cap2 W (hkk.below h) (hkk'.below h) (by omega) (by omega)
        have HX := Lib.hid (fun e : ts[k] = us[k] => ex_take_next htk.out hx hx' e)
        have HX2 : Hid (ts[k] ≠ us[k] → ts ≠ us) := fun h e => h (by simp only [e])
        obtain ⟨x, ex⟩ : ∃ x, x = ts[k] := ⟨_, rfl⟩
        obtain ⟨y, ey⟩ : ∃ y, y = us[k] := ⟨_, rfl⟩
        rw [← ex] at c0 c1 c2 c3 HX HX2
        rw [← ey] at e0 e1 e2 e3 HX HX2
        simp only [← ex, ← ey] at cE
        have CE := Lib.hid cE
        have q0 : ∀ ob, (wr.alloc ob).cell? ⟨b', o' + k * 4, none⟩ = some (.int .i64 y.kind) := fun ob => (((Below.refl wr.heap.size wr).alloc (Nat.le_refl _) ob).cell (p := ⟨b', o' + k * 4, none⟩) hbb').trans e0
        have q1 : ∀ ob, (wr.alloc ob).cell? ⟨b', o' + k * 4 + 1, none⟩ = some (.int .i64 y.num) := fun ob => (((Below.refl wr.heap.size wr).alloc (Nat.le_refl _) ob).cell (p := ⟨b', o' + k * 4 + 1, none⟩) hbb').trans e1
        have q2 : ∀ ob, (wr.alloc ob).cell? ⟨b', o' + k * 4 + 2, none⟩ = some (.string (mkB y.txt)) := fun ob => (((Below.refl wr.heap.size wr).alloc (Nat.le_refl _) ob).cell (p := ⟨b', o' + k * 4 + 2, none⟩) hbb').trans e2
        have q3 : ∀ ob, (wr.alloc ob).cell? ⟨b', o' + k * 4 + 3, none⟩ = some (.slice A2 y.kids.length cap2) := fun ob => (((Below.refl wr.heap.size wr).alloc (Nat.le_refl _) ob).cell (p := ⟨b', o' + k * 4 + 3, none⟩) hbb').trans e3
        have h0 : (0 : Int) ≤ (k : Int) := by omega
        have h1 : (k : Int) < (m : Int) := by omega
        clear cE ex ey hx hx' g1 g2 g3 g1' g2' g3' hkk hkk' hd1 hd2 e0 e1 e2 e3
        cases heq : exEq x y with
        | true =>
          have HT := Lib.hid (HX.out (exEq_iff.1 heq))
          rw [heq] at CE
          clear heq
          go_wp2_with fail
          refine (CE.out _ (by go_grown)).mono ?_
          rintro e w5 ⟨rfl, hb5⟩
          have HB5 : Hid (Below w.heap.size w w5) := HB.out.trans ((Below.trans (B := wr.heap.size) (by go_grown) (hb5.mono (by simp; omega))).mono HB.out.size)
          clear hb5 c0 c1 c2 c3 q0 q1 q2 q3
          go_wp2_with fail
          go_roundw
          case rel => exact ⟨k + 1, by go_num, by omega, HT.out, HB5.out⟩
          case measure => simp [intOf]; omega
        | false =>
          have HF : Hid (exsEq ts us = false) := exsEq_false (HX2.out (fun e => by rw [exEq_true e] at heq; cases heq))
          rw [heq] at CE
          clear heq
          go_wp2_with fail
          refine (CE.out _ (by go_grown)).mono ?_
          rintro e w5 ⟨rfl, hb5⟩
          have HB5 : Hid (Below w.heap.size w w5) := HB.out.trans ((Below.trans (B := wr.heap.size) (by go_grown) (hb5.mono (by simp; omega))).mono HB.out.size)
          clear hb5 c0 c1 c2 c3 q0 q1 q2 q3
          go_wp2_with fail
          go_ret
          exact ⟨by rw [HF.out]; rfl, HB5.out⟩
      · obtain rfl : k = m := by omega
        have HT : Hid (exsEq ts us = true) := exsEq_true (ex_take_all hl.out hl'.out htk.out)
        go_wp2_with fail
        go_ret
        exact ⟨by rw [HT.out]; rfl, HB.out⟩
  · have HF : Hid (exsEq ts us = false) := exsEq_false (by rintro rfl; exact hmm (hl.out.symm.trans hl'.out))
    have hne : ((m : Int) != (m' : Int)) = true := by rw [bne_iff_ne]; omega
    clear hk hk' ih hm hm' hmm
    go_enter Tryd.func70, Tryd.ntmps70
    go_wp2_with fail
    go_ret
    exact ⟨by rw [HF.out]; rfl, Below.refl _ _⟩
set_option maxHeartbeats 4000000 in
set_option maxRecDepth 20000 in
theorem implExprSame_step (d : Nat) (ih : RSame d) : QSame 39 d := by
  intro t u A A' cap cap' w hk hk' hm hm'
  have hmI : (t.kids.length : Int) ≤ 9223372036854775807 := by unfold maxLen at hm; omega
  have hmI' : (u.kids.length : Int) ≤ 9223372036854775807 := by unfold maxLen at hm'; omega
  by_cases e1 : t.kind = u.kind
  · by_cases e2 : t.num = u.num
    · by_cases e3 : t.txt = u.txt
      · have HE := Lib.hid (exEq_kids e1 e2 e3)
        rw [← e1, ← e2, ← e3]
        have C := fun W (h : Below w.heap.size w W) => ih t.kids u.kids A A' t.kids.length u.kids.length cap cap' W (hk.below h) (hk'.below h) rfl rfl hm hm'
        have HC := Lib.hid C
        have h1 : (t.kind == t.kind) = true := by simp
        have h2 : (t.num == t.num) = true := by simp
        have h3 : ((mkB t.txt).toList == (mkB t.txt).toList) = true := by simp
        clear C hk hk' ih e1 e2 e3 hm hm'
        generalize mkB t.txt = s at *
        generalize t.kind = kk at *
        generalize t.num = nn at *
        generalize t.kids.length = m at *
        generalize u.kids.length = m' at *
        go_enter Tryd.func39, Tryd.ntmps39
        go_wp2_with fail
        refine (HC.out _ (by go_grown)).mono ?_
        rintro e w1 ⟨rfl, hb1⟩
        have HB1 : Hid (Below w.heap.size w w1) := Below.trans (by go_grown) (hb1.mono (by simp; omega))
        clear hb1
        go_wp2_with fail
        go_ret
        exact ⟨by rw [HE.out]; rfl, HB1.out⟩
      · have HF : Hid (exEq t u = false) := exEq_false (by rintro rfl; exact e3 rfl)
        rw [← e1, ← e2]
        have h1 : (t.kind == t.kind) = true := by simp
        have h2 : (t.num == t.num) = true := by simp
        have h3 := mkB_ne e3
        clear hk hk' ih e1 e2 e3 hm hm'
        generalize mkB t.txt = s at *
        generalize mkB u.txt = s' at *
        generalize t.kind = kk at *
        generalize t.num = nn at *
        generalize t.kids.length = m at *
        generalize u.kids.length = m' at *
        go_enter Tryd.func39, Tryd.ntmps39
        go_wp2_with fail
        go_ret
        exact ⟨by rw [HF.out]; rfl, by go_grown⟩
    · have HF : Hid (exEq t u = false) := exEq_false (by rintro rfl; exact e2 rfl)
      rw [← e1]
      have h1 : (t.kind == t.kind) = true := by simp
      have h2 : (t.num == u.num) = false := by rw [beq_eq_false_iff_ne]; exact e2
      clear hk hk' ih e1 e2 hm hm'
      generalize mkB t.txt = s at *
      generalize mkB u.txt = s' at *
      generalize t.kind = kk at *
      generalize t.num = nn at *
      generalize u.num = nn' at *
      generalize t.kids.length = m at *
      generalize u.kids.length = m' at *
      go_enter Tryd.func39, Tryd.ntmps39
      go_wp2_with fail
      go_ret
      exact ⟨by rw [HF.out]; rfl, by go_grown⟩
  · have HF : Hid (exEq t u = false) := exEq_false (by rintro rfl; exact e1 rfl)
    have h1 : (t.kind == u.kind) = false := by rw [beq_eq_false_iff_ne]; exact e1
    clear hk hk' ih e1 hm hm'
    generalize mkB t.txt = s at *
    generalize mkB u.txt = s' at *
    generalize t.kind = kk at *
    generalize u.kind = kk' at *
    generalize t.num = nn at *
    generalize u.num = nn' at *
    generalize t.kids.length = m at *
    generalize u.kids.length = m' at *
    go_enter Tryd.func39, Tryd.ntmps39
    go_wp2_with fail
    go_ret
    exact ⟨by rw [HF.out]; rfl, by go_grown⟩
theorem implExprSame_all (d : Nat) : QSame 39 d ∧ RSame d := by
  induction d with
  | zero => exact ⟨implExprSame_step 0 (equalFunc_step 0 fun d' h => by omega), equalFunc_step 0 fun d' h => by omega⟩
  | succ d ih =>
    have h : RSame (d + 1) := equalFunc_step (d + 1) fun d' h => by
      obtain rfl : d' = d := by omega
      exact ih.1
    exact ⟨implExprSame_step _ h, h⟩
end Go.Proofs.YtfjmjlpobbjjdaaDoor
