/- Walks over what is reckoned: eqExpr, ExprSame of the reference and of the program. -/
import Derived.Test.YtfjmjlpobbjjdaaDoorExTo
import Derived.Deep.Draws
namespace Go.Proofs.YtfjmjlpobbjjdaaDoor
open Go.RowKit Ilp
set_option linter.unusedVariables false

open Classical in
noncomputable def exEq (t u : Ex) : Bool := decide (t = u)
open Classical in
noncomputable def exsEq (t u : List Ex) : Bool := decide (t = u)
theorem exEq_true {t u : Ex} (h : t = u) : exEq t u = true := by simp [exEq, h]
theorem exEq_false {t u : Ex} (h : t ≠ u) : exEq t u = false := by simp [exEq, h]
theorem exsEq_true {t u : List Ex} (h : t = u) : exsEq t u = true := by simp [exsEq, h]
theorem exsEq_false {t u : List Ex} (h : t ≠ u) : exsEq t u = false := by simp [exsEq, h]
theorem exEq_kids {t u : Ex} (h1 : t.kind = u.kind) (h2 : t.num = u.num) (h3 : t.txt = u.txt) : exEq t u = exsEq t.kids u.kids := by
  by_cases h : t.kids = u.kids
  · rw [exsEq_true h, exEq_true]; cases t; cases u; simp_all [Ex.kind, Ex.num, Ex.txt, Ex.kids]
  · rw [exsEq_false h, exEq_false]; rintro rfl; exact h rfl
theorem exEq_iff {t u : Ex} : exEq t u = true ↔ t = u := by simp [exEq]
theorem ex_take_next {ts us : List Ex} {k : Nat} (h : ts.take k = us.take k) (h1 : k < ts.length) (h2 : k < us.length) (e : ts[k] = us[k]) : ts.take (k + 1) = us.take (k + 1) := by
  rw [List.take_succ_eq_append_getElem h1, List.take_succ_eq_append_getElem h2, h, e]
theorem ex_take_all {ts us : List Ex} {n : Nat} (h1 : ts.length = n) (h2 : us.length = n) (h : ts.take n = us.take n) : ts = us := by
  rw [List.take_of_length_le (by omega), List.take_of_length_le (by omega)] at h; exact h
theorem mkB_ne {a b : List UInt8} (h : a ≠ b) : ((mkB a).toList == (mkB b).toList) = false := by
  rw [beq_eq_false_iff_ne]; intro e; apply h
  rw [ByteArray.toList_eq, ByteArray.toList_eq, mkB_data, mkB_data] at e; exact e

def QEq (d : Nat) : Prop := ∀ (t : Ex) (A A' : Option Addr) (cap cap' : Nat) (w : World), Kids w (Low w) d A t.kids → Kids w (Low w) d A' t.kids → t.kids.length ≤ maxLen →
  Calls Tryd.prog 23 #[.agg #[.int .i64 t.kind, .int .i64 t.num, .string (mkB t.txt), .slice A t.kids.length cap], .agg #[.int .i64 t.kind, .int .i64 t.num, .string (mkB t.txt), .slice A' t.kids.length cap']] w fun e w' => e = .returned (.bool true) ∧ Below w.heap.size w w'
def REq (d : Nat) : Prop := ∀ (ks : List Ex) (A A' : Option Addr) (m cap cap' : Nat) (w : World), Kids w (Low w) d A ks → Kids w (Low w) d A' ks → Hid (ks.length = m) → m ≤ maxLen →
  Calls Tryd.prog 56 #[.slice A m cap, .slice A' m cap'] w fun e w' => e = .returned (.bool true) ∧ Below w.heap.size w w'
set_option maxHeartbeats 2000000 in
set_option maxRecDepth 20000 in
theorem eqExprS_step (d : Nat) (ih : ∀ d', d = d' + 1 → QEq d') : REq d := by
  intro ks A A' m cap cap' w hk hk' hl hm
  have hm' : (m : Int) ≤ 9223372036854775807 := by unfold maxLen at hm; omega
  have HK := Lib.hid hk
  have HK' := Lib.hid hk'
  have HIH := Lib.hid ih
  have hne : ((m : Int) != m) = false := by simp
  clear hk hk' ih hm
  go_enter Tryd.func56, Tryd.ntmps56
  go_wp2_with fail
  go_loopw [5] (fun v wr => ∃ k : Nat, v = .int .i64 (k : Int) ∧ k ≤ m ∧ Below w.heap.size w wr) (fun v _ => m - (intOf v).toNat)
  case atStart => exact ⟨0, rfl, Nat.zero_le _, Below.refl _ _⟩
  case round =>
    obtain ⟨k, rfl, hk, hbw⟩ := hrel
    have HB := Lib.hid hbw; clear hbw
    by_cases hlt : k < m
    · have hx : k < ks.length := by rw [hl.out]; exact hlt
      obtain ⟨b, o, A1, cap1, d1, rfl, hbb, hd1, c0, c1, c2, c3, g1, g2, g3, hkk⟩ := (HK.out.below HB.out).get hx
      obtain ⟨b', o', A2, cap2, d2, rfl, hbb', hd2, e0, e1, e2, e3, g1', g2', g3', hkk'⟩ := (HK'.out.below HB.out).get hx
      obtain rfl : d1 = d2 := by omega
      have cE : ∀ dd os, Calls Tryd.prog 23 #[.agg #[.int .i64 ks[k].kind, .int .i64 ks[k].num, .string (mkB ks[k].txt), .slice A1 ks[k].kids.length cap1], .agg #[.int .i64 ks[k].kind, .int .i64 ks[k].num, .string (mkB ks[k].txt), .slice A2 ks[k].kids.length cap2]] (Go.Sort.grow (redrawn wr dd) os) fun e w'' => e = .returned (.bool true) ∧ ∃ p : Regrown, w'' = Go.Sort.grow (redrawn wr p.d) p.os :=
        fun dd os => Calls.regrown_of (HIH.out d1 hd1 ks[k] A1 A2 cap1 cap2 _ (hkk.below (below_regrown _ _ _)) (hkk'.below (below_regrown _ _ _)) (by omega))
      obtain ⟨x, ex⟩ : ∃ x, x = ks[k] := ⟨_, rfl⟩
      rw [← ex] at c0 c1 c2 c3 e0 e1 e2 e3
      simp only [← ex] at cE
      have CE := Lib.hid cE
      have q0 := cell_regrown c0
      have q1 := cell_regrown c1
      have q2 := cell_regrown c2
      have q3 := cell_regrown c3
      have r0 := cell_regrown e0
      have r1 := cell_regrown e1
      have r2 := cell_regrown e2
      have r3 := cell_regrown e3
      have h0 : (0 : Int) ≤ (k : Int) := by omega
      have h1 : (k : Int) < (m : Int) := by omega
      clear cE ex hx g1 g2 g3 g1' g2' g3' hkk hkk' hd1 hd2
      go_wp2_with fail
      refine wp_region_quiet_below (by kernel_rfl) (by kernel_rfl) ?_
      repeat (go_big_quiet_step (with_reducible exact CE.out _ _))
      refine wpQuiet_nil ?_
      intro w5 hw'
      have hb5 : Below wr.heap.size wr w5 := by obtain ⟨⟨dq, osq⟩, rfl⟩ := hw'; exact below_regrown _ _ _
      have HB5 : Hid (Below w.heap.size w w5) := HB.out.trans (hb5.mono HB.out.size)
      clear hw' hb5 c0 c1 c2 c3 e0 e1 e2 e3 q0 q1 q2 q3 r0 r1 r2 r3
      go_wp2_with fail
      go_roundw
      case rel => exact ⟨k + 1, by go_num, by omega, HB5.out⟩
      case measure => simp [intOf]; omega
    · obtain rfl : k = m := by omega
      go_wp2_with fail
      go_ret
      exact ⟨rfl, HB.out⟩
set_option maxHeartbeats 2000000 in
set_option maxRecDepth 20000 in
theorem eqExpr_step (d : Nat) (ih : REq d) : QEq d := by
  intro t A A' cap cap' w hk hk' hm
  have C := fun W (h : Below w.heap.size w W) => ih t.kids A A' t.kids.length cap cap' W (hk.below h) (hk'.below h) rfl hm
  have HC := Lib.hid C
  have h1 : (t.kind != t.kind) = false := by simp
  have h2 : (t.num != t.num) = false := by simp
  have h3 : ((mkB t.txt).toList == (mkB t.txt).toList) = true := by simp
  clear C hk hk' ih
  generalize t.kids.length = m at *
  generalize mkB t.txt = s at *
  generalize t.kind = kk at *
  generalize t.num = nn at *
  go_enter Tryd.func23, Tryd.ntmps23
  go_wp2_with fail
  refine (HC.out _ (by go_grown)).mono ?_
  rintro e w1 ⟨rfl, hb1⟩
  have HB1 : Hid (Below w.heap.size w w1) := Below.trans (by go_grown) (hb1.mono (by simp; omega))
  clear hb1
  go_wp2_with fail
  go_ret
  exact ⟨rfl, HB1.out⟩
theorem eqExpr_all (d : Nat) : QEq d ∧ REq d := by
  induction d with
  | zero => exact ⟨eqExpr_step 0 (eqExprS_step 0 fun d' h => by omega), eqExprS_step 0 fun d' h => by omega⟩
  | succ d ih =>
    have h : REq (d + 1) := eqExprS_step (d + 1) fun d' h => by
      obtain rfl : d' = d := by omega
      exact ih.1
    exact ⟨eqExpr_step _ h, h⟩

/-- ExprSame, as a function F of the dump has it. -/
def QSame (F : FuncId) (d : Nat) : Prop := ∀ (t u : Ex) (A A' : Option Addr) (cap cap' : Nat) (w : World), Kids w (Low w) d A t.kids → Kids w (Low w) d A' u.kids → t.kids.length ≤ maxLen → u.kids.length ≤ maxLen →
  Calls Tryd.prog F #[.agg #[.int .i64 t.kind, .int .i64 t.num, .string (mkB t.txt), .slice A t.kids.length cap], .agg #[.int .i64 u.kind, .int .i64 u.num, .string (mkB u.txt), .slice A' u.kids.length cap']] w fun e w' => e = .returned (.bool (exEq t u)) ∧ Below w.heap.size w w'

set_option maxHeartbeats 4000000 in
set_option maxRecDepth 20000 in
theorem specExprSame_step (d : Nat) (ih : ∀ d', d = d' + 1 → QSame 40 d') : QSame 40 d := by
  intro t u A A' cap cap' w hk hk' hm hm'
  have hmI : (t.kids.length : Int) ≤ 9223372036854775807 := by unfold maxLen at hm; omega
  have hmI' : (u.kids.length : Int) ≤ 9223372036854775807 := by unfold maxLen at hm'; omega
  by_cases e1 : t.kind = u.kind
  · by_cases e2 : t.num = u.num
    · by_cases e3 : t.txt = u.txt
      · by_cases e4 : t.kids.length = u.kids.length
        · have HE := Lib.hid (exEq_kids e1 e2 e3)
          rw [← e1, ← e2, ← e3, ← e4]
          have HK := Lib.hid hk
          have HK' := Lib.hid hk'
          have HIH := Lib.hid ih
          have h1 : (t.kind != t.kind) = false := by simp
          have h2 : (t.num != t.num) = false := by simp
          have h3 : ((mkB t.txt).toList == (mkB t.txt).toList) = true := by simp
          have hl'0 := e4.symm
          have h5 : ((t.kids.length : Int) != (t.kids.length : Int)) = false := by simp
          generalize hml : t.kids.length = m at *
          have hl : Hid (t.kids.length = m) := hml
          have hl' : Hid (u.kids.length = m) := hl'0
          clear hl'0
          clear hml hk hk' ih e1 e2 e3 e4 hmI' hm hm'
          generalize mkB t.txt = s at *
          generalize t.kind = kk at *
          generalize t.num = nn at *
          go_enter Tryd.func40, Tryd.ntmps40
          go_wp2_with fail
          have hA : Blk ((w.alloc (.cells #[.int .i64 kk, .int .i64 nn, .string s, .slice A m cap] 25)).alloc (.cells #[.int .i64 kk, .int .i64 nn, .string s, .slice A' m cap'] 25)) w.heap.size 25 [.int .i64 kk, .int .i64 nn, .string s, .slice A m cap] := (Blk.alloc_ w 25 [.int .i64 kk, .int .i64 nn, .string s, .slice A m cap]).alloc _
          have hB : Blk ((w.alloc (.cells #[.int .i64 kk, .int .i64 nn, .string s, .slice A m cap] 25)).alloc (.cells #[.int .i64 kk, .int .i64 nn, .string s, .slice A' m cap'] 25)) (w.heap.size + 1) 25 [.int .i64 kk, .int .i64 nn, .string s, .slice A' m cap'] := by
            have := Blk.alloc_ (w.alloc (.cells #[.int .i64 kk, .int .i64 nn, .string s, .slice A m cap] 25)) 25 [.int .i64 kk, .int .i64 nn, .string s, .slice A' m cap']
            simpa using this
          have hb0 : Below w.heap.size w ((w.alloc (.cells #[.int .i64 kk, .int .i64 nn, .string s, .slice A m cap] 25)).alloc (.cells #[.int .i64 kk, .int .i64 nn, .string s, .slice A' m cap'] 25)) := by go_grown
          generalize ((w.alloc (.cells #[.int .i64 kk, .int .i64 nn, .string s, .slice A m cap] 25)).alloc (.cells #[.int .i64 kk, .int .i64 nn, .string s, .slice A' m cap'] 25)) = w0 at *
          have HA := Lib.hid hA
          have HB0 := Lib.hid hB
          have HW0 := Lib.hid hb0
          clear hA hB hb0
          go_loopw [5] (fun v wr => ∃ k : Nat, v = .int .i64 (k : Int) ∧ k ≤ m ∧ Hid (t.kids.take k = u.kids.take k) ∧ Below w0.heap.size w0 wr) (fun v _ => m - (intOf v).toNat)
          case atStart => exact ⟨0, rfl, Nat.zero_le _, rfl, Below.refl _ _⟩
          case round =>
            obtain ⟨k, rfl, hk, htk, hbw⟩ := hrel
            have HB := Lib.hid hbw
            have a3 := (HA.out.below hbw HA.out.lt).cell 3
            have b3 := (HB0.out.below hbw HB0.out.lt).cell 3
            simp only [List.getElem?_cons_zero, List.getElem?_cons_succ] at a3 b3
            clear hbw
            by_cases hlt : k < m
            · have hx : k < t.kids.length := by rw [hl.out]; exact hlt
              have hx' : k < u.kids.length := by rw [hl'.out]; exact hlt
              have HBw : Below w.heap.size w wr := HW0.out.trans (HB.out.mono HW0.out.size)
              obtain ⟨b, o, A1, cap1, d1, rfl, hbb, hd1, c0, c1, c2, c3, g1, g2, g3, hkk⟩ := (HK.out.below HBw).get hx
              obtain ⟨b', o', A2, cap2, d2, rfl, hbb', hd2, e0, e1, e2, e3, g1', g2', g3', hkk'⟩ := (HK'.out.below HBw).get hx'
              obtain rfl : d1 = d2 := by omega
              have cE : ∀ dd os, Calls Tryd.prog 40 #[.agg #[.int .i64 t.kids[k].kind, .int .i64 t.kids[k].num, .string (mkB t.kids[k].txt), .slice A1 t.kids[k].kids.length cap1], .agg #[.int .i64 u.kids[k].kind, .int .i64 u.kids[k].num, .string (mkB u.kids[k].txt), .slice A2 u.kids[k].kids.length cap2]] (Go.Sort.grow (redrawn wr dd) os) fun e w'' => e = .returned (.bool (exEq t.kids[k] u.kids[k])) ∧ ∃ p : Regrown, w'' = Go.Sort.grow (redrawn wr p.d) p.os :=
                fun dd os => Calls.regrown_of (HIH.out d1 hd1 t.kids[k] u.kids[k] A1 A2 cap1 cap2 _ (hkk.below (below_regrown _ _ _)) (hkk'.below (below_regrown _ _ _)) (by omega) (by omega))
              have HX := Lib.hid (fun e : t.kids[k] = u.kids[k] => ex_take_next htk.out hx hx' e)
              have HX2 : Hid (t.kids[k] ≠ u.kids[k] → t.kids ≠ u.kids) := fun h e => h (by simp only [e])
              obtain ⟨x, ex⟩ : ∃ x, x = t.kids[k] := ⟨_, rfl⟩
              obtain ⟨y, ey⟩ : ∃ y, y = u.kids[k] := ⟨_, rfl⟩
              rw [← ex] at c0 c1 c2 c3 HX HX2
              rw [← ey] at e0 e1 e2 e3 HX HX2
              simp only [← ex, ← ey] at cE
              have CE := Lib.hid cE
              have q0 := cell_regrown c0
              have q1 := cell_regrown c1
              have q2 := cell_regrown c2
              have q3 := cell_regrown c3
              have r0 := cell_regrown e0
              have r1 := cell_regrown e1
              have r2 := cell_regrown e2
              have r3 := cell_regrown e3
              have z3 := cell_regrown a3
              have y3 := cell_regrown b3
              have h0 : (0 : Int) ≤ (k : Int) := by omega
              have h1 : (k : Int) < (m : Int) := by omega
              clear cE ex ey hx hx' g1 g2 g3 g1' g2' g3' hkk hkk' hd1 hd2 HBw
              cases heq : exEq x y with
              | true =>
                have HT := Lib.hid (HX.out (exEq_iff.1 heq))
                have HQ := Lib.hid heq
                rw [heq] at CE
                clear heq
                go_wp2_with fail
                refine wp_region_quiet_below (by kernel_rfl) (by kernel_rfl) ?_
                repeat (go_big_quiet_step (with_reducible exact CE.out _ _))
                refine wpQuiet_nil ?_
                intro w5 hw'
                have hb5 : Below wr.heap.size wr w5 := by obtain ⟨⟨dq, osq⟩, rfl⟩ := hw'; exact below_regrown _ _ _
                have HB5 : Hid (Below w0.heap.size w0 w5) := HB.out.trans (hb5.mono HB.out.size)
                clear hw' hb5 c0 c1 c2 c3 e0 e1 e2 e3 q0 q1 q2 q3 r0 r1 r2 r3 a3 b3 z3 y3
                go_wp2_with fail
                go_roundw
                case rel => exact ⟨k + 1, by go_num, by omega, HT.out, HB5.out⟩
                case measure => simp [intOf]; omega
              | false =>
                have HF : Hid (exEq t u = false) := by
                  unfold Hid
                  rw [HE.out]
                  exact exsEq_false (HX2.out (fun e => by rw [exEq_true e] at heq; cases heq))
                rw [heq] at CE
                clear heq
                go_wp2_with fail
                refine wp_region_quiet_below (by kernel_rfl) (by kernel_rfl) ?_
                repeat (go_big_quiet_step (with_reducible exact CE.out _ _))
                refine wpQuiet_nil ?_
                intro w5 hw'
                have hb5 : Below wr.heap.size wr w5 := by obtain ⟨⟨dq, osq⟩, rfl⟩ := hw'; exact below_regrown _ _ _
                have HB5 : Hid (Below w.heap.size w w5) := HW0.out.trans ((HB.out.trans (hb5.mono HB.out.size)).mono HW0.out.size)
                clear hw' hb5 c0 c1 c2 c3 e0 e1 e2 e3 q0 q1 q2 q3 r0 r1 r2 r3 a3 b3 z3 y3
                go_wp2_with fail
                go_ret
                exact ⟨by rw [HF.out]; rfl, HB5.out⟩
            · obtain rfl : k = m := by omega
              have HT : Hid (exEq t u = true) := by
                unfold Hid; rw [HE.out]; exact exsEq_true (ex_take_all hl.out hl'.out htk.out)
              go_wp2_with fail
              go_ret
              exact ⟨by rw [HT.out]; rfl, HW0.out.trans (HB.out.mono HW0.out.size)⟩
        · have HF : Hid (exEq t u = false) := exEq_false (by rintro rfl; exact e4 rfl)
          rw [← e1, ← e2, ← e3]
          have h1 : (t.kind != t.kind) = false := by simp
          have h2 : (t.num != t.num) = false := by simp
          have h3 : ((mkB t.txt).toList == (mkB t.txt).toList) = true := by simp
          have h5 : ((t.kids.length : Int) != (u.kids.length : Int)) = true := by rw [bne_iff_ne]; omega
          clear hk hk' ih e1 e2 e3 e4 hm hm'
          generalize mkB t.txt = s at *
          generalize t.kind = kk at *
          generalize t.num = nn at *
          generalize t.kids.length = m at *
          generalize u.kids.length = m' at *
          go_enter Tryd.func40, Tryd.ntmps40
          go_wp2_with fail
          go_ret
          exact ⟨by rw [HF.out]; rfl, by go_grown⟩
      · have HF : Hid (exEq t u = false) := exEq_false (by rintro rfl; exact e3 rfl)
        rw [← e1, ← e2]
        have h1 : (t.kind != t.kind) = false := by simp
        have h2 : (t.num != t.num) = false := by simp
        have h3 := mkB_ne e3
        clear hk hk' ih e1 e2 e3 hm hm'
        generalize mkB t.txt = s at *
        generalize mkB u.txt = s' at *
        generalize t.kind = kk at *
        generalize t.num = nn at *
        generalize t.kids.length = m at *
        generalize u.kids.length = m' at *
        go_enter Tryd.func40, Tryd.ntmps40
        go_wp2_with fail
        go_ret
        exact ⟨by rw [HF.out]; rfl, by go_grown⟩
    · have HF : Hid (exEq t u = false) := exEq_false (by rintro rfl; exact e2 rfl)
      rw [← e1]
      have h1 : (t.kind != t.kind) = false := by simp
      have h2 : (t.num != u.num) = true := by rw [bne_iff_ne]; exact e2
      clear hk hk' ih e1 e2 hm hm'
      generalize mkB t.txt = s at *
      generalize mkB u.txt = s' at *
      generalize t.kind = kk at *
      generalize t.num = nn at *
      generalize u.num = nn' at *
      generalize t.kids.length = m at *
      generalize u.kids.length = m' at *
      go_enter Tryd.func40, Tryd.ntmps40
      go_wp2_with fail
      go_ret
      exact ⟨by rw [HF.out]; rfl, by go_grown⟩
  · have HF : Hid (exEq t u = false) := exEq_false (by rintro rfl; exact e1 rfl)
    have h1 : (t.kind != u.kind) = true := by rw [bne_iff_ne]; exact e1
    clear hk hk' ih e1 hm hm'
    generalize mkB t.txt = s at *
    generalize mkB u.txt = s' at *
    generalize t.kind = kk at *
    generalize u.kind = kk' at *
    generalize t.num = nn at *
    generalize u.num = nn' at *
    generalize t.kids.length = m at *
    generalize u.kids.length = m' at *
    go_enter Tryd.func40, Tryd.ntmps40
    go_wp2_with fail
    go_ret
    exact ⟨by rw [HF.out]; rfl, by go_grown⟩
theorem specExprSame_all (d : Nat) : QSame 40 d := by
  induction d with
  | zero => exact specExprSame_step 0 fun d' h => by omega
  | succ d ih =>
    exact specExprSame_step (d + 1) fun d' h => by
      obtain rfl : d' = d := by omega
      exact ih
end Go.Proofs.YtfjmjlpobbjjdaaDoor
