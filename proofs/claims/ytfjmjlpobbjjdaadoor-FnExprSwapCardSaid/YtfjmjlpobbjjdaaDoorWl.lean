/- Walks of the program: ExprOk. -/
import Derived.Test.YtfjmjlpobbjjdaaDoorWk
import Derived.Deep.Cut
import Derived.Deep.CutBlock
import Derived.Deep.DeepCutAuto
namespace Go.Proofs.YtfjmjlpobbjjdaaDoor
open Go.RowKit Ilp
set_option linter.unusedVariables false

/-- Behind the count: the boxes of the arguments, the count. -/
structure WkB (W : World) (P p : Nat) (D k n : Int) (g : ByteArray) (A : Option Addr) (l c : Nat) (w4 : World) : Prop where
  be : Blk w4 W.heap.size 25 [.int .i64 k, .int .i64 n, .string g, .slice A l c]
  bd : Blk w4 (W.heap.size + 1) 3 [.int .i64 D]
  bp : Blk w4 (W.heap.size + 1 + 1) 76 [.pointer (some ⟨P, 0, none⟩)]
  bc : Blk w4 P 3 [.int .i64 ((p : Int) + 1)]
  kp : Keep P W w4
theorem WkB.next {W w4 w5 : World} {P p : Nat} {D k n : Int} {g : ByteArray} {A : Option Addr} {l c : Nat} (h : WkB W P p D k n g A l c w4) (hb : Below w4.heap.size w4 w5) : WkB W P p D k n g A l c w5 :=
  ⟨h.be.below hb h.be.lt, h.bd.below hb h.bd.lt, h.bp.below hb h.bp.lt, h.bc.below hb h.bc.lt, h.kp.trans (Keep.of hb)⟩
theorem wkB_start (W : World) (P p : Nat) (D k n : Int) (g : ByteArray) (A : Option Addr) (l c : Nat) (h : Blk W P 3 [.int .i64 (p : Int)]) : WkB W P p D k n g A l c ((((W.alloc (.cells #[.int .i64 k, .int .i64 n, .string g, .slice A l c] 25)).alloc (.cells #[.int .i64 D] 3)).alloc (.cells #[.pointer (some ⟨P, 0, none⟩)] 76)).setCell ⟨P, 0, none⟩ (.int .i64 ((p : Int) + 1))) := by
  have hP := h.lt
  have n0 : W.heap.size ≠ P := by omega
  have n1 : W.heap.size + 1 ≠ P := by omega
  have n2 : W.heap.size + 1 + 1 ≠ P := by omega
  refine ⟨?_, ?_, ?_, ?_, ?_⟩
  · exact Blk.far (((Blk.alloc_ W 25 [.int .i64 k, .int .i64 n, .string g, .slice A l c]).alloc _).alloc _) n0 _
  · have := (Blk.alloc_ (W.alloc (.cells #[.int .i64 k, .int .i64 n, .string g, .slice A l c] 25)) 3 [.int .i64 D]).alloc (.cells #[.pointer (some ⟨P, 0, none⟩)] 76)
    simp only [World.size_alloc] at this
    exact Blk.far this n1 _
  · have := Blk.alloc_ ((W.alloc (.cells #[.int .i64 k, .int .i64 n, .string g, .slice A l c] 25)).alloc (.cells #[.int .i64 D] 3)) 76 [.pointer (some ⟨P, 0, none⟩)]
    simp only [World.size_alloc] at this
    exact Blk.far this n2 _
  · exact (((h.alloc _).alloc _).alloc _).put 0 (.int .i64 ((p : Int) + 1))
  · refine Keep.trans (Keep.of ?_) ((Keep.refl P _).set 0 _)
    go_grown

set_option maxHeartbeats 4000000 in
set_option maxRecDepth 20000 in
theorem walk_zero : WalkQ 0 := by
  intro p P D k n g A l c t W0 W h hw hT hS hp hD
  have hB := wkB_start W P p D k n g A l c hS.blk
  have c0 := (((hS.blk.alloc (.cells #[.int .i64 k, .int .i64 n, .string g, .slice A l c] 25)).alloc (.cells #[.int .i64 D] 3)).alloc (.cells #[.pointer (some ⟨P, 0, none⟩)] 76)).cell 0
  have f0 := (((hS.blk.alloc (.cells #[.int .i64 k, .int .i64 n, .string g, .slice A l c] 25)).alloc (.cells #[.int .i64 D] 3)).alloc (.cells #[.pointer (some ⟨P, 0, none⟩)] 76)).frozen 0
  simp only [List.getElem?_cons_zero] at c0
  have HB := Lib.hid hB
  have hp' : (p : Int) ≤ 12 := by omega
  obtain rfl : D = 6 := by simpa using hD
  rw [wk_zero]
  clear h hw hT hS hp hD hB
  go_enter Tryd.func66, Tryd.ntmps66
  go_upto_region 2 with (fail)
  generalize (((W.alloc (.cells #[.int .i64 k, .int .i64 n, .string g, .slice A l c] 25)).alloc (.cells #[.int .i64 6] 3)).alloc (.cells #[.pointer (some ⟨P, 0, none⟩)] 76)).setCell ⟨P, 0, none⟩ (.int .i64 ((p : Int) + 1)) = w4 at *
  have d0 := HB.out.bd.cell 0
  simp only [List.getElem?_cons_zero] at d0
  have R : WkR false (p + 1) P W (.returned (.bool false)) w4 := ⟨rfl, by have := HB.out.bc; rw [show ((p + 1 : Nat) : Int) = (p : Int) + 1 by omega]; exact this, HB.out.kp⟩
  have HR := Lib.hid R
  clear R c0 f0
  go_wp2_with fail
  go_ret
  exact HR.out

set_option maxHeartbeats 8000000 in
set_option maxRecDepth 20000 in
theorem walk_step (d : Nat) (hd5 : (d : Int) ≤ 10) (ih : ConQ d) : WalkQ (d + 1) := by
  intro p P D k n g A l c t W0 W h hw hT hS hp hD
  have hB := wkB_start W P p D k n g A l c hS.blk
  have c0 := (((hS.blk.alloc (.cells #[.int .i64 k, .int .i64 n, .string g, .slice A l c] 25)).alloc (.cells #[.int .i64 D] 3)).alloc (.cells #[.pointer (some ⟨P, 0, none⟩)] 76)).cell 0
  have f0 := (((hS.blk.alloc (.cells #[.int .i64 k, .int .i64 n, .string g, .slice A l c] 25)).alloc (.cells #[.int .i64 D] 3)).alloc (.cells #[.pointer (some ⟨P, 0, none⟩)] 76)).frozen 0
  simp only [List.getElem?_cons_zero] at c0
  have HB := Lib.hid hB
  have HS := Lib.hid hS
  have hp' : (p : Int) ≤ 12 := by omega
  have hD1 : D ≤ 5 := by omega
  have hD0 : -10 ≤ D := by omega
  have HD : Hid (D = 5 - (d : Int)) := by unfold Hid; omega
  obtain ⟨q1, q2, q3, q4, h5, h6, h7, dd, hk⟩ := h.parts
  have hgs : (g.size : Int) ≤ 1048576 := by have := wgt_eq t; rw [q3, mkB_size]; omega
  have hsd : g.data.toList = t.txt := by rw [q3, mkB_data]
  have hgl : g.data.toList = g.toList := (ByteArray.toList_eq g).symm
  have HFS : Hid (wk (d + 1) p t = if 12 < p + 1 then (false, p + 1) else if (okK k n g.data.toList && (l == kidsN k)) = true then kidsW d (p + 1) t.kids else (false, p + 1)) := by unfold Hid; rw [wk_step, hsd, q1, q2, q4]
  have HK := Lib.hid hk
  have HL : Hid (t.kids.length = l) := q4.symm
  have HW : Hid (wgts t.kids ≤ 1048576) := by have := wgt_eq t; unfold Hid; omega
  have HTW := Lib.hid hT
  have hlm : (l : Int) ≤ 9223372036854775807 := by unfold maxLen at h6; rw [q4]; omega
  have HIH := Lib.hid ih
  have HN := Lib.hid (fun w h => implName g w h hgs)
  have HO := Lib.hid (fun w => implTight g w)
  have HY := Lib.hid (fun w => implType g w)
  rw [hgl] at HFS
  simp only [hgl] at HN HO HY
  clear h hw hT hS hD hB ih q1 q2 q3 q4 h5 h6 h7 hk hgs hsd hgl
  go_enter Tryd.func66, Tryd.ntmps66
  go_upto_region 2 with (fail)
  generalize (((W.alloc (.cells #[.int .i64 k, .int .i64 n, .string g, .slice A l c] 25)).alloc (.cells #[.int .i64 D] 3)).alloc (.cells #[.pointer (some ⟨P, 0, none⟩)] 76)).setCell ⟨P, 0, none⟩ (.int .i64 ((p : Int) + 1)) = w4 at *
  have d0 := HB.out.bd.cell 0
  have d1 := HB.out.bp.cell 0
  have d2 := HB.out.bc.cell 0
  simp only [List.getElem?_cons_zero] at d0 d1 d2
  clear c0 f0
  by_cases hp2 : 12 < p + 1
  · have R : WkR (wk (d + 1) p t).1 (wk (d + 1) p t).2 P W (.returned (.bool false)) w4 := by
      rw [HFS.out, if_pos hp2]
      exact ⟨rfl, by have := HB.out.bc; rw [show ((p + 1 : Nat) : Int) = (p : Int) + 1 by omega]; exact this, HB.out.kp⟩
    have HR := Lib.hid R
    have hp3 : (12 : Int) < (p : Int) + 1 := by omega
    clear R
    go_wp2_with fail
    go_ret
    exact HR.out
  · have hp3 : (p : Int) + 1 ≤ 12 := by omega
    have HP : Hid (p + 1 ≤ 12) := by unfold Hid; omega
    have HFS2 : Hid (wk (d + 1) p t = if (okK k n g.toList && (l == kidsN k)) = true then kidsW d (p + 1) t.kids else (false, p + 1)) := by unfold Hid; rw [HFS.out, if_neg hp2]
    clear HFS hp2
    have a0 := HB.out.be.cell 0
    have a1 := HB.out.be.cell 1
    have a2 := HB.out.be.cell 2
    have a3 := HB.out.be.cell 3
    simp only [List.getElem?_cons_zero, List.getElem?_cons_succ] at a0 a1 a2 a3
    have HT4 : Hid (Tabs w4) := HTW.out.keep (HS.out.be.trans (HB.out.kp.below HS.out.lt HS.out.be.size))
    go_upto_block 0 with (fail)
    go_cut [7] (fun s7 wc => s7 = .bool (okK k n g.toList && ((l : Int) == (kidsN k : Int))) ∧ Below w4.heap.size w4 wc)
    case first =>
      by_cases k1 : k = 1
      · subst k1
        go_wp2_with (first | (go_at_call 87; refine (inS _ _ _ _).mono ?_; rintro e w1 ⟨rfl, rfl⟩))
        all_goals (go_meet; refine ⟨?_, Below.refl _ _⟩; simp_all [okK, kidsN] <;> (intros; omega))
      · by_cases k2 : k = 2
        · subst k2
          by_cases hn : n = 0
          · subst hn
            go_wp2_with (first | (go_at_call 96; refine (HN.out w4 HT4.out).mono ?_; rintro e w5 ⟨rfl, hb5⟩; have b3 := (HB.out.next hb5).be.cell 3; have HB5 := Lib.hid hb5; clear hb5; simp only [List.getElem?_cons_zero, List.getElem?_cons_succ] at b3))
            all_goals (go_meet; refine ⟨?_, HB5.out⟩; simp_all [okK, kidsN])
          · go_wp2_with fail
            all_goals (go_meet; refine ⟨?_, Below.refl _ _⟩; simp_all [okK, kidsN])
        · by_cases k3 : k = 3
          · subst k3
            by_cases hn : n = 0
            · subst hn
              have hto := tight_op g.toList
              have htn : (0 : Int) ≤ (tight g.toList : Int) := by omega
              by_cases hop : isOp g.toList = true
              · have htp : (0 : Int) < (tight g.toList : Int) := by have : 0 < tight g.toList := by rw [hto]; exact hop
                                                                    omega
                clear hto
                generalize tight g.toList = tt at *
                go_wp2_with (first | (go_at_call 81; refine (HO.out _).mono ?_; rintro e w1 ⟨rfl, rfl⟩))
                all_goals (go_meet; refine ⟨?_, Below.refl _ _⟩; simp_all [okK, kidsN, opOf_isOp] <;> (intros; omega))
              · have htp : tight g.toList = 0 := by
                  rcases Nat.eq_zero_or_pos (tight g.toList) with h | h
                  · exact h
                  · have h' : 0 < tight g.toList := h
                    rw [hto] at h'; exact absurd h' hop
                rw [htp] at HO
                clear hto htp htn
                go_wp2_with (first | (go_at_call 81; refine (HO.out _).mono ?_; rintro e w1 ⟨rfl, rfl⟩))
                all_goals (go_meet; refine ⟨?_, Below.refl _ _⟩; simp_all [okK, kidsN, opOf_isOp])
            · go_wp2_with fail
              all_goals (go_meet; refine ⟨?_, Below.refl _ _⟩; simp_all [okK, kidsN])
          · by_cases k4 : k = 4
            · subst k4
              by_cases hn : n = 0
              · subst hn
                go_wp2_with (first | (go_at_call 52; refine (HY.out _).mono ?_; rintro e w1 ⟨rfl, rfl⟩))
                all_goals (go_meet; refine ⟨?_, Below.refl _ _⟩; simp_all [okK, kidsN])
              · go_wp2_with fail
                all_goals (go_meet; refine ⟨?_, Below.refl _ _⟩; simp_all [okK, kidsN])
            · go_wp2_with fail
              all_goals (go_meet; refine ⟨?_, Below.refl _ _⟩; simp_all [okK, kidsN])
    case rest =>
      obtain ⟨rfl, hbw⟩ := hcut
      have HBc := Lib.hid (HB.out.next hbw)
      clear hbw a0 a1 a2 a3 d0 d1 d2 HT4
      have hlk : ((l : Int) == (kidsN k : Int)) = (l == kidsN k) := by rw [Bool.eq_iff_iff, beq_iff_eq, beq_iff_eq]; omega
      rw [hlk]
      generalize (okK k n g.toList && (l == kidsN k)) = ok at *
      cases ok with
      | false =>
        have R : WkR (wk (d + 1) p t).1 (wk (d + 1) p t).2 P W (.returned (.bool false)) wc := by
          rw [HFS2.out, if_neg (by simp)]
          exact ⟨rfl, by have := HBc.out.bc; rw [show ((p + 1 : Nat) : Int) = (p : Int) + 1 by omega]; exact this, HBc.out.kp⟩
        have HR := Lib.hid R
        clear R
        go_wp2_with fail
        go_ret
        exact HR.out
      | true =>
        have HFS3 : Hid (wk (d + 1) p t = kidsW d (p + 1) t.kids) := by unfold Hid; rw [HFS2.out, if_pos rfl]
        have a3 := HBc.out.be.cell 3
        simp only [List.getElem?_cons_zero, List.getElem?_cons_succ] at a3
        have hSc : WkS W0 P (p + 1) wc := HS.out.step (by have := HBc.out.bc; rw [show ((p + 1 : Nat) : Int) = (p : Int) + 1 by omega]; exact this) HBc.out.kp
        have n4 : Hid (W.heap.size + 1 ≠ P) := by have := HS.out.blk.lt; unfold Hid; omega
        have n5 : Hid (W.heap.size + 1 + 1 ≠ P) := by have := HS.out.blk.lt; unfold Hid; omega
        have HC := Lib.hid (HIH.out (p + 1) P (W.heap.size + 1) (W.heap.size + 1 + 1) D A l c dd t.kids W0 wc HK.out HL HW HTW hSc HP HD HBc.out.bd HBc.out.bp n4 n5)
        unfold WkR at HC
        clear HFS2 hSc n4 n5 HIH
        go_wp2_with fail
        refine HC.out.mono ?_
        rintro e w5 ⟨rfl, hb5, hk5⟩
        have R : WkR (wk (d + 1) p t).1 (wk (d + 1) p t).2 P W (.returned (.bool (wk (d + 1) p t).1)) w5 := ⟨rfl, by rw [HFS3.out]; exact hb5, HBc.out.kp.trans hk5⟩
        have hnn : (!!(wk (d + 1) p t).1) = (wk (d + 1) p t).1 := by simp
        rw [HFS3.out] at R hnn
        have HR := Lib.hid R
        have HR2 : Hid (wk (d + 1) p t = kidsW d (p + 1) t.kids) := HFS3
        clear hb5 hk5 R
        generalize kidsW d (p + 1) t.kids = kw at *
        obtain ⟨kb, kn⟩ := kw
        simp only at *
        go_wp2_with fail
        go_ret
        rw [HR2.out]
        exact HR.out
theorem walk_all : ∀ d : Nat, (d : Int) ≤ 10 → WalkQ d := by
  intro d
  induction d with
  | zero => intro _; exact walk_zero
  | succ d ih => intro h; exact walk_step d (by omega) (con_step d (idx_step d (clo_step d (by omega) (ih (by omega)))))

set_option maxHeartbeats 1000000 in
set_option maxRecDepth 20000 in
theorem implExprOk (k n : Int) (g : ByteArray) (A : Option Addr) (l c : Nat) (t : Ex) (W : World) (h : IsEV W [.int .i64 k, .int .i64 n, .string g, .slice A l c] t) (hw : wgt t ≤ 1048576) (hT : Tabs W) :
    Calls Tryd.prog 34 #[.agg #[.int .i64 k, .int .i64 n, .string g, .slice A l c]] W fun e w' => e = .returned (.bool (exprOk t)) ∧ Below W.heap.size W w' := by
  have HO := Lib.hid (wk_ok t)
  have hb0 : Below W.heap.size W ((W.alloc (.cells #[.int .i64 k, .int .i64 n, .string g, .slice A l c] 25)).alloc (.cells #[.int .i64 0] 3)) := by go_grown
  have hbl : Blk ((W.alloc (.cells #[.int .i64 k, .int .i64 n, .string g, .slice A l c] 25)).alloc (.cells #[.int .i64 0] 3)) (W.heap.size + 1) 3 [.int .i64 ((0 : Nat) : Int)] := by
    have := Blk.alloc_ (W.alloc (.cells #[.int .i64 k, .int .i64 n, .string g, .slice A l c] 25)) 3 [.int .i64 0]
    simpa using this
  have HC := Lib.hid (walk_all 5 (by omega) 0 (W.heap.size + 1) 1 k n g A l c t W _ h hw hT ⟨hb0, by omega, hbl⟩ (by omega) (by omega))
  have HB0 := Lib.hid hb0
  unfold WkR at HC
  clear h hw hT hb0 hbl
  go_enter Tryd.func34, Tryd.ntmps34
  go_wp2_with fail
  refine HC.out.mono ?_
  rintro e w1 ⟨rfl, hb1, hk1⟩
  have R : Below W.heap.size W w1 := HB0.out.trans (hk1.below (by omega) (by simp; omega))
  have HR := Lib.hid R
  rw [HO.out]
  clear hb1 hk1 R
  go_wp2_with fail
  go_ret
  exact ⟨rfl, HR.out⟩
end Go.Proofs.YtfjmjlpobbjjdaaDoor
