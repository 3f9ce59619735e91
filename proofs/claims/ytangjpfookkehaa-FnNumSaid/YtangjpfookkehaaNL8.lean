/- The walk of FnNum. -/
import Derived.Test.YtangjpfookkehaaN6
import Derived.Test.YtangjpfookkehaaDrawT2
import Derived.Lib.QuietBelow
namespace Go.Proofs.Ytangjpfookkehaa
open Go.RowKit Ilp Go.Sort
set_option linter.unusedVariables false

theorem numOk_not {n : Int} (h : numOk n = false) : n < -1000000 ∨ 1000000 < n := by simp [numOk] at h; omega

set_option maxHeartbeats 8000000 in
set_option maxRecDepth 20000 in
theorem law_FnNum (a : Option Addr) (n c : Nat) (z : List Int) (a' : Option Addr) (n' c' : Nat) (z' : List Int) (w : World) (hz : IsRow .u8 w a n c z) (hz' : IsRow .u8 w a' n' c' z') :
    Calls Try.prog 12 #[.slice a n c, .slice a' n' c'] w fun e w' => e = .returned (.bool true) ∧ Below w.heap.size w w' := by
  obtain ⟨_, _, hnc, hn, hc, _⟩ := hz.row
  obtain ⟨_, _, hnc', hn', hc', _⟩ := hz'.row
  have HZ := Lib.hid hz; clear hz
  have HZ' := Lib.hid hz'; clear hz'
  by_cases hbig : (1048576 : Int) < (n : Int)
  · go_enter Try.func12, Try.ntmps12
    go_wp2
    go_ret
    exact ⟨rfl, Below.refl _ _⟩
  · by_cases hbig' : (1048576 : Int) < (n' : Int)
    · go_enter Try.func12, Try.ntmps12
      go_wp2
      go_ret
      exact ⟨rfl, Below.refl _ _⟩
    · have hs : (n : Int) ≤ 1048576 := by omega
      have hs' : (n' : Int) ≤ 1048576 := by omega
      clear hbig hbig'
      go_enter Try.func12, Try.ntmps12
      go_wp2_with fail
      refine (drawNumText a n c z w HZ.out).mono ?_
      rintro e w1 ⟨⟨v, rfl, x, rfl, hx0, hx1⟩, hb1⟩
      have hs1 := hb1.size
      go_wp2_with fail
      refine (implNumText x w1).mono ?_; rintro e w2 ⟨rfl, hb2⟩
      have B2 := hb1.trans (hb2.mono hs1)
      have hs2 := B2.size
      have HZ2 : Hid (IsRow .u8 w2 a' n' c' z') := isRow_below HZ'.out ⟨B2.os, B2.tape, B2.output, B2.size, B2.block⟩
      rcases (show (x < -1000000 ∧ numOk x = false) ∨ (1000000 < x ∧ numOk x = false) ∨ ((-1000000 ≤ x ∧ x ≤ 1000000) ∧ numOk x = true) by
        cases hx : numOk x with
        | false => rcases numOk_not hx with h | h
                   · exact .inl ⟨h, rfl⟩
                   · exact .inr (.inl ⟨h, rfl⟩)
        | true => exact .inr (.inr ⟨numOk_of hx, rfl⟩)) with ⟨h1, hx⟩ | ⟨h1, hx⟩ | ⟨h1, hx⟩
      all_goals
        have HX := Lib.hid hx
        have hlx := numText_len x
        first
          | (have hE : (numText x).isEmpty = true := by rw [numText_no hx]; rfl)
          | (have hE : (numText x).isEmpty = false := by have := numText_ne hx; cases e : numText x <;> simp_all)
        have hrd : numOk x = true → ∀ r, readAt (numText x ++ r) 0 = (x, ((numText x).length : Int)) := fun h r => by
          have := readAt_at [] h r; simpa using this
        have HRD := Lib.hid hrd
        clear hx hrd
        generalize hS : numText x = S at *
        have HS := Lib.hid hS
        clear hS
        go_wp2_with fail
        refine (specNumText x w2).mono ?_; rintro e w3 ⟨rfl, rfl⟩
        rw [HS.out]
        go_wp2_with fail
        refine (drawNumsRead a' n' c' z' w2 HZ2.out).mono ?_
        rintro e w3 ⟨R, rfl, hRs, hb3⟩
        have B3 := B2.trans (hb3.mono hs2)
        have hs3 := B3.size
        have hRs' : (R.size : Int) ≤ 26 := by omega
        go_wp2_with fail
        refine (implRead _ _ w3 ?_).mono ?_
        · rw [ByteArray.size_append, size_mk S]; omega
        rintro e w4 ⟨rfl, hb4⟩
        have B4 := B3.trans (hb4.mono (by omega))
        have hs4 := B4.size
        have hq : numOk x = true → readAt (ByteArray.mk S.toArray ++ R).data.toList 0 = (x, (S.length : Int)) := fun h => by
          have := HRD.out h R.data.toList
          simpa using this
        unfold readV
        obtain ⟨q, hqq⟩ : ∃ q, q = readAt (ByteArray.mk S.toArray ++ R).data.toList 0 := ⟨_, rfl⟩
        rw [← hqq] at hq ⊢
        clear hqq
        first
          | (have hq' := hq HX.out
             subst hq'
             clear hq)
          | clear hq
        have HZ4 : Hid (IsRow .u8 w4 a' n' c' z') := isRow_below HZ'.out ⟨B4.os, B4.tape, B4.output, B4.size, B4.block⟩
        go_wp2_with fail
        refine (drawNumRead a' n' c' z' w4 HZ4.out).mono ?_
        rintro e w5 ⟨T, p, rfl, hTs, hp0, hp1, hb5⟩
        have B5 := B4.trans (hb5.mono (by omega))
        have hs5 := B5.size
        have hTs' : (T.size : Int) ≤ 26 := by omega
        go_wp2_with fail
        refine (implRead T p w5 (by omega)).mono ?_
        rintro e w6 ⟨rfl, hb6⟩
        have B6 := B5.trans (hb6.mono (by omega))
        have hs6 := B6.size
        have hrc := readAt_cases T.data.toList p
        unfold readV
        obtain ⟨q2, hq2⟩ : ∃ q2, q2 = readAt T.data.toList p := ⟨_, rfl⟩
        rw [← hq2] at hrc ⊢
        have HQ2 := Lib.hid hq2
        clear hq2
        go_wp2_with fail
        refine (specRead T p w6 (by omega)).mono ?_
        rintro e w7 ⟨rfl, hb7⟩
        have B7 := B6.trans (hb7.mono (by omega))
        have hs7 := B7.size
        unfold readV
        rw [← HQ2.out]
        clear HQ2
        rcases hrc with rfl | ⟨k, l, hp, hrd2, rfl⟩
        · go_wp2_with fail
          go_quiet (fail)
          go_wp2_with fail
          go_ret
          exact ⟨rfl, drewN_below B7 _⟩
        · obtain ⟨P, rfl⟩ := Int.eq_ofNat_of_zero_le hp
          have hrs := rd_some hrd2
          have hl1 := hrs.2.2.1
          have hl2 : P + l ≤ T.size := by have := hrs.2.2.2; simp at this; omega
          have hcut : (T.extract P (P + l)).toList = numText k := by
            rw [hrs.2.1, ByteArray.toList_eq, ByteArray.data_extract, Array.toList_extract, List.extract_eq_take_drop, show P + l - P = l by omega]; rfl
          have hg1 : ((P : Int) + (l : Int) == -1) = false := by rw [beq_eq_false_iff_ne]; omega
          have hg2 : (P : Int) < (P : Int) + (l : Int) := by omega
          have hg3 : (P : Int) + (l : Int) ≤ T.size := by omega
          have hg4 : ((P : Int) + (l : Int)).toNat = P + l := by omega
          have hg5 : (P : Int) ≤ (P : Int) + (l : Int) := by omega
          clear hrs hrd2 hl1 hl2
          go_wp2_with fail
          have cN : ∀ d os, Calls Try.prog 18 #[.int .i64 k] (grow (redrawn w7 d) os) fun e w'' => e = .returned (.string ⟨(numText k).toArray⟩) ∧ ∃ p : Regrown, w'' = grow (redrawn w7 p.d) p.os := fun d os => Calls.regrown_of (implNumText k _)
          have CN := Lib.hid cN; clear cN
          refine wp_region_quiet_below (by kernel_rfl) (by kernel_rfl) ?_
          repeat (go_big_quiet_step (exact CN.out _ _))
          refine wpQuiet_nil ?_
          intro _ hw'
          obtain ⟨⟨dq, osq⟩, hw''⟩ := hw'
          subst hw''
          go_wp2_with fail
          go_ret
          exact ⟨rfl, B7.trans ((below_regrown _ dq osq).mono hs7)⟩
end Go.Proofs.Ytangjpfookkehaa
