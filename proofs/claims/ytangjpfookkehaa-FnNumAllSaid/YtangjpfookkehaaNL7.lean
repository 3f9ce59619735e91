/- The walk of FnNumAll. -/
import Derived.Test.YtangjpfookkehaaN6
import Derived.Test.YtangjpfookkehaaDrawN
namespace Go.Proofs.Ytangjpfookkehaa
open Go.RowKit Ilp
set_option linter.unusedVariables false

theorem cut_to (T : List UInt8) (k : Nat) : ((ByteArray.mk T.toArray).extract 0 k).toList = T.take k := by
  rw [ByteArray.extract_mk, ByteArray.toList_eq]; simp

set_option maxHeartbeats 4000000 in
theorem law_FnNumAll (a : Option Addr) (n c : Nat) (z : List Int) (a' : Option Addr) (n' c' : Nat) (z' : List Int) (w : World) (hz : IsRow .u8 w a n c z) (hz' : IsRow .u8 w a' n' c' z') :
    Calls Try.prog 9 #[.slice a n c, .slice a' n' c'] w fun e w' => e = .returned (.bool true) ∧ Below w.heap.size w w' := by
  obtain ⟨_, _, hnc, hn, hc, _⟩ := hz.row
  obtain ⟨_, _, hnc', hn', hc', _⟩ := hz'.row
  have HZ := Lib.hid hz; clear hz
  have HZ' := Lib.hid hz'; clear hz'
  by_cases hbig : (1048576 : Int) < (n : Int)
  · go_enter Try.func9, Try.ntmps9
    go_wp2
    go_ret
    exact ⟨rfl, Below.refl _ _⟩
  · by_cases hbig' : (1048576 : Int) < (n' : Int)
    · go_enter Try.func9, Try.ntmps9
      go_wp2
      go_ret
      exact ⟨rfl, Below.refl _ _⟩
    · have hs : (n : Int) ≤ 1048576 := by omega
      have hs' : (n' : Int) ≤ 1048576 := by omega
      clear hbig hbig'
      go_enter Try.func9, Try.ntmps9
      go_wp2_with fail
      refine (drawNumText a n c z w HZ.out).mono ?_
      rintro e w1 ⟨⟨v, rfl, x, rfl, hx0, hx1⟩, hb1⟩
      have hs1 := hb1.size
      have HZ1 : Hid (IsRow .u8 w1 a' n' c' z') := isRow_below HZ'.out hb1
      go_wp2_with fail
      refine (drawNumText a' n' c' z' w1 HZ1.out).mono ?_
      rintro e w2 ⟨⟨v, rfl, y, rfl, hy0, hy1⟩, hb2⟩
      have hs2 := hb2.size
      have B2 := hb1.trans (hb2.mono hs1)
      go_wp2_with fail
      refine (implNumText x w2).mono ?_; rintro e w3 ⟨rfl, hb3⟩
      have hs3 := hb3.size
      have B3 := B2.trans (hb3.mono (by omega))
      go_wp2_with fail
      refine (implNumText y w3).mono ?_; rintro e w4 ⟨rfl, hb4⟩
      have hs4 := hb4.size
      have B4 := B3.trans (hb4.mono (by omega))
      go_wp2_with fail
      refine (specNumText x w4).mono ?_; rintro e w5 ⟨rfl, rfl⟩
      cases hx : numOk x with
      | false =>
        have HX := Lib.hid (numText_no hx)
        rw [HX.out]
        clear hx
        go_wp2_with fail
        refine (specNumText x w4).mono ?_; rintro e w5 ⟨rfl, rfl⟩
        rw [HX.out]
        go_wp2_with fail
        go_ret
        exact ⟨rfl, B4⟩
      | true =>
        cases hy : numOk y with
        | false =>
          have HY := Lib.hid (numText_no hy)
          rw [HY.out]
          have hne : (numText x).isEmpty = false := by have := numText_ne hx; cases e : numText x <;> simp_all
          generalize hS : numText x = S at *
          have HS := Lib.hid hS
          clear hx hy hS
          go_wp2_with fail
          refine (specNumText x w4).mono ?_; rintro e w5 ⟨rfl, rfl⟩
          rw [HS.out]
          go_wp2_with fail
          go_ret
          exact ⟨rfl, B4⟩
        | true =>
          have hlx := numText_len x
          have hly := numText_len y
          have hnx : (numText x).isEmpty = false := by have := numText_ne hx; cases e : numText x <;> simp_all
          have hny : (numText y).isEmpty = false := by have := numText_ne hy; cases e : numText y <;> simp_all
          have hpre : (numText y).take (numText x).length = numText x → x = y := fun h => by
            have e := (List.take_append_drop (numText x).length (numText y)).symm
            rw [h] at e
            exact numText_pre hx hy _ e
          have hread := readV_some (readAt_at (numText y) hx [])
          rw [List.append_nil] at hread
          have hinj : numText x = numText y → x = y := fun h => numText_inj hx hy h.symm
          by_cases hxy : x = y
          · subst hxy
            have hcut := cut_to (numText x) (numText x).length
            rw [List.take_length] at hcut
            generalize numText x = S at *
            clear hx hy hpre hread hinj
            go_wp2_with fail
            go_ret
            exact ⟨rfl, B4⟩
          · have hcut := cut_to (numText y) (numText x).length
            have hYne : ((numText y).take (numText x).length == numText x) = false := by
              rw [beq_eq_false_iff_ne]; intro e; exact hxy (hpre e)
            have hST : (numText x == numText y) = false := by
              rw [beq_eq_false_iff_ne]; intro e; exact hxy (hinj e)
            have hxy' : (x == y) = false := by rw [beq_eq_false_iff_ne]; exact hxy
            generalize (numText y).take (numText x).length = Y at *
            generalize numText x = S at *
            generalize numText y = T at *
            have HR := Lib.hid hread
            clear hx hy hpre hread hinj hxy
            by_cases hle : (S.length : Int) ≤ (T.length : Int)
            all_goals
              go_wp2_with fail
              rw [mk_app]
              refine (implRead _ _ w4 ?_).mono ?_
              · simp [ByteArray.size]; omega
              rintro e w5 ⟨rfl, hb5⟩
              rw [show readV (ByteArray.mk (T ++ S).toArray).data.toList (T.length : Int) = _ from HR.out]
              have B5 := B4.trans (hb5.mono (by omega))
              go_wp2_with fail
              go_ret
              exact ⟨rfl, B5⟩
end Go.Proofs.Ytangjpfookkehaa
