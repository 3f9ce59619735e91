/- The walk of FnNumSmall. -/
import Derived.Test.YtangjpfookkehaaN3
import Derived.Test.YtangjpfookkehaaDrawN
import Derived.Outline
namespace Go.Proofs.Ytangjpfookkehaa
open Go.RowKit Ilp

/-- Whether the odd digits below k hold this one. -/
def oddTo (d k : Nat) : Bool := decide (d % 2 = 1 ∧ d < k)

set_option maxHeartbeats 2000000 in
theorem law_FnNumSmall (a : Option Addr) (n c : Nat) (z : List Int) (w : World) (hz : IsRow .u8 w a n c z) :
    Calls Try.prog 7 #[.slice a n c] w fun e w' => e = .returned (.bool true) ∧ Below w.heap.size w w' := by
  obtain ⟨hr, hl, hnc, hn, hc, hw⟩ := hz.row
  clear hr hw hl
  have HZ := Lib.hid hz; clear hz
  by_cases hbig : (1048576 : Int) < (n : Int)
  · go_enter Try.func7, Try.ntmps7
    go_wp2
    go_ret
    exact ⟨rfl, Below.refl _ _⟩
  · have hs : (n : Int) ≤ 1048576 := by omega
    clear hbig
    go_enter Try.func7, Try.ntmps7
    go_wp2_with fail
    refine (drawNumText a n c z w HZ.out).mono ?_
    rintro e w1 ⟨⟨v, rfl, x, rfl, hx0, hx1⟩, hb1⟩
    have hs1 := hb1.size
    go_wp2_with fail
    refine (implNumText x w1).mono ?_; rintro e w2 ⟨rfl, hb2⟩
    have hbb := hb1.trans (hb2.mono hs1)
    go_wp2_with fail
    refine (specNumText x w2).mono ?_; rintro e w3 ⟨rfl, rfl⟩
    cases hx : numOk x with
    | false =>
      have HX := Lib.hid (numText_no hx)
      rw [numText_no hx]
      clear hx
      go_wp2_with fail
      refine (specNumText x w2).mono ?_; rintro e w3 ⟨rfl, rfl⟩
      rw [HX.out]
      go_wp2_with fail
      go_ret
      exact ⟨rfl, hbb⟩
    | true =>
      obtain ⟨d, t, hd, hdm, hdt⟩ := digs_head (zig x)
      have hne : numText x = letr d :: t := by rw [numText_ok hx, hdt]
      have hlen : hexes (2 * x.natAbs) = t.length + 1 := by
        rw [hexes_digs, ← zig_len, hdt]; rfl
      have hodd : oddTo d 33 = decide (x < 0) := by
        have := zig_odd x
        unfold oddTo; apply decide_eq_decide.2
        constructor
        · intro h; by_cases h0 : x < 0
          · exact h0
          · rw [if_neg h0] at this; omega
        · intro h; rw [if_pos h] at this; omega
      have hb := numOk_of hx
      have hab : ((x.natAbs : Nat) : Int) = if x < 0 then -x else x := by split <;> omega
      rw [hne]
      have HL := Lib.hid hlen
      have HO := Lib.hid hodd
      clear hne hdt hdm hlen hodd hx
      have hd' : (d : Int) < 32 := by omega
      by_cases h0 : x < 0
      all_goals
        first | rw [if_pos h0] at hab | rw [if_neg h0] at hab
        have HA := Lib.hid hab
        clear hab
        go_wp2_with fail
        go_loop [6, 7] (fun D v => ∃ k m : Nat, v = .int .i64 (k : Int) ∧ D = .int .i64 (m : Int) ∧ (k : Int) ≤ 2000000 ∧ (m : Int) ≤ 2000001 ∧ m + hexes k = hexes (2 * x.natAbs) + 1 ∧ m + k ≤ 2000001) (fun _ v => (intOf v).toNat)
        case atStart => exact ⟨2 * x.natAbs, 1, by have := HA.out; congr 1; omega, rfl, by omega, by omega, by omega, by omega⟩
        case round =>
          obtain ⟨k, m, rfl, rfl, hk, hm, hr, hkm⟩ := hrel
          have HR := Lib.hid hr; clear hr
          by_cases hlt : (16 : Int) ≤ k
          · have hx16 : hexes k = 1 + hexes (k / 16) := by rw [hexes, dif_neg (by omega)]
            have HX := Lib.hid hx16; clear hx16
            go_wp2_with fail
            go_round
            case rel => exact ⟨k / 16, m + 1, by go_num, by go_num, by omega, by omega, by have := HR.out; have := HX.out; omega, by omega⟩
            case measure => simp [intOf]; omega
          · have hx1 : hexes k = 1 := by rw [hexes, dif_pos (by omega)]
            have hml : m = t.length + 1 := by have := HR.out; have := HL.out; omega
            have hlm : ((t.length : Int) + 1 == (m : Int)) = true := by simp; omega
            have HM := Lib.hid hml
            clear hx1 hml
            go_wp2_with fail
            go_loopw [8, 9] (fun o v wr => ∃ j : Nat, v = .int .i64 (2 * (j : Int) + 1) ∧ o = .bool (oddTo d (2 * j + 1)) ∧ j ≤ 16 ∧ Below w.heap.size w wr) (fun _ v _ => 33 - (intOf v).toNat)
            case atStart => exact ⟨0, rfl, by unfold oddTo; rw [decide_eq_false (by omega)], by omega, hbb⟩
            case round =>
              obtain ⟨j, rfl, rfl, hj, hbw⟩ := hrel
              by_cases hjl : j < 16
              · have hj1 : 2 * (j : Int) + 1 < 32 := by omega
                have hj0 : 0 ≤ 2 * (j : Int) + 1 := by omega
                have hex : ((ByteArray.mk (letr d :: t).toArray).extract 0 1).toList = [letr d] := by rw [ByteArray.extract_mk]; simp
                have hl1 : numLetter (2 * (j : Int) + 1) = [letr (2 * j + 1)] := by
                  have := numLetter_in (n := 2 * j + 1) (by omega); rw [← this]; rfl
                have HL1 := Lib.hid hl1; clear hl1
                cases ho : oddTo d (2 * j + 1) with
                | true =>
                  have ho2 : oddTo d (2 * (j + 1) + 1) = true := by unfold oddTo at ho ⊢; have := of_decide_eq_true ho; exact decide_eq_true (by omega)
                  have HO2 := Lib.hid ho2
                  clear ho ho2
                  go_wp2_with fail
                  go_quiet (fail)
                  go_wp2_with fail
                  go_roundw
                  case rel => exact ⟨j + 1, by go_num, by rw [HO2.out], by omega, drewN_below hbw _⟩
                  case measure => simp [intOf]; omega
                | false =>
                  by_cases hjd : 2 * j + 1 = d
                  · have ho2 : oddTo d (2 * (j + 1) + 1) = true := by unfold oddTo; exact decide_eq_true (by omega)
                    have HO2 := Lib.hid ho2
                    have HJ := Lib.hid hjd
                    clear ho ho2 hjd
                    have hcall : ∀ wx, Calls Try.prog 16 #[.int .i64 (2 * (j : Int) + 1)] wx fun e w' => e = .returned (.string ⟨#[letr d]⟩) ∧ w' = wx := fun wx =>
                      (implLetter _ wx (by omega) (by omega)).mono fun e w' ⟨he, hw⟩ => ⟨by rw [he, HL1.out, HJ.out], hw.symm⟩
                    have HC := Lib.hid hcall; clear hcall
                    go_wp2_with fail
                    go_quiet ((go_at_call 16; exact Calls.quiet_of_same (HC.out _)))
                    go_wp2_with fail
                    go_roundw
                    case rel => exact ⟨j + 1, by go_num, by rw [HO2.out], by omega, drewN_below hbw _⟩
                    case measure => simp [intOf]; omega
                  · have ho2 : oddTo d (2 * (j + 1) + 1) = false := by unfold oddTo at ho ⊢; have := of_decide_eq_false ho; exact decide_eq_false (by omega)
                    have HO2 := Lib.hid ho2
                    have hll : (letr (2 * j + 1) == letr d) = false := by
                      rw [beq_eq_false_iff_ne]; intro e; exact hjd (letr_inj (by omega) hd e)
                    clear ho ho2 hjd
                    have hcall : ∀ wx, Calls Try.prog 16 #[.int .i64 (2 * (j : Int) + 1)] wx fun e w' => e = .returned (.string ⟨#[letr (2 * j + 1)]⟩) ∧ w' = wx := fun wx =>
                      (implLetter _ wx (by omega) (by omega)).mono fun e w' ⟨he, hw⟩ => ⟨by rw [he, HL1.out], hw.symm⟩
                    have HC := Lib.hid hcall; clear hcall
                    go_wp2_with fail
                    go_quiet ((go_at_call 16; exact Calls.quiet_of_same (HC.out _)))
                    go_wp2_with fail
                    go_roundw
                    case rel => exact ⟨j + 1, by go_num, by rw [HO2.out], by omega, drewN_below hbw _⟩
                    case measure => simp [intOf]; omega
              · obtain rfl : j = 16 := by omega
                rw [HO.out]
                go_wp2_with fail
                go_ret
                exact ⟨rfl, hbw⟩
end Go.Proofs.Ytangjpfookkehaa
