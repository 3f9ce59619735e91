/- The walk of FnNumLetter. -/
import Derived.Test.YtangjpfookkehaaN3
import Derived.Test.YtangjpfookkehaaDrawN
import Derived.Outline
namespace Go.Proofs.Ytangjpfookkehaa
open Go.RowKit Ilp

/-- Behind the loop: lengths. -/
theorem step_lens {n : Int} (h0 : 0 ≤ n) (h1 : n < 1000000) : (((numText n).length : Int) ≤ ((numText (n + 1)).length : Int)) ∧ (((numText (-n)).length : Int) == ((numText n).length : Int)) = true := by
  have := numText_step h0 h1
  exact ⟨by omega, by simp; omega⟩

set_option maxHeartbeats 2000000 in
theorem law_FnNumLetter (a : Option Addr) (n c : Nat) (z : List Int) (w : World) (hz : IsRow .u8 w a n c z) :
    Calls Try.prog 6 #[.slice a n c] w fun e w' => e = .returned (.bool true) ∧ Below w.heap.size w w' := by
  obtain ⟨hr, hl, hnc, hn, hc, hw⟩ := hz.row
  clear hr hw hl
  have HZ := Lib.hid hz; clear hz
  by_cases hbig : (1048576 : Int) < (n : Int)
  · go_enter Try.func6, Try.ntmps6
    go_wp2
    go_ret
    exact ⟨rfl, Below.refl _ _⟩
  · have hs : (n : Int) ≤ 1048576 := by omega
    clear hbig
    go_enter Try.func6, Try.ntmps6
    go_wp2_with fail
    refine (drawNumLetter a n c z w HZ.out).mono ?_
    rintro e w1 ⟨⟨v, rfl, d, rfl, hd0, hd1⟩, hb1⟩
    have hs1 := hb1.size
    have HZ1 : Hid (IsRow .u8 w1 a n c z) := isRow_below HZ.out hb1
    go_wp2_with fail
    refine (implLetter d w1 (by omega) (by omega)).mono ?_; rintro e w2 ⟨rfl, rfl⟩
    go_wp2_with fail
    refine (specLetter d w1 (by omega) (by omega)).mono ?_; rintro e w2 ⟨rfl, rfl⟩
    by_cases hin : 0 ≤ d ∧ d ≤ 31
    · obtain ⟨m, rfl⟩ := Int.eq_ofNat_of_zero_le hin.1
      have hm : m ≤ 31 := by omega
      rw [numLetter_in hm]
      have h1 : (0 : Int) ≤ m := by omega
      have h2 : (m : Int) < 32 := by omega
      clear hin
      go_wp2_with fail
      go_loop [5] (fun v => ∃ k : Nat, v = .int .i64 (k : Int) ∧ k ≤ 32) (fun v => 32 - (intOf v).toNat)
      case atStart => exact ⟨0, rfl, by omega⟩
      case round =>
        obtain ⟨k, rfl, hk⟩ := hrel
        by_cases hlt : k < 32
        · have hlt' : (k : Int) < 32 := by omega
          by_cases hkm : k = m
          · have hne : ((k : Int) != (m : Int)) = false := by simp; omega
            clear hkm
            go_wp2_with fail
            go_round
            case rel => exact ⟨k + 1, by go_num, by omega⟩
            case measure => simp [intOf]; omega
          · have hne : ((k : Int) != (m : Int)) = true := by simp; omega
            have hll : (letr k == letr m) = false := by
              rw [beq_eq_false_iff_ne]; intro e; exact hkm (letr_inj hlt (by omega) e)
            go_wp2_with fail
            refine (implLetter _ _ (by omega) (by omega)).mono ?_; rintro e w2 ⟨rfl, rfl⟩
            rw [numLetter_in (n := k) (by omega)]
            go_wp2_with fail
            go_round
            case rel => exact ⟨k + 1, by go_num, by omega⟩
            case measure => simp [intOf]; omega
        · obtain rfl : k = 32 := by omega
          clear hlt
          go_wp2_with fail
          refine (drawNumText a n c z w1 HZ1.out).mono ?_
          rintro e w2 ⟨⟨v, rfl, x, rfl, hx0, hx1⟩, hb2⟩
          have hs2 := hb2.size
          have hbb := hb1.trans (hb2.mono hs1)
          by_cases hx2 : x < 0
          · go_wp2_with fail
            go_ret
            exact ⟨rfl, hbb⟩
          · by_cases hx3 : 1000000 ≤ x
            · go_wp2_with fail
              go_ret
              exact ⟨rfl, hbb⟩
            · have hx4 : 0 ≤ x := by omega
              have hx5 : x < 1000000 := by omega
              have hle := (step_lens hx4 hx5).1
              have heq := (step_lens hx4 hx5).2
              clear hx2 hx3
              go_wp2_with fail
              refine (implNumText _ _).mono ?_; rintro e w3 ⟨rfl, hb3⟩
              go_wp2_with fail
              refine (implNumText _ _).mono ?_; rintro e w4 ⟨rfl, hb4⟩
              go_wp2_with fail
              refine (implNumText _ _).mono ?_; rintro e w5 ⟨rfl, hb5⟩
              go_wp2_with fail
              refine (implNumText _ _).mono ?_; rintro e w6 ⟨rfl, hb6⟩
              have hs3 := hb3.size
              have hs4 := hb4.size
              have hs5 := hb5.size
              go_wp2_with fail
              go_ret
              exact ⟨rfl, (((hbb.trans (hb3.mono (by omega))).trans (hb4.mono (by omega))).trans (hb5.mono (by omega))).trans (hb6.mono (by omega))⟩
    · rw [numLetter_out (by omega)]
      have h1 : d < 0 ∨ 32 ≤ d := by omega
      clear hin
      rcases h1 with h1 | h1
      · go_wp2_with fail
        go_loop [5] (fun v => ∃ k : Nat, v = .int .i64 (k : Int) ∧ k ≤ 32) (fun v => 32 - (intOf v).toNat)
        case atStart => exact ⟨0, rfl, by omega⟩
        case round =>
          obtain ⟨k, rfl, hk⟩ := hrel
          by_cases hlt : k < 32
          · have hlt' : (k : Int) < 32 := by omega
            have hne : ((k : Int) != d) = true := by simp; omega
            go_wp2_with fail
            go_round
            case rel => exact ⟨k + 1, by go_num, by omega⟩
            case measure => simp [intOf]; omega
          · obtain rfl : k = 32 := by omega
            clear hlt
            go_wp2_with fail
            refine (drawNumText a n c z w1 HZ1.out).mono ?_
            rintro e w2 ⟨⟨v, rfl, x, rfl, hx0, hx1⟩, hb2⟩
            have hs2 := hb2.size
            have hbb := hb1.trans (hb2.mono hs1)
            by_cases hx2 : x < 0
            · go_wp2_with fail
              go_ret
              exact ⟨rfl, hbb⟩
            · by_cases hx3 : 1000000 ≤ x
              · go_wp2_with fail
                go_ret
                exact ⟨rfl, hbb⟩
              · have hx4 : 0 ≤ x := by omega
                have hx5 : x < 1000000 := by omega
                have hle := (step_lens hx4 hx5).1
                have heq := (step_lens hx4 hx5).2
                clear hx2 hx3
                go_wp2_with fail
                refine (implNumText _ _).mono ?_; rintro e w3 ⟨rfl, hb3⟩
                go_wp2_with fail
                refine (implNumText _ _).mono ?_; rintro e w4 ⟨rfl, hb4⟩
                go_wp2_with fail
                refine (implNumText _ _).mono ?_; rintro e w5 ⟨rfl, hb5⟩
                go_wp2_with fail
                refine (implNumText _ _).mono ?_; rintro e w6 ⟨rfl, hb6⟩
                have hs3 := hb3.size
                have hs4 := hb4.size
                have hs5 := hb5.size
                go_wp2_with fail
                go_ret
                exact ⟨rfl, (((hbb.trans (hb3.mono (by omega))).trans (hb4.mono (by omega))).trans (hb5.mono (by omega))).trans (hb6.mono (by omega))⟩
      · go_wp2_with fail
        go_loop [5] (fun v => ∃ k : Nat, v = .int .i64 (k : Int) ∧ k ≤ 32) (fun v => 32 - (intOf v).toNat)
        case atStart => exact ⟨0, rfl, by omega⟩
        case round =>
          obtain ⟨k, rfl, hk⟩ := hrel
          by_cases hlt : k < 32
          · have hlt' : (k : Int) < 32 := by omega
            have hne : ((k : Int) != d) = true := by simp; omega
            go_wp2_with fail
            go_round
            case rel => exact ⟨k + 1, by go_num, by omega⟩
            case measure => simp [intOf]; omega
          · obtain rfl : k = 32 := by omega
            clear hlt
            go_wp2_with fail
            refine (drawNumText a n c z w1 HZ1.out).mono ?_
            rintro e w2 ⟨⟨v, rfl, x, rfl, hx0, hx1⟩, hb2⟩
            have hs2 := hb2.size
            have hbb := hb1.trans (hb2.mono hs1)
            by_cases hx2 : x < 0
            · go_wp2_with fail
              go_ret
              exact ⟨rfl, hbb⟩
            · by_cases hx3 : 1000000 ≤ x
              · go_wp2_with fail
                go_ret
                exact ⟨rfl, hbb⟩
              · have hx4 : 0 ≤ x := by omega
                have hx5 : x < 1000000 := by omega
                have hle := (step_lens hx4 hx5).1
                have heq := (step_lens hx4 hx5).2
                clear hx2 hx3
                go_wp2_with fail
                refine (implNumText _ _).mono ?_; rintro e w3 ⟨rfl, hb3⟩
                go_wp2_with fail
                refine (implNumText _ _).mono ?_; rintro e w4 ⟨rfl, hb4⟩
                go_wp2_with fail
                refine (implNumText _ _).mono ?_; rintro e w5 ⟨rfl, hb5⟩
                go_wp2_with fail
                refine (implNumText _ _).mono ?_; rintro e w6 ⟨rfl, hb6⟩
                have hs3 := hb3.size
                have hs4 := hb4.size
                have hs5 := hb5.size
                go_wp2_with fail
                go_ret
                exact ⟨rfl, (((hbb.trans (hb3.mono (by omega))).trans (hb4.mono (by omega))).trans (hb5.mono (by omega))).trans (hb6.mono (by omega))⟩
end Go.Proofs.Ytangjpfookkehaa
