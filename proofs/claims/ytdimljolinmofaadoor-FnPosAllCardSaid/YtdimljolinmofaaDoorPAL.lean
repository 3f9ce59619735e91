/- The walk of FnPosAll. -/
import Derived.Test.YtdimljolinmofaaDoorPOL
import Derived.Test.YtdimljolinmofaaDoorTLL
namespace Go.Proofs.YtdimljolinmofaaDoor
open Go.RowKit Ilp
set_option linter.unusedVariables false

theorem start_cutB (s : ByteArray) (i : Nat) (h : i < (cutB s).length) : Ilp.start (cut s.data.toList) (i + 1) = Ilp.start (cut s.data.toList) i + (cutB s)[i].size + 1 := by
  rw [start_succ _ i (by rw [← cutB_length]; exact h), cutB_get s i h]
theorem offRes_at {s : ByteArray} {i k : Nat} (ho : textOk s.data.toList = true) (hi : i < (cutB s).length) (hk : k ≤ (cutB s)[i].size) : offRes s i k = some (Ilp.start (cut s.data.toList) i + k) := by
  rw [offRes_good ho, offOf_start _ i k (by rw [← cutB_length]; exact hi) (by rw [← cutB_get s i hi]; exact hk)]

set_option maxHeartbeats 8000000 in
theorem law_FnPosAll (a : Option Addr) (n c : Nat) (z : List Int) (w : World) (hsh : w.ShapedOpen Tryd.prog) (hT : Tabs w) (hz : IsRow .u8 w a n c z) :
    Calls Tryd.prog 7 #[.slice a n c] w fun e w' => e = .returned (.bool true) ∧ Below w.heap.size w w' := by
  clear hsh
  obtain ⟨_, _, hnc, hn, hc, _⟩ := hz.row
  have HZ := Lib.hid hz; clear hz
  have HT := Lib.hid hT; clear hT
  by_cases hbig : (1048576 : Int) < (n : Int)
  · go_enter Tryd.func7, Tryd.ntmps7
    go_wp2
    go_ret
    exact ⟨rfl, Below.refl _ _⟩
  · have hs : (n : Int) ≤ 1048576 := by omega
    clear hbig hn hc hnc
    go_enter Tryd.func7, Tryd.ntmps7
    go_wp2_with fail
    refine (drawPosOff a n c z w HZ.out).mono ?_
    rintro e w1 ⟨s, L, C, rfl, hss, hL0, hL1, hC0, hC1, hb1⟩
    have hss' : (s.size : Int) ≤ 300 := by omega
    have hb2 : Below w.heap.size w (w1.alloc (.cells #[.int .i64 L, .int .i64 C] 24)) := hb1.alloc hb1.size _
    go_wp2_with fail
    generalize w1.alloc (.cells #[.int .i64 L, .int .i64 C] 24) = w2 at *
    have HT2 : Hid (Tabs w2) := HT.out.keep hb2
    have cs := fun W => specTextLines s W (by omega)
    have ci := implLines s w2 HT2.out (by omega)
    have hle := linesOf_le s
    obtain ⟨xs, hxs⟩ : ∃ xs, linesOf s = xs := ⟨_, rfl⟩
    rw [hxs] at cs ci hle
    have CS := Lib.hid cs
    have HXS := Lib.hid hxs
    obtain ⟨N, hN⟩ : ∃ N, xs.length = N := ⟨_, rfl⟩
    have HN : Hid (xs.length = N) := hN
    have hN' : (N : Int) ≤ 301 := by omega
    clear cs hxs hle hN
    refine ci.mono ?_
    clear ci
    rintro e w3 ⟨A, rfl, hm, hb3⟩
    rw [HN.out]
    have HM3 := Lib.hid hm.row
    have HT3 : Hid (Tabs w3) := HT2.out.keep hb3
    have HB3 : Hid (Below w.heap.size w w3) := hb2.trans (hb3.mono hb2.size)
    clear hm hb1 hb2 hb3
    go_wp2_with fail
    refine (CS.out w3).mono ?_
    rintro e w4 ⟨A4, c4, rfl, hc4, _, hb4⟩
    rw [HN.out]
    have HR4 := Lib.hid (HM3.out.below hb4)
    have HT4 : Hid (Tabs w4) := HT3.out.keep hb4
    have HB4 : Hid (Below w.heap.size w w4) := HB3.out.trans (hb4.mono HB3.out.size)
    have hs4 := hb4.size
    have HR4' := Lib.hid (HR4.out.more hs4)
    clear hb4 hs4 HR4 hc4 HM3 HT3
    cases hok : textOk s.data.toList with
    | false =>
      obtain rfl : N = 0 := by rw [← HN.out, ← HXS.out, linesOf_bad hok]; rfl
      clear hok
      go_wp2_with fail
      go_loop [6, 7] (fun v i => v = .int .i64 0 ∧ i = .int .i64 0) (fun _ _ => 0)
      case atStart => exact ⟨rfl, rfl⟩
      case round =>
        obtain ⟨rfl, rfl⟩ := hrel
        go_wp2_with fail
        go_ret
        exact ⟨rfl, HB4.out⟩
    | true =>
      have hx2 : xs = cutB s := by rw [← HXS.out, linesOf_ok hok]
      subst hx2
      have HOFF : Hid (∀ i (hi : i < (cutB s).length) k, k ≤ (cutB s)[i].size → offRes s i k = some (Ilp.start (cut s.data.toList) i + k)) := fun i hi k hk => offRes_at hok hi hk
      have HNO : Hid (∀ i (hi : i < (cutB s).length), offRes s i (((cutB s)[i].size : Int) + 1) = none) := fun i hi => offRes_wide hi (by omega)
      have HST : Hid (∀ i (hi : i < (cutB s).length), Ilp.start (cut s.data.toList) (i + 1) = Ilp.start (cut s.data.toList) i + (cutB s)[i].size + 1) := fun i hi => start_cutB s i hi
      have HSA : Hid (Ilp.start (cut s.data.toList) N = s.size + 1) := by
        have h1 := start_all s.data.toList
        rw [← cutB_length, HN.out] at h1
        have h3 : s.data.toList.length = s.size := by simp
        unfold Hid; omega
      have HSM : Hid (∀ i, i ≤ N → Ilp.start (cut s.data.toList) i ≤ s.size + 1) := fun i hi => by
        have h1 := start_mono (cut s.data.toList) i (by rw [← cutB_length, HN.out]; exact hi)
        rw [start_all] at h1
        have h3 : s.data.toList.length = s.size := by simp
        omega
      have HS0 : Hid (Ilp.start (cut s.data.toList) 0 = 0) := by unfold Hid; simp [Ilp.start]
      generalize Ilp.start (cut s.data.toList) = st at *
      generalize cutB s = xs at *
      have CO : Hid (∀ (W : World) (i k : Int), Tabs W → 0 ≤ i → i ≤ 1000000 → 0 ≤ k → k ≤ 1000000 → Calls Tryd.prog 14 #[.string s, .agg #[.int .i64 i, .int .i64 k]] W (Offed (offRes s i k) W)) := fun W i k h h1 h2 h3 h4 => implPosOff s i k W h (by omega) (by omega) (by omega) (by omega) (by omega)
      clear hok HXS
      go_wp2_with fail
      go_loopw [6, 7] (fun v i wr => ∃ k : Nat, i = .int .i64 (k : Int) ∧ v = .int .i64 ((st k : Nat) : Int) ∧ k ≤ N ∧ Below w4.heap.size w4 wr) (fun _ i _ => N - (intOf i).toNat)
      case atStart => exact ⟨0, rfl, by rw [HS0.out]; rfl, Nat.zero_le _, Below.refl _ _⟩
      case round =>
        obtain ⟨k, rfl, rfl, hk, hbw⟩ := hrel
        have HBW := Lib.hid hbw
        clear hbw
        obtain ⟨wo, rfl⟩ : ∃ wo : World, wo = wr := ⟨_, rfl⟩
        have hsk := HSM.out k hk
        have hsk' : ((st k : Nat) : Int) ≤ 301 := by omega
        by_cases hlt : k < N
        · have hx : k < xs.length := by rw [HN.out]; exact hlt
          obtain ⟨b, o, rfl, hbb, hcell⟩ := HR4'.out.at_ (i := k) (by rw [strB_length]; exact hx)
          have HOFFk := Lib.hid (HOFF.out k hx)
          have HNOk := Lib.hid (HNO.out k hx)
          have HSTk := Lib.hid (HST.out k hx)
          have hsk2 := HSM.out (k + 1) hlt
          have hst2 := HST.out k hx
          have hcx : w4.cell? ⟨b, o + k, none⟩ = some (.string xs[k]) := by rw [hcell]; simp [strB]
          generalize xs[k] = X at *
          have hX : (X.size : Int) ≤ 300 := by omega
          have HCX : Hid (∀ W, Below w4.heap.size w4 W → W.cell? ⟨b, o + k, none⟩ = some (.string X)) := fun W h => (h.cell (p := ⟨b, o + k, none⟩) hbb).trans hcx
          clear hcell hcx hst2 hsk2 hsk
          have hq : ((st k : Nat) : Int) + (X.size : Int) ≤ 301 := by have := HSTk.out; have := HSM.out (k + 1) hlt; omega
          go_wp2_with fail
          go_loopw [6, 8] (fun v j wr => ∃ m : Nat, j = .int .i64 (m : Int) ∧ v = .int .i64 ((st k + m : Nat) : Int) ∧ m ≤ X.size + 1 ∧ Below w4.heap.size w4 wr) (fun _ j _ => X.size + 1 - (intOf j).toNat)
          case atStart => exact ⟨0, rfl, rfl, Nat.zero_le _, HBW.out⟩
          case round =>
            obtain ⟨m, rfl, rfl, hm, hbw⟩ := hrel
            have HBI := Lib.hid hbw
            have hc1 := HCX.out wr hbw
            have HTI : Hid (Tabs wr) := by
              obtain ⟨q, hq⟩ := HT4.out
              exact ⟨q, (hbw.cell (cell_lt hq)).trans hq⟩
            clear hbw
            by_cases hm2 : m ≤ X.size
            · have hm2' : (m : Int) ≤ (X.size : Int) := by omega
              have co := CO.out wr k m HTI.out (by omega) (by omega) (by omega) (by omega)
              rw [HOFFk.out m hm2] at co
              have CO2 := Lib.hid co
              clear co
              obtain ⟨q, hq⟩ : ∃ q, q = st k + m := ⟨_, rfl⟩
              have hq1 : (q : Int) ≤ 1000 := by omega
              rw [← hq] at CO2 ⊢
              have HQ := Lib.hid hq
              have hqq : ((q : Int) != (q : Int)) = false := by simp
              clear hq
              go_wp2_with fail
              refine CO2.out.mono ?_
              rintro e w5 ⟨rfl, hb5⟩
              have HB5 : Hid (Below w4.heap.size w4 w5) := HBI.out.trans (hb5.mono HBI.out.size)
              clear hb5
              simp only [offT]
              go_wp2_with fail
              go_roundw
              case rel => exact ⟨m + 1, by go_num, by have := HQ.out; subst this; go_num, by omega, HB5.out⟩
              case measure => simp [intOf]; omega
            · obtain rfl : m = X.size + 1 := by omega
              have hgt : (X.size : Int) < ((X.size + 1 : Nat) : Int) := by omega
              have HVK : Hid (((st k + (X.size + 1) : Nat) : Int) = ((st (k + 1) : Nat) : Int)) := by have := HSTk.out; unfold Hid; omega
              have co := CO.out wr k ((X.size : Int) + 1) HTI.out (by omega) (by omega) (by omega) (by omega)
              rw [HNOk.out] at co
              have CO2 := Lib.hid co
              clear co
              rw [HVK.out]
              go_wp2_with fail
              refine CO2.out.mono ?_
              rintro e w5 ⟨rfl, hb5⟩
              have HB5 : Hid (Below w4.heap.size w4 w5) := HBI.out.trans (hb5.mono HBI.out.size)
              clear hb5
              simp only [offT]
              go_wp2_with fail
              go_roundw
              case rel => exact ⟨k + 1, by go_num, rfl, by omega, HB5.out⟩
              case measure => simp [intOf]; omega
        · obtain rfl : k = N := by omega
          have HF := Lib.hid (show ((st k : Nat) : Int) = (s.size : Int) + 1 by have := HSA.out; omega)
          rw [HF.out]
          clear hsk'
          go_wp2_with fail
          all_goals
            go_ret
            exact ⟨by simp, HB4.out.trans (HBW.out.mono HB4.out.size)⟩
end Go.Proofs.YtdimljolinmofaaDoor
