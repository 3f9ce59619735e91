/- The walk of FnPos. -/
import Derived.Test.YtdimljolinmofaaDoorPLL
import Derived.Test.YtdimljolinmofaaDoorDrawQ
namespace Go.Proofs.YtdimljolinmofaaDoor
open Go.RowKit Ilp
set_option linter.unusedVariables false

set_option maxHeartbeats 8000000 in
set_option maxRecDepth 100000 in
theorem law_FnPos (a : Option Addr) (n c : Nat) (z : List Int) (w : World) (hsh : w.ShapedOpen Tryd.prog) (hT : Tabs w) (hz : IsRow .u8 w a n c z) :
    Calls Tryd.prog 8 #[.slice a n c] w fun e w' => e = .returned (.bool true) ∧ Below w.heap.size w w' := by
  clear hsh
  obtain ⟨_, _, hnc, hn, hc, _⟩ := hz.row
  have HZ := Lib.hid hz; clear hz
  have HT := Lib.hid hT; clear hT
  by_cases hbig : (1048576 : Int) < (n : Int)
  · go_enter Tryd.func8, Tryd.ntmps8
    go_wp2
    go_ret
    exact ⟨rfl, Below.refl _ _⟩
  · have hs : (n : Int) ≤ 1048576 := by omega
    clear hbig hn hc hnc
    go_enter Tryd.func8, Tryd.ntmps8
    go_wp2_with fail
    refine (drawPosOf a n c z w HZ.out).mono ?_
    rintro e w1 ⟨s, off, rfl, hss, ho0, ho1, hb1⟩
    have hss' : (s.size : Int) ≤ 5000 := by omega
    have HT1 : Hid (Tabs w1) := HT.out.keep hb1
    have HB1 := Lib.hid hb1
    have ci := fun W => implPosOf s off W (by omega)
    have cs := fun W => specPosOf s off W (by omega)
    obtain ⟨r, hr⟩ : ∃ r, posRes s off = r := ⟨_, rfl⟩
    rw [hr] at ci
    rw [hr] at cs
    obtain ⟨⟨L, C⟩, ok⟩ := r
    have CI := Lib.hid ci
    have CS := Lib.hid cs
    have HR := Lib.hid hr
    clear ci cs hr hb1 HT HZ
    go_wp2_with fail
    refine (CI.out w1).mono ?_
    rintro e w2 ⟨rfl, hb2⟩
    have hP2 : PosAt (w2.alloc (.cells #[.int .i64 (L : Int), .int .i64 (C : Int)] 24)) w2.heap.size L C := Blk.alloc_ w2 _ [.int .i64 (L : Int), .int .i64 (C : Int)]
    have hB2 : Below w.heap.size w w2 := HB1.out.trans (hb2.mono HB1.out.size)
    have hB2' : Below w.heap.size w (w2.alloc (.cells #[.int .i64 (L : Int), .int .i64 (C : Int)] 24)) := hB2.alloc hB2.size _
    have hT2 : Tabs (w2.alloc (.cells #[.int .i64 (L : Int), .int .i64 (C : Int)] 24)) := (HT1.out.keep hb2).keep ((Below.refl _ _).alloc (Nat.le_refl _) _)
    have HP2 := Lib.hid hP2
    have HB2 := Lib.hid hB2'
    have HT2 := Lib.hid hT2
    clear hb2 hP2 hB2 hB2' hT2
    simp only [posT]
    go_wp2_with fail
    refine (CS.out _).mono ?_
    rintro e w3 ⟨rfl, hb3⟩
    have hP3 : PosAt (w3.alloc (.cells #[.int .i64 (L : Int), .int .i64 (C : Int)] 24)) w2.heap.size L C := (HP2.out.below hb3).alloc _
    have hB3 : Below w.heap.size w w3 := HB2.out.trans (hb3.mono HB2.out.size)
    have HB3 : Hid (Below w.heap.size w (w3.alloc (.cells #[.int .i64 (L : Int), .int .i64 (C : Int)] 24))) := hB3.alloc hB3.size _
    have HT3 : Hid (Tabs (w3.alloc (.cells #[.int .i64 (L : Int), .int .i64 (C : Int)] 24))) := (HT2.out.keep hb3).keep ((Below.refl _ _).alloc (Nat.le_refl _) _)
    have y0 := hP3.d0
    have y1 := hP3.d1
    have z0 : w3.cell? ⟨w2.heap.size, 0, none⟩ = some (.int .i64 (L : Int)) := (HP2.out.below hb3).d0
    have z1 : w3.cell? ⟨w2.heap.size, 1, none⟩ = some (.int .i64 (C : Int)) := (HP2.out.below hb3).d1
    have hlt : w2.heap.size < w3.heap.size := Blk.lt (HP2.out.below hb3)
    have hok2 : (ok != ok) = false := by simp
    have HP3 := Lib.hid hP3
    clear hb3 hP3 hB3
    simp only [posT]
    by_cases hgood : textOk s.data.toList = true ∧ 0 ≤ off ∧ off ≤ s.size
    · obtain ⟨hok, g1, g2⟩ := hgood
      obtain ⟨k, rfl⟩ : ∃ k : Nat, off = (k : Int) := ⟨off.toNat, by omega⟩
      have hk : k ≤ s.size := by omega
      have e := (posRes_good hok hk).symm.trans HR.out
      simp only [Prod.mk.injEq] at e
      obtain ⟨hpos, rfl⟩ := e
      have HPOS := Lib.hid hpos
      have HOK := Lib.hid hok
      have hL : (L : Int) ≤ 5000 ∧ (C : Int) ≤ 5000 := by
        have h := pos_le (s.data.toList.take k)
        rw [hpos] at h
        have h2 : (s.data.toList.take k).length ≤ k := List.length_take_le _ _
        simp at h h2
        omega
      have HOFF : Hid (offRes s (L : Int) (C : Int) = some k) := offRes_hit hok hk (by rw [hpos]) (by rw [hpos])
      clear HR hok hpos
      obtain ⟨hL, hC⟩ := hL
      go_wp2_with fail
      have co := implPosOff s (L : Int) (C : Int) _ HT3.out (by omega) (by omega) (by omega) (by omega) (by omega)
      rw [HOFF.out] at co
      refine co.mono ?_
      rintro e w4 ⟨rfl, hb4⟩
      clear y0 y1 z0 z1 co
      have HP4 := Lib.hid (HP3.out.below hb4)
      have y0 := HP4.out.d0
      have y1 := HP4.out.d1
      have HB4 : Hid (Below w.heap.size w w4) := HB3.out.trans (hb4.mono HB3.out.size)
      clear hb4
      simp only [offT]
      have hkk : ((k : Int) != (k : Int)) = false := by simp
      by_cases hk0 : k = 0
      · subst hk0
        have e : ((0, 0) : Nat × Nat) = (L, C) := by have := HPOS.out; simpa [pos] using this
        simp only [Prod.mk.injEq] at e
        obtain ⟨rfl, rfl⟩ := e
        go_wp2_with fail
        go_ret
        exact ⟨rfl, HB4.out⟩
      · obtain ⟨j, rfl⟩ : ∃ j, k = j + 1 := ⟨k - 1, by omega⟩
        have hkb : ((j + 1 : Nat) : Int) = (j : Int) + 1 := by omega
        have hk1 : (((j + 1 : Nat) : Int) == 0) = false := by rw [beq_eq_false_iff_ne]; omega
        have hj : j < s.size := by omega
        have hjs : (j : Int) < (s.size : Int) := by omega
        have HPR : Hid (posRes s ((j : Int)) = (pos (s.data.toList.take j), true)) := posRes_good HOK.out (by omega)
        have hst := pos_take hj
        rw [HPOS.out] at hst
        have ci := fun W => implPosOf s (j : Int) W (by omega)
        rw [HPR.out] at ci
        obtain ⟨o, hpp⟩ : ∃ o, pos (s.data.toList.take j) = o := ⟨_, rfl⟩
        rw [hpp] at hst ci
        obtain ⟨o1, o2⟩ := o
        have CI2 := Lib.hid ci
        have HST := Lib.hid hst
        have hnl := nl_iff s[j]
        clear ci hst hpp HPR CI CS
        have esub : ((j + 1 : Nat) : Int) - 1 = (j : Int) := by omega
        have hkb' : (j : Int) + 1 ≤ 5000 := by omega
        have hc0 : (0 : Int) ≤ (s[j].toNat : Int) := by omega
        have hc1 : (s[j].toNat : Int) ≤ 255 := by have := s[j].toNat_lt; omega
        by_cases h10 : s[j] = 10
        · have e := HST.out
          rw [if_pos h10] at e
          simp only [Prod.mk.injEq] at e
          obtain ⟨rfl, rfl⟩ := e
          have hb : ((s[j].toNat : Int) == 10) = true := by rw [hnl, h10]; rfl
          have hb2 : ((s[j].toNat : Int) != 10) = false := by simp [bne, hb]
          have h1 : posLt (o1 : Int) (o2 : Int) ((o1 : Int) + 1) 0 = true := posLt_t1 (by omega)
          have h2 : posLt ((o1 : Int) + 1) 0 (o1 : Int) (o2 : Int) = false := posLt_f1 (by omega)
          clear HST hnl h10
          go_wp2_with fail
          refine (CI2.out w4).mono ?_
          rintro e w5 ⟨rfl, hb5⟩
          have hP5 : PosAt (w5.alloc (.cells #[.int .i64 (o1 : Int), .int .i64 (o2 : Int)] 24)) w2.heap.size _ _ := (HP4.out.below hb5).alloc _
          have hO5 : PosAt (w5.alloc (.cells #[.int .i64 (o1 : Int), .int .i64 (o2 : Int)] 24)) w5.heap.size o1 o2 := Blk.alloc_ w5 _ [.int .i64 (o1 : Int), .int .i64 (o2 : Int)]
          have hB5 : Below w.heap.size w w5 := HB4.out.trans (hb5.mono HB4.out.size)
          have HB5 : Hid (Below w.heap.size w (w5.alloc (.cells #[.int .i64 (o1 : Int), .int .i64 (o2 : Int)] 24))) := hB5.alloc hB5.size _
          clear hb5 hB5 y0 y1
          simp only [posT]
          go_wp2_with fail
          generalize w5.alloc (.cells #[.int .i64 (o1 : Int), .int .i64 (o2 : Int)] 24) = w6 at *
          generalize w5.heap.size = OB at *
          generalize w2.heap.size = PB at *
          have xa0 := hP5.c0
          have xa1 := hP5.c1
          have xb0 := hO5.c0
          have xb1 := hO5.c1
          have HLA := Lib.hid (lessG h1 w6)
          have HLB := Lib.hid (lessG h2 w6)
          clear h1 h2
          refine wp_region_quiet_below (by kernel_rfl) (by kernel_rfl) ?_
          repeat (go_big_quiet_step (first | with_reducible exact HLA.out _ _ | with_reducible exact HLB.out _ _))
          refine wpQuiet_nil ?_
          intro w7 hw'
          have hb7 : Below w6.heap.size w6 w7 := by obtain ⟨⟨dq, osq⟩, rfl⟩ := hw'; exact below_regrown _ _ _
          have HB7 : Hid (Below w.heap.size w w7) := HB5.out.trans (hb7.mono HB5.out.size)
          clear hw' hb7 xa0 xa1 xb0 xb1 hP5 hO5
          go_wp2_with fail
          go_ret
          exact ⟨rfl, HB7.out⟩
        · have e := HST.out
          rw [if_neg h10] at e
          simp only [Prod.mk.injEq] at e
          obtain ⟨rfl, rfl⟩ := e
          have hb : ((s[j].toNat : Int) == 10) = false := by rw [hnl]; exact decide_eq_false h10
          have hb2 : ((s[j].toNat : Int) != 10) = true := by simp [bne, hb]
          have h1 : posLt (L : Int) (o2 : Int) (L : Int) ((o2 : Int) + 1) = true := posLt_t2 rfl (by omega)
          have h2 : posLt (L : Int) ((o2 : Int) + 1) (L : Int) (o2 : Int) = false := posLt_f2 rfl (by omega)
          have hne : ((L : Int) == (L : Int) + 1) = false := by rw [beq_eq_false_iff_ne]; omega
          clear HST hnl h10
          go_wp2_with fail
          refine (CI2.out w4).mono ?_
          rintro e w5 ⟨rfl, hb5⟩
          have hP5 : PosAt (w5.alloc (.cells #[.int .i64 (L : Int), .int .i64 (o2 : Int)] 24)) w2.heap.size _ _ := (HP4.out.below hb5).alloc _
          have hO5 : PosAt (w5.alloc (.cells #[.int .i64 (L : Int), .int .i64 (o2 : Int)] 24)) w5.heap.size L o2 := Blk.alloc_ w5 _ [.int .i64 (L : Int), .int .i64 (o2 : Int)]
          have hB5 : Below w.heap.size w w5 := HB4.out.trans (hb5.mono HB4.out.size)
          have HB5 : Hid (Below w.heap.size w (w5.alloc (.cells #[.int .i64 (L : Int), .int .i64 (o2 : Int)] 24))) := hB5.alloc hB5.size _
          clear hb5 hB5 y0 y1
          simp only [posT]
          go_wp2_with fail
          generalize w5.alloc (.cells #[.int .i64 (L : Int), .int .i64 (o2 : Int)] 24) = w6 at *
          generalize w5.heap.size = OB at *
          generalize w2.heap.size = PB at *
          have xa0 := hP5.c0
          have xa1 := hP5.c1
          have xb0 := hO5.c0
          have xb1 := hO5.c1
          have HLA := Lib.hid (lessG h1 w6)
          have HLB := Lib.hid (lessG h2 w6)
          clear h1 h2
          refine wp_region_quiet_below (by kernel_rfl) (by kernel_rfl) ?_
          repeat (go_big_quiet_step (first | with_reducible exact HLA.out _ _ | with_reducible exact HLB.out _ _))
          refine wpQuiet_nil ?_
          intro w7 hw'
          have hb7 : Below w6.heap.size w6 w7 := by obtain ⟨⟨dq, osq⟩, rfl⟩ := hw'; exact below_regrown _ _ _
          have HB7 : Hid (Below w.heap.size w w7) := HB5.out.trans (hb7.mono HB5.out.size)
          clear hw' hb7 xa0 xa1 xb0 xb1 hP5 hO5
          go_wp2_with fail
          go_ret
          exact ⟨rfl, HB7.out⟩
    · have e := (posRes_bad hgood).symm.trans HR.out
      simp only [Prod.mk.injEq] at e
      obtain ⟨⟨rfl, rfl⟩, rfl⟩ := e
      clear HR hgood
      go_wp2_with fail
      go_ret
      exact ⟨rfl, HB3.out⟩
end Go.Proofs.YtdimljolinmofaaDoor
