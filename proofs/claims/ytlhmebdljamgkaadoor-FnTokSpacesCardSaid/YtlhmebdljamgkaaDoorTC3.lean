/- The walk of FnTokCat. -/
import Derived.Test.YtlhmebdljamgkaaDoorIl
import Derived.Test.YtlhmebdljamgkaaDoorDrawV
namespace Ilp
theorem cat_line (a b : List UInt8) : tokLine (a ++ 32 :: b) = if a.length + b.length < 120 then (match tokLine a with
    | none => none
    | some x => match tokLine b with
      | none => none
      | some y => some (x ++ y.map (sh (a.length + 1)))) else none := by
  unfold tokLine
  rw [List.length_append, List.length_cons]
  by_cases h : a.length + b.length < 120
  · rw [if_pos h, if_pos (by omega), if_pos (by omega), if_pos (by omega), words_cat]
    cases words a with
    | none => rfl
    | some x => cases words b <;> rfl
  · rw [if_neg h, if_neg (by omega)]
end Ilp
namespace Go.Proofs.YtlhmebdljamgkaaDoor
open Go.RowKit Ilp
set_option linter.unusedVariables false

def shTk (k : Nat) (t : Tk) : Tk := ⟨t.kind, t.s, t.col + (k : Int)⟩
def catB (a b : ByteArray) : ByteArray := a ++ ⟨#[32]⟩ ++ b
theorem catB_data (a b : ByteArray) : (catB a b).data.toList = a.data.toList ++ 32 :: b.data.toList := by
  unfold catB; simp
theorem catB_size (a b : ByteArray) : (catB a b).size = a.size + 1 + b.size := by
  unfold catB; rw [ByteArray.size_append, ByteArray.size_append]; rfl
theorem cat_facts (a b : ByteArray) : (tokLine (catB a b).data.toList).isSome = ((tokLine a.data.toList).isSome && (tokLine b.data.toList).isSome && decide ((a.size : Int) + (b.size : Int) < 120)) ∧
    ((tokLine (catB a b).data.toList).isSome = false → lineToks (catB a b) = []) ∧
    ((tokLine (catB a b).data.toList).isSome = true → lineToks (catB a b) = lineToks a ++ (lineToks b).map (shTk (a.size + 1))) := by
  have h := cat_line a.data.toList b.data.toList
  rw [← catB_data, len_data, len_data] at h
  by_cases hs : a.size + b.size < 120
  · rw [if_pos hs] at h
    have hd : decide ((a.size : Int) + (b.size : Int) < 120) = true := decide_eq_true (by omega)
    unfold lineToks
    cases ha : tokLine a.data.toList with
    | none => rw [ha] at h; simp only at h; rw [h]; simp
    | some x =>
      cases hb : tokLine b.data.toList with
      | none => rw [ha, hb] at h; simp only at h; rw [h]; simp
      | some y =>
        rw [ha, hb] at h
        simp only at h
        rw [h, hd]
        refine ⟨rfl, (fun e => by cases e), fun _ => ?_⟩
        simp only [Option.getD_some, List.map_append, List.map_map]
        congr 1
  · rw [if_neg hs] at h
    have hd : decide ((a.size : Int) + (b.size : Int) < 120) = false := decide_eq_false (by omega)
    rw [h, hd]
    unfold lineToks
    rw [h]
    simp

set_option maxHeartbeats 8000000 in
set_option maxRecDepth 20000 in
theorem law_FnTokCat (a : Option Addr) (n c : Nat) (z : List Int) (a' : Option Addr) (n' c' : Nat) (z' : List Int) (w : World) (hsh : w.ShapedOpen Tryd.prog) (hT : Tabs w) (hz : IsRow .u8 w a n c z) (hz' : IsRow .u8 w a' n' c' z') :
    Calls Tryd.prog 8 #[.slice a n c, .slice a' n' c'] w fun e w' => e = .returned (.bool true) ∧ Below w.heap.size w w' := by
  clear hsh
  obtain ⟨_, _, hnc, hn, hc, _⟩ := hz.row
  obtain ⟨_, _, hnc', hn', hc', _⟩ := hz'.row
  have HZ := Lib.hid hz; clear hz
  have HZ' := Lib.hid hz'; clear hz'
  have HT := Lib.hid hT; clear hT
  by_cases hbig : (1048576 : Int) < (n : Int)
  · go_enter Tryd.func8, Tryd.ntmps8
    go_wp2
    go_ret
    exact ⟨rfl, Below.refl _ _⟩
  · by_cases hbig' : (1048576 : Int) < (n' : Int)
    · go_enter Tryd.func8, Tryd.ntmps8
      go_wp2
      go_ret
      exact ⟨rfl, Below.refl _ _⟩
    · have hs : (n : Int) ≤ 1048576 := by omega
      have hs' : (n' : Int) ≤ 1048576 := by omega
      clear hbig hbig' hn hn' hc hc' hnc hnc'
      go_enter Tryd.func8, Tryd.ntmps8
      go_wp2_with fail
      refine (drawTokLine a n c z w HZ.out).mono ?_
      rintro e w1 ⟨s1, rfl, hs1, hb1⟩
      have HB1 := Lib.hid hb1
      clear hb1
      go_wp2_with fail
      refine (drawTokLine a' n' c' z' w1 (isRow_below HZ'.out HB1.out)).mono ?_
      rintro e w2 ⟨s2, rfl, hs2, hb2⟩
      have HB2 : Hid (Below w.heap.size w w2) := HB1.out.trans (hb2.mono HB1.out.size)
      clear hb2 HB1 HZ HZ' hs hs'
      have CA := fun W (h : Below w.heap.size w W) => implTokLine s1 W (HT.out.keep h) (by omega)
      have CS := fun W => specTokLine s1 W (by omega)
      have CB := fun W (h : Below w.heap.size w W) => implTokLine s2 W (HT.out.keep h) (by omega)
      have CC := fun W (h : Below w.heap.size w W) => implTokLine (catB s1 s2) W (HT.out.keep h) (by rw [catB_size]; omega)
      obtain ⟨f1, f2, f3⟩ := cat_facts s1 s2
      have g1 := lineToks_facts s1
      have g2 := lineToks_facts s2
      unfold LineR at CA CS CB CC
      have hcat : catB s1 s2 = s1 ++ ⟨#[32]⟩ ++ s2 := rfl
      have hz1I : (s1.size : Int) ≤ 200 := by omega
      have hz2I : (s2.size : Int) ≤ 200 := by omega
      generalize lineToks s1 = ts at CA CS f3 g1
      generalize lineToks s2 = us at CB f3 g2
      generalize lineToks (catB s1 s2) = zs at CC f2 f3
      generalize (tokLine s1.data.toList).isSome = ok1 at CA CS f1
      generalize (tokLine s2.data.toList).isSome = ok2 at CB f1
      generalize (tokLine (catB s1 s2).data.toList).isSome = ok3 at CC f1 f2 f3
      rw [hcat] at CC
      have HCA := Lib.hid CA
      have HCS := Lib.hid CS
      have HCB := Lib.hid CB
      have HCC := Lib.hid CC
      have F1 := Lib.hid f1
      have F2 := Lib.hid f2
      have F3 := Lib.hid f3
      have G1 := Lib.hid g1
      have G2 := Lib.hid g2
      clear CA CS CB CC f1 f2 f3 g1 g2 hcat hs1 hs2
      go_wp2_with fail
      refine (HCA.out w2 HB2.out).mono ?_
      rintro e w3 ⟨X, cX, rfl, hcX, hmX, hb3⟩
      have HX3 := Lib.hid hmX.row
      have HB3 : Hid (Below w.heap.size w w3) := HB2.out.trans (hb3.mono HB2.out.size)
      clear hmX hb3 HB2
      go_wp2_with fail
      refine (HCS.out w3).mono ?_
      rintro e w4 ⟨S, cS, rfl, hcS, hmS, hb4⟩
      have HS4 := Lib.hid hmS.row
      have HX4 := Lib.hid ((HX3.out.below hb4).more hb4.size)
      have HB4 : Hid (Below w.heap.size w w4) := HB3.out.trans (hb4.mono HB3.out.size)
      clear hmS hb4 HB3 HX3
      go_wp2_with fail
      refine (HCB.out w4 HB4.out).mono ?_
      rintro e w5 ⟨Y, cY, rfl, hcY, hmY, hb5⟩
      have HY5 := Lib.hid hmY.row
      have HS5 := Lib.hid ((HS4.out.below hb5).more hb5.size)
      have HX5 := Lib.hid ((HX4.out.below hb5).more hb5.size)
      have HB5 : Hid (Below w.heap.size w w5) := HB4.out.trans (hb5.mono HB4.out.size)
      have hoo : (ok1 != ok1) = false := by simp
      have ht120 := G1.out.1
      have hu120 := G2.out.1
      clear hmY hb5 HB4 HX4 HS4
      go_wp2_with fail
      refine (implTokSame X S ts.length cX ts.length cS ts ts w5 HX5.out HS5.out rfl rfl (by omega) (by omega)).mono ?_
      rw [tkSame_true rfl]
      rintro e w6 ⟨rfl, hb6⟩
      have HY6 := Lib.hid ((HY5.out.below hb6).more hb6.size)
      have HX6 := Lib.hid ((HX5.out.below hb6).more hb6.size)
      have HB6 : Hid (Below w.heap.size w w6) := HB5.out.trans (hb6.mono HB5.out.size)
      clear hb6 HB5 HX5 HS5 HY5 hoo
      go_wp2_with fail
      refine (HCC.out w6 HB6.out).mono ?_
      rintro e w7 ⟨Z, cZ, rfl, hcZ, hmZ, hb7⟩
      have HZ7 := Lib.hid hmZ.row
      have HY7 := Lib.hid ((HY6.out.below hb7).more hb7.size)
      have HX7 := Lib.hid ((HX6.out.below hb7).more hb7.size)
      have HB7 : Hid (Below w.heap.size w w7) := HB6.out.trans (hb7.mono HB6.out.size)
      clear hmZ hb7 HB6 HX6 HY6
      cases ok3 with
      | false =>
        have hzs := F2.out rfl
        subst hzs
        have hand : (ok1 && ok2 && decide ((s1.size : Int) + (s2.size : Int) < 120)) = false := F1.out.symm
        by_cases hsum : (s1.size : Int) + (s2.size : Int) < 120
        · rw [decide_eq_true hsum, Bool.and_true] at hand
          cases ok1 with
          | false =>
            clear hand
            go_wp2_with fail
            go_ret
            exact ⟨rfl, HB7.out⟩
          | true =>
            simp only [Bool.true_and] at hand
            subst hand
            go_wp2_with fail
            go_ret
            exact ⟨rfl, HB7.out⟩
        · clear hand
          cases ok1 with
          | false =>
            go_wp2_with fail
            go_ret
            exact ⟨rfl, HB7.out⟩
          | true =>
            cases ok2 with
            | false =>
              go_wp2_with fail
              go_ret
              exact ⟨rfl, HB7.out⟩
            | true =>
              go_wp2_with fail
              go_ret
              exact ⟨rfl, HB7.out⟩
      | true =>
        have hzs := F3.out rfl
        have hand : true = (ok1 && ok2 && decide ((s1.size : Int) + (s2.size : Int) < 120)) := F1.out
        have hok1 : ok1 = true := by
          rcases ok1 with _ | _
          · exact absurd hand (by simp)
          · rfl
        have hok2 : ok2 = true := by
          rcases ok2 with _ | _
          · exact absurd hand (by simp)
          · rfl
        have hsum : (s1.size : Int) + (s2.size : Int) < 120 := by
          subst hok1 hok2
          simpa using hand.symm
        subst hok1 hok2
        obtain ⟨n1, hn1⟩ : ∃ n1, ts.length = n1 := ⟨_, rfl⟩
        obtain ⟨n2, hn2⟩ : ∃ n2, us.length = n2 := ⟨_, rfl⟩
        obtain ⟨m, hm⟩ : ∃ m, zs.length = m := ⟨_, rfl⟩
        have hmm : m = n1 + n2 := by rw [← hm, hzs]; simp; omega
        have HZ1 : Hid (∀ i (h : i < n1), zs[i]? = ts[i]?) := fun i h => by rw [hzs, List.getElem?_append_left (by omega)]
        have HZ2 : Hid (∀ j (h : j < n2), ∃ t, us[j]? = some t ∧ zs[n1 + j]? = some (shTk (s1.size + 1) t)) := fun j h => by
          refine ⟨us[j]'(by omega), List.getElem?_eq_getElem _, ?_⟩
          rw [hzs, List.getElem?_append_right (by omega), show n1 + j - ts.length = j by omega, List.getElem?_map, List.getElem?_eq_getElem (by omega)]; rfl
        rw [hn1] at ht120 hcX ⊢
        rw [hn2] at hu120 hcY ⊢
        rw [hm] at hcZ ⊢
        have HN1 := Lib.hid hn1
        have HN2 := Lib.hid hn2
        have HM := Lib.hid hm
        have HMM := Lib.hid hmm
        have hfin : ((m : Int) == (n1 : Int) + (n2 : Int)) = true := by rw [beq_iff_eq]; omega
        have hm240 : (m : Int) ≤ 240 := by omega
        clear hand hzs hn1 hn2 hm hmm
        go_wp2_with fail
        go_loopw [15] (fun v wr => ∃ k : Nat, v = .int .i64 (k : Int) ∧ k ≤ m ∧ Below w7.heap.size w7 wr) (fun v _ => m - (intOf v).toNat)
        case atStart => exact ⟨0, rfl, Nat.zero_le _, Below.refl _ _⟩
        case round =>
          obtain ⟨k, rfl, hk, hbw⟩ := hrel
          have HBW := Lib.hid hbw
          clear hbw
          by_cases hlt : k < m
          · have hzl : k < zs.length := by rw [HM.out]; exact hlt
            obtain ⟨bz, oz, rfl, hbz, z0, z1, z2⟩ := HZ7.out.tk hzl
            have h0 : (0 : Int) ≤ (k : Int) := by omega
            have hkm : (k : Int) < (m : Int) := by omega
            by_cases hk1 : k < n1
            · have hxl : k < ts.length := by rw [HN1.out]; exact hk1
              obtain ⟨bx, ox, rfl, hbx, x0, x1, x2⟩ := HX7.out.tk hxl
              have hkx : (k : Int) < (n1 : Int) := by omega
              have heq : zs[k] = ts[k] := by
                have := HZ1.out k hk1
                rw [List.getElem?_eq_getElem hzl, List.getElem?_eq_getElem hxl] at this
                exact Option.some.inj this
              rw [heq] at z0 z1 z2
              generalize ts[k] = t at z0 z1 z2 x0 x1 x2
              obtain ⟨tk, tsx, tc⟩ := t
              simp only at z0 z1 z2 x0 x1 x2
              have y0 : ∀ ob, (wr.alloc ob).cell? ⟨bx, ox + k * 3, none⟩ = some (.int .i64 tk) := fun ob => ((HBW.out.alloc HBW.out.size ob).cell (p := ⟨bx, ox + k * 3, none⟩) hbx).trans x0
              have y1 : ∀ ob, (wr.alloc ob).cell? ⟨bx, ox + k * 3 + 1, none⟩ = some (.string tsx) := fun ob => ((HBW.out.alloc HBW.out.size ob).cell (p := ⟨bx, ox + k * 3 + 1, none⟩) hbx).trans x1
              have y2 : ∀ ob, (wr.alloc ob).cell? ⟨bx, ox + k * 3 + 2, none⟩ = some (.int .i64 tc) := fun ob => ((HBW.out.alloc HBW.out.size ob).cell (p := ⟨bx, ox + k * 3 + 2, none⟩) hbx).trans x2
              clear heq hxl hzl x0 x1 x2
              go_wp2_with fail
              have hba : Below wr.heap.size wr (wr.alloc (.cells #[.int .i64 tk, .string tsx, .int .i64 tc] 37)) := (Below.refl _ _).alloc (Nat.le_refl _) _
              have hbl := Blk.alloc_ wr 37 [.int .i64 tk, .string tsx, .int .i64 tc]
              have hblz : w7.heap.size ≤ wr.heap.size := HBW.out.size
              have HBA : Hid (Below w7.heap.size w7 (wr.alloc (.cells #[.int .i64 tk, .string tsx, .int .i64 tc] 37))) := HBW.out.trans (hba.mono HBW.out.size)
              have e0 := hbl.cell 0
              have e1 := hbl.cell 1
              have e2 := hbl.cell 2
              simp only [List.getElem?_cons_zero, List.getElem?_cons_succ] at e0 e1 e2
              change ((wr.alloc (.cells #[.int .i64 tk, .string tsx, .int .i64 tc] 37))).cell? _ = _ at e0 e1 e2
              have q0 := (HBA.out.cell (p := ⟨bz, oz + k * 3, none⟩) hbz).trans z0
              have q1 := (HBA.out.cell (p := ⟨bz, oz + k * 3 + 1, none⟩) hbz).trans z1
              have q2 := (HBA.out.cell (p := ⟨bz, oz + k * 3 + 2, none⟩) hbz).trans z2
              generalize (wr.alloc (.cells #[.int .i64 tk, .string tsx, .int .i64 tc] 37)) = wz at *
              generalize wr.heap.size = gz at *
              clear hba hbl z0 z1 z2 y0 y1 y2
              go_quiet (fail)
              go_wp2_with fail
              go_roundw
              case rel => exact ⟨k + 1, by go_num, by omega, drewN_below HBA.out _⟩
              case measure => simp [intOf]; omega
            · obtain ⟨j, rfl⟩ : ∃ j, k = n1 + j := ⟨k - n1, by omega⟩
              have hj : j < n2 := by have := HMM.out; omega
              have hyl : j < us.length := by rw [HN2.out]; exact hj
              obtain ⟨t, ht1, ht2⟩ := HZ2.out j hj
              rw [List.getElem?_eq_getElem hyl] at ht1
              rw [List.getElem?_eq_getElem hzl] at ht2
              have ht3 := Option.some.inj ht1
              have ht4 := Option.some.inj ht2
              obtain ⟨bx, ox, rfl, hbx, x0, x1, x2⟩ := HY7.out.tk hyl
              rw [ht4] at z0 z1 z2
              have htc := G2.out.2 t (by rw [← ht3]; exact List.getElem_mem hyl)
              rw [ht3] at x0 x1 x2
              clear ht1 ht2 ht3 ht4 hyl hzl
              obtain ⟨tk, tsx, tc⟩ := t
              simp only [shTk] at z0 z1 z2 x0 x1 x2 htc
              rw [show tc + ((s1.size + 1 : Nat) : Int) = tc + (s1.size : Int) + 1 by omega] at z2
              have htc0 : (0 : Int) ≤ tc := htc.1
              have htc1 : tc ≤ 120 := htc.2.1
              have hnk : ¬ (((n1 + j : Nat) : Int) < (n1 : Int)) := by omega
              have hsub : ((n1 + j : Nat) : Int) - (n1 : Int) = (j : Int) := by omega
              have hj0 : (0 : Int) ≤ (j : Int) := by omega
              have hjn : (j : Int) < (n2 : Int) := by omega
              obtain ⟨k, hk9⟩ : ∃ k, k = n1 + j := ⟨_, rfl⟩
              rw [← hk9] at z0 z1 z2 hnk hsub h0 hkm hlt hk hk1 ⊢
              have HK9 := Lib.hid hk9
              have y0 : ∀ ob, (wr.alloc ob).cell? ⟨bx, ox + j * 3, none⟩ = some (.int .i64 tk) := fun ob => ((HBW.out.alloc HBW.out.size ob).cell (p := ⟨bx, ox + j * 3, none⟩) hbx).trans x0
              have y1 : ∀ ob, (wr.alloc ob).cell? ⟨bx, ox + j * 3 + 1, none⟩ = some (.string tsx) := fun ob => ((HBW.out.alloc HBW.out.size ob).cell (p := ⟨bx, ox + j * 3 + 1, none⟩) hbx).trans x1
              have y2 : ∀ ob, (wr.alloc ob).cell? ⟨bx, ox + j * 3 + 2, none⟩ = some (.int .i64 tc) := fun ob => ((HBW.out.alloc HBW.out.size ob).cell (p := ⟨bx, ox + j * 3 + 2, none⟩) hbx).trans x2
              clear x0 x1 x2 htc hk9 hj
              go_wp2_with fail
              have hba : Below wr.heap.size wr (wr.alloc (.cells #[.int .i64 tk, .string tsx, .int .i64 (tc + (s1.size : Int) + 1)] 37)) := (Below.refl _ _).alloc (Nat.le_refl _) _
              have hbl := Blk.alloc_ wr 37 [.int .i64 tk, .string tsx, .int .i64 (tc + (s1.size : Int) + 1)]
              have hblz : w7.heap.size ≤ wr.heap.size := HBW.out.size
              have HBA : Hid (Below w7.heap.size w7 (wr.alloc (.cells #[.int .i64 tk, .string tsx, .int .i64 (tc + (s1.size : Int) + 1)] 37))) := HBW.out.trans (hba.mono HBW.out.size)
              have e0 := hbl.cell 0
              have e1 := hbl.cell 1
              have e2 := hbl.cell 2
              simp only [List.getElem?_cons_zero, List.getElem?_cons_succ] at e0 e1 e2
              change ((wr.alloc (.cells #[.int .i64 tk, .string tsx, .int .i64 (tc + (s1.size : Int) + 1)] 37))).cell? _ = _ at e0 e1 e2
              have q0 := (HBA.out.cell (p := ⟨bz, oz + k * 3, none⟩) hbz).trans z0
              have q1 := (HBA.out.cell (p := ⟨bz, oz + k * 3 + 1, none⟩) hbz).trans z1
              have q2 := (HBA.out.cell (p := ⟨bz, oz + k * 3 + 2, none⟩) hbz).trans z2
              generalize (wr.alloc (.cells #[.int .i64 tk, .string tsx, .int .i64 (tc + (s1.size : Int) + 1)] 37)) = wz at *
              generalize wr.heap.size = gz at *
              clear hba hbl z0 z1 z2 y0 y1 y2
              go_quiet (fail)
              go_wp2_with fail
              go_roundw
              case rel => exact ⟨k + 1, by go_num, by omega, drewN_below HBA.out _⟩
              case measure => simp [intOf]; omega
          · obtain rfl : k = m := by omega
            go_wp2_with fail
            go_ret
            exact ⟨rfl, HB7.out.trans (HBW.out.mono HB7.out.size)⟩
end Go.Proofs.YtlhmebdljamgkaaDoor
