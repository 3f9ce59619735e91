/- The walk of FnTextCat. -/
import Derived.Test.YtdimljolinmofaaDoorTLL
import Derived.Test.YtdimljolinmofaaDoorDrawY
import Derived.BigQuiet
import Derived.Deep.QuietTactic
namespace Go.Proofs.YtdimljolinmofaaDoor
open Go.RowKit Ilp
set_option linter.unusedVariables false

theorem cutB_parts (s t : ByteArray) : ∃ (P : List ByteArray) (X Y : ByteArray) (Q : List ByteArray), cutB s = P ++ [X] ∧ cutB t = Y :: Q ∧ cutB (s ++ t) = P ++ (X ++ Y) :: Q := by
  have h1 : cutB s ≠ [] := by
    intro h; have := cut_ne s.data.toList; rw [← dats_cutB, h] at this; exact this rfl
  obtain ⟨y, q, hq⟩ := cut_cons t.data.toList
  obtain ⟨P, X, hP⟩ : ∃ P X, cutB s = P ++ [X] := ⟨_, _, (List.dropLast_concat_getLast h1).symm⟩
  have ht : cutB t = mkB y :: q.map mkB := by unfold cutB; rw [hq]; rfl
  have hs : cut s.data.toList = dats P ++ [X.data.toList] := by rw [← dats_cutB, hP]; simp [dats]
  have e := cut_cat s.data.toList t.data.toList (dats P) X.data.toList y q hs hq
  refine ⟨P, X, mkB y, q.map mkB, hP, ht, ?_⟩
  apply dats_inj
  rw [dats_cutB, ByteArray.data_append, Array.toList_append, e]
  have h2 : ∀ l : List (List UInt8), dats (l.map mkB) = l := fun l => by
    simp only [dats, List.map_map]; conv => rhs; rw [← List.map_id l]
    congr 1
  simp only [dats, List.map_append, List.map_cons, ByteArray.data_append, Array.toList_append, mkB_data]
  congr 2
  exact (h2 q).symm

theorem cutB_mem_le {s X : ByteArray} (h : X ∈ cutB s) : X.size ≤ s.size := by
  unfold cutB at h
  obtain ⟨l, hl, rfl⟩ := List.mem_map.1 h
  rw [mkB_size]
  have := cut_piece_le _ _ hl
  simpa using this

set_option maxHeartbeats 8000000 in
set_option maxRecDepth 100000 in
theorem law_FnTextCat (a : Option Addr) (n c : Nat) (z : List Int) (a' : Option Addr) (n' c' : Nat) (z' : List Int) (w : World) (hsh : w.ShapedOpen Tryd.prog) (hT : Tabs w) (hz : IsRow .u8 w a n c z) (hz' : IsRow .u8 w a' n' c' z') :
    Calls Tryd.prog 6 #[.slice a n c, .slice a' n' c'] w fun e w' => e = .returned (.bool true) ∧ Below w.heap.size w w' := by
  clear hsh
  obtain ⟨_, _, hnc, hn, hc, _⟩ := hz.row
  obtain ⟨_, _, hnc', hn', hc', _⟩ := hz'.row
  have HZ := Lib.hid hz; clear hz
  have HZ' := Lib.hid hz'; clear hz'
  have HT := Lib.hid hT; clear hT
  by_cases hbig : (1048576 : Int) < (n : Int)
  · go_enter Tryd.func6, Tryd.ntmps6
    go_wp2
    go_ret
    exact ⟨rfl, Below.refl _ _⟩
  · by_cases hbig' : (1048576 : Int) < (n' : Int)
    · go_enter Tryd.func6, Tryd.ntmps6
      go_wp2
      go_ret
      exact ⟨rfl, Below.refl _ _⟩
    · have hs : (n : Int) ≤ 1048576 := by omega
      have hs' : (n' : Int) ≤ 1048576 := by omega
      clear hbig hbig' hn hn' hc hc' hnc hnc'
      go_enter Tryd.func6, Tryd.ntmps6
      go_wp2_with fail
      refine (drawTextLines a n c z w HZ.out).mono ?_
      rintro e w1 ⟨s, rfl, hss, hb1⟩
      have HZ1 : Hid (IsRow .u8 w1 a' n' c' z') := isRow_below HZ'.out hb1
      go_wp2_with fail
      refine (drawTextLines a' n' c' z' w1 HZ1.out).mono ?_
      rintro e w2 ⟨t, rfl, hst, hb2⟩
      have hB2 := hb1.trans (hb2.mono hb1.size)
      have hss' : (s.size : Int) ≤ 5000 := by omega
      have hst' : (t.size : Int) ≤ 5000 := by omega
      have HT2 : Hid (Tabs w2) := HT.out.keep hB2
      have HB2 := Lib.hid hB2
      have ci := implLines s w2 HT2.out (by omega)
      have cs := fun W => specTextLines s W (by omega)
      have hle := linesOf_le s
      obtain ⟨xs, hxs⟩ : ∃ xs, linesOf s = xs := ⟨_, rfl⟩
      rw [hxs] at ci cs hle
      have CS := Lib.hid cs
      have HXS := Lib.hid hxs
      obtain ⟨N, hN⟩ : ∃ N, xs.length = N := ⟨_, rfl⟩
      have HN : Hid (xs.length = N) := hN
      have hN' : (N : Int) ≤ 5001 := by omega
      clear cs hxs hle hN hb1 hb2 hB2
      go_wp2_with fail
      refine ci.mono ?_
      clear ci
      rintro e w3 ⟨A, rfl, hm, hb3⟩
      rw [HN.out]
      have HM3 := Lib.hid hm.row
      have HT3 : Hid (Tabs w3) := HT2.out.keep hb3
      have HB3 : Hid (Below w.heap.size w w3) := HB2.out.trans (hb3.mono HB2.out.size)
      clear hm hb3
      have hNN : ((N : Int) != (N : Int)) = false := by simp
      go_wp2_with fail
      refine (CS.out w3).mono ?_
      rintro e w4 ⟨A4, c4, rfl, hc4, _, hb4⟩
      rw [HN.out]
      have hs4 := hb4.size
      have HR4 := Lib.hid ((HM3.out.below hb4).more hs4)
      have HT4 : Hid (Tabs w4) := HT3.out.keep hb4
      have HB4 : Hid (Below w.heap.size w w4) := HB3.out.trans (hb4.mono HB3.out.size)
      clear hb4 hs4 hc4 HM3
      go_wp2_with fail
      refine (specTextOk s _ (by omega)).mono ?_; rintro e w5 ⟨rfl, rfl⟩
      cases hok : textOk s.data.toList with
      | false =>
        clear hok
        go_wp2_with fail
        refine (CS.out w4).mono ?_
        rintro e w5 ⟨A5, c5, rfl, hc5, _, hb5⟩
        rw [HN.out]
        have HB5 : Hid (Below w.heap.size w w5) := HB4.out.trans (hb5.mono HB4.out.size)
        clear hb5
        go_wp2_with fail
        go_ret
        exact ⟨by simp, HB5.out⟩
      | true =>
        have HOKS := Lib.hid hok
        clear hok
        go_wp2_with fail
        refine (specTextOk t _ (by omega)).mono ?_; rintro e w5 ⟨rfl, rfl⟩
        cases hok : textOk t.data.toList with
        | false =>
          clear hok
          go_wp2_with fail
          refine (CS.out w4).mono ?_
          rintro e w5 ⟨A5, c5, rfl, hc5, _, hb5⟩
          rw [HN.out]
          have HB5 : Hid (Below w.heap.size w w5) := HB4.out.trans (hb5.mono HB4.out.size)
          clear hb5
          go_wp2_with fail
          go_ret
          exact ⟨by simp, HB5.out⟩
        | true =>
          have HOKT := Lib.hid hok
          have hcat : (s ++ t).size = s.size + t.size := ByteArray.size_append
          have hcat' : ((s ++ t).size : Int) ≤ 10000 := by omega
          have ck := specTextOk (s ++ t) w4 (by omega)
          have CK := Lib.hid ck
          have HC' := Lib.hid hcat'
          clear hok hcat hcat' ck
          go_wp2_with fail
          refine CK.out.mono ?_; rintro e w5 ⟨rfl, rfl⟩
          cases hok : textOk (s ++ t).data.toList with
          | false =>
            clear hok
            go_wp2_with fail
            refine (CS.out w4).mono ?_
            rintro e w5 ⟨A5, c5, rfl, hc5, _, hb5⟩
            rw [HN.out]
            have HB5 : Hid (Below w.heap.size w w5) := HB4.out.trans (hb5.mono HB4.out.size)
            clear hb5
            go_wp2_with fail
            go_ret
            exact ⟨by simp, HB5.out⟩
          | true =>
            obtain ⟨P, X, Y, Q, hP, hQ, hPQ⟩ := cutB_parts s t
            have hxs : xs = P ++ [X] := by rw [← HXS.out, linesOf_ok HOKS.out, hP]
            subst hxs
            have ct := fun W h => implLines t W h (by omega)
            have cst := fun W h => implLines (s ++ t) W h (by have := HC'.out; omega)
            rw [linesOf_ok HOKT.out, hQ] at ct
            rw [linesOf_ok hok, hPQ] at cst
            have CT := Lib.hid ct
            have CST := Lib.hid cst
            obtain ⟨p, hp⟩ : ∃ p, P.length = p := ⟨_, rfl⟩
            obtain ⟨q, hq⟩ : ∃ q, Q.length = q := ⟨_, rfl⟩
            have HP := Lib.hid hp
            have HQ := Lib.hid hq
            obtain rfl : N = p + 1 := by rw [← HN.out, ← hp]; simp
            have HY : Hid ((Y :: Q).length = q + 1) := by unfold Hid; rw [← hq]; rfl
            have HZl : Hid ((P ++ (X ++ Y) :: Q).length = p + (q + 1)) := by unfold Hid; rw [← hp, ← hq]; simp
            have hql : (q : Int) ≤ 10002 := by
              have h := linesOf_le t
              rw [linesOf_ok HOKT.out, hQ, HY.out] at h
              omega
            have hp0 : (p : Int) ≤ 5000 := by omega
            have hXs : (X.size : Int) ≤ 5000 := by
              have := cutB_mem_le (s := s) (X := X) (by rw [hP]; simp)
              omega
            have hYs : (Y.size : Int) ≤ 5000 := by
              have := cutB_mem_le (s := t) (X := Y) (by rw [hQ]; simp)
              omega
            clear hok hP hQ hPQ ct cst hp hq hNN
            go_wp2_with fail
            refine (CT.out w4 HT4.out).mono ?_
            rintro e w5 ⟨A5, rfl, hm5, hb5⟩
            rw [HY.out]
            have hs5 := hb5.size
            have HR5 := Lib.hid ((HR4.out.below hb5).more hs5)
            have HM5 := Lib.hid hm5.row
            have HT5 : Hid (Tabs w5) := HT4.out.keep hb5
            have HB5 : Hid (Below w.heap.size w w5) := HB4.out.trans (hb5.mono HB4.out.size)
            clear hb5 hm5 hs5
            go_wp2_with fail
            refine (CST.out w5 HT5.out).mono ?_
            rintro e w6 ⟨A6, rfl, hm6, hb6⟩
            rw [HZl.out]
            have hs6 := hb6.size
            have HR6 := Lib.hid ((HR5.out.below hb6).more hs6)
            have HM6 := Lib.hid ((HM5.out.below hb6).more hs6)
            have HC6 := Lib.hid hm6.row
            have HB6 : Hid (Below w.heap.size w w6) := HB5.out.trans (hb6.mono HB5.out.size)
            clear hb6 hm6 hs6 CT CST CS CK
            obtain ⟨b4, o4, rfl, hb4, hX⟩ := HR6.out.at_ (i := p) (by rw [strB_length, HN.out]; omega)
            obtain ⟨b5, o5, rfl, hb5, hY⟩ := HM6.out.at_ (i := 0) (by rw [strB_length, HY.out]; omega)
            obtain ⟨b6, o6, rfl, hb6, hXY⟩ := HC6.out.at_ (i := p) (by rw [strB_length, HZl.out]; omega)
            have cX : w6.cell? ⟨b4, o4 + p, none⟩ = some (.string X) := by rw [hX]; simp [strB, ← HP.out]
            have cY : w6.cell? ⟨b5, o5, none⟩ = some (.string Y) := by rw [Nat.add_zero] at hY; rw [hY]; simp [strB]
            have cZ : w6.cell? ⟨b6, o6 + p, none⟩ = some (.string (X ++ Y)) := by rw [hXY]; simp [strB, ← HP.out]
            have HA1 : Hid (∀ k (h : k < P.length), w6.cell? ⟨b4, o4 + k, none⟩ = some (.string P[k])) := fun k h => by
              obtain ⟨b, o, e, _, hc⟩ := HR6.out.at_ (i := k) (by rw [strB_length, HN.out, ← HP.out]; omega)
              simp only [Option.some.injEq, Addr.mk.injEq] at e; obtain ⟨rfl, rfl, _⟩ := e
              rw [hc]; simp only [strB, List.getElem_map]; rw [List.getElem_append_left h]
            have HA2 : Hid (∀ k (h : k < P.length), w6.cell? ⟨b6, o6 + k, none⟩ = some (.string P[k])) := fun k h => by
              obtain ⟨b, o, e, _, hc⟩ := HC6.out.at_ (i := k) (by rw [strB_length, HZl.out, ← HP.out]; omega)
              simp only [Option.some.injEq, Addr.mk.injEq] at e; obtain ⟨rfl, rfl, _⟩ := e
              rw [hc]; simp only [strB, List.getElem_map]; rw [List.getElem_append_left h]
            have HA3 : Hid (∀ j (h : j < Q.length), w6.cell? ⟨b6, o6 + (p + 1 + j), none⟩ = some (.string Q[j])) := fun j h => by
              obtain ⟨b, o, e, _, hc⟩ := HC6.out.at_ (i := p + 1 + j) (by rw [strB_length, HZl.out, ← HQ.out]; omega)
              simp only [Option.some.injEq, Addr.mk.injEq] at e; obtain ⟨rfl, rfl, _⟩ := e
              rw [hc]
              have h3 : (P ++ (X ++ Y) :: Q)[p + 1 + j]? = some Q[j] := by
                rw [List.getElem?_append_right (by rw [HP.out]; omega), HP.out, show p + 1 + j - p = j + 1 by omega, List.getElem?_cons_succ, List.getElem?_eq_getElem h]
              have h4 := (List.getElem?_eq_some_iff.1 h3).2
              simp only [strB, List.getElem_map]; rw [h4]
            have HA4 : Hid (∀ j (h : j < Q.length), w6.cell? ⟨b5, o5 + (j + 1), none⟩ = some (.string Q[j])) := fun j h => by
              obtain ⟨b, o, e, _, hc⟩ := HM6.out.at_ (i := j + 1) (by rw [strB_length, HY.out, ← HQ.out]; omega)
              simp only [Option.some.injEq, Addr.mk.injEq] at e; obtain ⟨rfl, rfl, _⟩ := e
              rw [hc]; simp only [strB, List.getElem_map, List.getElem_cons_succ]
            clear hX hY hXY hb4 hb5 hb6
            have hq0 : (0 : Int) ≤ (q : Int) := by omega
            have hp00 : (0 : Int) ≤ (p : Int) := by omega
            go_wp2_with fail
            go_quiet (fail)
            go_wp2_with fail
            clear cX cY cZ
            go_loopw [11] (fun v wr => ∃ k : Nat, v = .int .i64 (k : Int) ∧ k ≤ p + (q + 1) ∧ Below w6.heap.size w6 wr) (fun v _ => p + (q + 1) - (intOf v).toNat)
            case atStart => exact ⟨0, rfl, Nat.zero_le _, drewN_below (Below.refl _ _) _⟩
            case round =>
              obtain ⟨k, rfl, hk, hbw⟩ := hrel
              have HBW := Lib.hid hbw
              clear hbw
              by_cases hlt : k < p + (q + 1)
              · by_cases hkp : k < p
                · have c1 := (HBW.out.cell (p := ⟨b4, o4 + k, none⟩) (cell_lt (HA1.out k (by rw [HP.out]; exact hkp)))).trans (HA1.out k (by rw [HP.out]; exact hkp))
                  have c2 := (HBW.out.cell (p := ⟨b6, o6 + k, none⟩) (cell_lt (HA2.out k (by rw [HP.out]; exact hkp)))).trans (HA2.out k (by rw [HP.out]; exact hkp))
                  generalize P[k]'(by rw [HP.out]; exact hkp) = U at *
                  have g0 : (0 : Int) ≤ (k : Int) := by omega
                  have g1 : (k : Int) < (p : Int) := by omega
                  have g2 : decide (p < k) = false := decide_eq_false (by omega)
                  go_wp2_with fail
                  go_quiet (fail)
                  go_wp2_with fail
                  go_roundw
                  case rel => exact ⟨k + 1, by go_num, by omega, drewN_below HBW.out _⟩
                  case measure => simp [intOf]; omega
                · have g3 : decide (k < p) = false := decide_eq_false hkp
                  by_cases hpk : p < k
                  · obtain ⟨j, rfl⟩ : ∃ j, k = p + 1 + j := ⟨k - p - 1, by omega⟩
                    have hj : j < Q.length := by rw [HQ.out]; omega
                    have c1 := (HBW.out.cell (p := ⟨b6, o6 + (p + 1 + j), none⟩) (cell_lt (HA3.out j hj))).trans (HA3.out j hj)
                    have c2 := (HBW.out.cell (p := ⟨b5, o5 + (j + 1), none⟩) (cell_lt (HA4.out j hj))).trans (HA4.out j hj)
                    generalize Q[j] = U at *
                    obtain ⟨k, hk2⟩ : ∃ k, k = p + 1 + j := ⟨_, rfl⟩
                    rw [← hk2] at c1 hk hlt hkp g3 hpk ⊢
                    have g0 : (0 : Int) ≤ (k : Int) := by omega
                    have g1 : (p : Int) < (k : Int) := by omega
                    have g4 : (0 : Int) ≤ (k : Int) - (p : Int) := by omega
                    have g5 : (k : Int) - (p : Int) < (q : Int) + 1 := by omega
                    have g6 : ((k : Int) - (p : Int)).toNat = j + 1 := by omega
                    have g7 : (k : Int) < (p : Int) + ((q : Int) + 1) := by omega
                    clear hj hk2
                    go_wp2_with fail
                    go_quiet (fail)
                    go_wp2_with fail
                    go_roundw
                    case rel => exact ⟨k + 1, by go_num, by omega, drewN_below HBW.out _⟩
                    case measure => simp [intOf]; omega
                  · have g4 : decide (p < k) = false := decide_eq_false hpk
                    go_wp2_with fail
                    go_quiet (fail)
                    go_wp2_with fail
                    go_roundw
                    case rel => exact ⟨k + 1, by go_num, by omega, drewN_below HBW.out _⟩
                    case measure => simp [intOf]; omega
              · obtain rfl : k = p + (q + 1) := by omega
                go_wp2_with fail
                go_ret
                exact ⟨rfl, HB6.out.trans (HBW.out.mono HB6.out.size)⟩
end Go.Proofs.YtdimljolinmofaaDoor
