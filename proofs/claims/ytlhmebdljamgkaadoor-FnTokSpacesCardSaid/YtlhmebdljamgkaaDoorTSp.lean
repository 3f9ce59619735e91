/- The walk of FnTokSpaces. -/
import Derived.Test.YtlhmebdljamgkaaDoorTTL
import Derived.Test.YtlhmebdljamgkaaDoorTC3
namespace Go.Proofs.YtlhmebdljamgkaaDoor
open Go.RowKit Ilp
set_option linter.unusedVariables false

def padB (j : Nat) : ByteArray := ⟨(List.replicate j 32).toArray⟩
theorem padB_data (j : Nat) : (padB j).data.toList = List.replicate j 32 := by simp [padB]
theorem padB_size (j : Nat) : (padB j).size = j := by simp [padB, ByteArray.size]
theorem nine_pad {j : Nat} (h : j < 9) : (ByteArray.mk #[32, 32, 32, 32, 32, 32, 32, 32, 32]).extract 0 j = padB j := by
  match j, h with
  | 0, _ => rfl
  | 1, _ => rfl
  | 2, _ => rfl
  | 3, _ => rfl
  | 4, _ => rfl
  | 5, _ => rfl
  | 6, _ => rfl
  | 7, _ => rfl
  | 8, _ => rfl
theorem pad_ahead {s : ByteArray} {j : Nat} (hs : s.size ≤ 110) (hj : j < 9) : (tokLine (padB j ++ s).data.toList).isSome = (tokLine s.data.toList).isSome ∧ lineToks (padB j ++ s) = (lineToks s).map (shTk j) := by
  have h1 : (padB j ++ s).data.toList = List.replicate j 32 ++ s.data.toList := by rw [← padB_data]; simp
  have h2 : tokLine (padB j ++ s).data.toList = (words s.data.toList).map (·.map (sh j)) := by
    rw [tokLine_short (by rw [ByteArray.size_append, padB_size]; omega), h1, words_pad]
  have h3 : tokLine s.data.toList = words s.data.toList := tokLine_short (by omega)
  unfold lineToks
  rw [h2, h3]
  cases words s.data.toList with
  | none => simp
  | some x =>
    refine ⟨rfl, ?_⟩
    simp only [Option.map_some, Option.getD_some, List.map_map]
    congr 1
theorem pad_behind {s : ByteArray} {j : Nat} (hs : s.size ≤ 110) (hj : j < 9) : (tokLine (s ++ padB j).data.toList).isSome = (tokLine s.data.toList).isSome ∧ lineToks (s ++ padB j) = lineToks s := by
  have h1 : (s ++ padB j).data.toList = s.data.toList ++ List.replicate j 32 := by rw [← padB_data]; simp
  have h2 : tokLine (s ++ padB j).data.toList = words s.data.toList := by
    rw [tokLine_short (by rw [ByteArray.size_append, padB_size]; omega), h1, words_back]
  have h3 : tokLine s.data.toList = words s.data.toList := tokLine_short (by omega)
  unfold lineToks
  rw [h2, h3]
  exact ⟨rfl, rfl⟩
theorem line_kinds (s : ByteArray) : ∀ t ∈ lineToks s, Word t.s.data.toList ∧ t.kind = (tokKind t.s.data.toList : Int) := by
  unfold lineToks
  cases h : tokLine s.data.toList with
  | none => simp
  | some ts =>
    have hsz : s.size ≤ 120 := by
      by_cases e : s.size ≤ 120
      · exact e
      · rw [tokLine_long e] at h; cases h
    have hw : words s.data.toList = some ts := by rw [← tokLine_short hsz]; exact h
    intro t ht
    simp only [Option.getD_some, List.mem_map] at ht
    obtain ⟨x, hx, rfl⟩ := ht
    have := toks_words _ _ _ _ hw x hx
    simp only [toTk, mkB_data]
    exact ⟨this.1, by rw [this.2.1]⟩
theorem again_facts {ts : List Tk} (h : ∀ t ∈ ts, Word t.s.data.toList ∧ t.kind = (tokKind t.s.data.toList : Int)) (hs : (joinB 32 (ts.map (·.s))).size ≤ 120) :
    (tokLine (joinB 32 (ts.map (·.s))).data.toList).isSome = true ∧ (lineToks (joinB 32 (ts.map (·.s)))).length = ts.length ∧
    ∀ i (hi : i < ts.length), ∃ t, (lineToks (joinB 32 (ts.map (·.s))))[i]? = some t ∧ t.s = ts[i].s ∧ t.kind = ts[i].kind := by
  have hw : ∀ x ∈ ts.map (·.s), Word x.data.toList := fun x hx => by
    obtain ⟨t, ht, rfl⟩ := List.mem_map.1 hx
    exact (h t ht).1
  have hl := line_of_words hw hs
  have e : lineToks (joinB 32 (ts.map (·.s))) = (place 0 (dats (ts.map (·.s)))).map toTk := by unfold lineToks; rw [hl]; rfl
  refine ⟨by rw [hl]; rfl, by rw [e, List.length_map, place_length]; simp [dats], fun i hi => ?_⟩
  have hd : i < (dats (ts.map (·.s))).length := by simp [dats]; exact hi
  have e2 : (dats (ts.map (·.s)))[i] = ts[i].s.data.toList := by simp [dats]
  refine ⟨toTk ⟨tokKind (dats (ts.map (·.s)))[i], (dats (ts.map (·.s)))[i], 0 + offs (dats (ts.map (·.s))) i⟩, by rw [e, List.getElem?_map, place_at _ 0 i hd]; rfl, ?_, ?_⟩
  · simp only [toTk]; rw [e2, data_mkB]
  · simp only [toTk]; rw [e2, (h ts[i] (List.getElem_mem hi)).2]

set_option maxHeartbeats 16000000 in
set_option maxRecDepth 20000 in
theorem law_FnTokSpaces (a : Option Addr) (n c : Nat) (z : List Int) (a' : Option Addr) (n' c' : Nat) (z' : List Int) (w : World) (hsh : w.ShapedOpen Tryd.prog) (hT : Tabs w) (hz : IsRow .u8 w a n c z) (hz' : IsRow .u8 w a' n' c' z') :
    Calls Tryd.prog 10 #[.slice a n c, .slice a' n' c'] w fun e w' => e = .returned (.bool true) ∧ Below w.heap.size w w' := by
  clear hsh
  obtain ⟨i0, hi, hz0, hz1, hz2⟩ := info_parts strInfo
  obtain ⟨_, _, hnc, hn, hc, _⟩ := hz.row
  obtain ⟨_, _, hnc', hn', hc', _⟩ := hz'.row
  have HZ := Lib.hid hz; clear hz
  have HT := Lib.hid hT; clear hT hz'
  by_cases hbig : (1048576 : Int) < (n : Int)
  · go_enter Tryd.func10, Tryd.ntmps10
    go_wp2
    go_ret
    exact ⟨rfl, Below.refl _ _⟩
  · by_cases hbig' : (1048576 : Int) < (n' : Int)
    · go_enter Tryd.func10, Tryd.ntmps10
      go_wp2
      go_ret
      exact ⟨rfl, Below.refl _ _⟩
    · clear hn hc hc' hnc hnc'
      go_enter Tryd.func10, Tryd.ntmps10
      go_wp2_with fail
      refine (drawTokLine a n c z w HZ.out).mono ?_
      rintro e w1 ⟨s, rfl, hs, hb1⟩
      have HB1 := Lib.hid hb1
      clear hb1 HZ hbig hbig'
      have CA := fun W (h : Below w.heap.size w W) => implTokLine s W (HT.out.keep h) (by omega)
      have CS := fun W => specTokLine s W (by omega)
      have g1 := lineToks_facts s
      have g2 := line_kinds s
      have hsI : (s.size : Int) ≤ 200 := by omega
      have P1 : ∀ j, j < 9 → s.size ≤ 110 → ∀ W, Below w.heap.size w W → Calls Tryd.prog 19 #[.string (padB j ++ s)] W fun e w' => ∃ A c, e = .returned (.tuple #[.slice A (lineToks s).length c, .bool (tokLine s.data.toList).isSome]) ∧ (lineToks s).length ≤ c ∧ Row w' w'.heap.size A (tksV ((lineToks s).map (shTk j))) ∧ Below W.heap.size W w' := by
        intro j hj h110 W hb
        obtain ⟨p1, p2⟩ := pad_ahead h110 hj
        refine (implTokLine (padB j ++ s) W (HT.out.keep hb) (by rw [ByteArray.size_append, padB_size]; omega)).mono ?_
        rintro e w' ⟨A, c, rfl, h1, h2, h3⟩
        rw [p2, List.length_map] at h1 ⊢
        rw [p2] at h2
        rw [p1]
        exact ⟨A, c, rfl, h1, h2.row, h3⟩
      have P2 : ∀ j, j < 9 → s.size ≤ 110 → ∀ W, Below w.heap.size w W → Calls Tryd.prog 19 #[.string (s ++ padB j)] W fun e w' => ∃ A c, e = .returned (.tuple #[.slice A (lineToks s).length c, .bool (tokLine s.data.toList).isSome]) ∧ (lineToks s).length ≤ c ∧ Row w' w'.heap.size A (tksV (lineToks s)) ∧ Below W.heap.size W w' := by
        intro j hj h110 W hb
        obtain ⟨p1, p2⟩ := pad_behind h110 hj
        refine (implTokLine (s ++ padB j) W (HT.out.keep hb) (by rw [ByteArray.size_append, padB_size]; omega)).mono ?_
        rintro e w' ⟨A, c, rfl, h1, h2, h3⟩
        rw [p2] at h1 h2 ⊢
        rw [p1]
        exact ⟨A, c, rfl, h1, h2.row, h3⟩
      unfold LineR at CA CS
      generalize lineToks s = ts at CA CS g1 g2 P1 P2
      generalize (tokLine s.data.toList).isSome = ok at CA CS P1 P2
      obtain ⟨m, hm⟩ : ∃ m, ts.length = m := ⟨_, rfl⟩
      rw [hm] at CA CS P1 P2
      have HCA := Lib.hid CA
      have HCS := Lib.hid CS
      have HP1 := Lib.hid P1
      have HP2 := Lib.hid P2
      have G1 := Lib.hid g1
      have G2 := Lib.hid g2
      have HM := Lib.hid hm
      have hm120 : (m : Int) ≤ 120 := by have := g1.1; omega
      have hoo : (ok != ok) = false := by simp
      have hoo2 : (ok == ok) = true := by simp
      clear CA CS P1 P2 g1 g2 hm
      go_wp2_with fail
      refine (HCA.out w1 HB1.out).mono ?_
      rintro e w2 ⟨X, cX, rfl, hcX, hmX, hb2⟩
      have HX2 := Lib.hid hmX.row
      have HB2 : Hid (Below w.heap.size w w2) := HB1.out.trans (hb2.mono HB1.out.size)
      clear hmX hb2 HB1
      go_wp2_with fail
      refine (HCS.out w2).mono ?_
      rintro e w3 ⟨S, cS, rfl, hcS, hmS, hb3⟩
      have HS3 := Lib.hid hmS.row
      have HX3 := Lib.hid ((HX2.out.below hb3).more hb3.size)
      have HB3 : Hid (Below w.heap.size w w3) := HB2.out.trans (hb3.mono HB2.out.size)
      clear hmS hb3 HB2 HX2
      go_wp2_with fail
      refine (implTokSame X S m cX m cS ts ts w3 HX3.out HS3.out HM HM (by omega) (by omega)).mono ?_
      rw [tkSame_true rfl]
      rintro e w4 ⟨rfl, hb4⟩
      have HX4 := Lib.hid ((HX3.out.below hb4).more hb4.size)
      have HS4 := Lib.hid ((HS3.out.below hb4).more hb4.size)
      have HB4 : Hid (Below w.heap.size w w4) := HB3.out.trans (hb4.mono HB3.out.size)
      clear hb4 HB3 HX3 HS3
      by_cases h110 : (110 : Int) < (s.size : Int)
      · go_wp2_with fail
        refine (implTokSame X S m cX m cS ts ts w4 HX4.out HS4.out HM HM (by omega) (by omega)).mono ?_
        rw [tkSame_true rfl]
        rintro e w5 ⟨rfl, hb5⟩
        have HB5 : Hid (Below w.heap.size w w5) := HB4.out.trans (hb5.mono HB4.out.size)
        clear hb5
        go_wp2_with fail
        go_ret
        exact ⟨rfl, HB5.out⟩
      · have h110' : s.size ≤ 110 := by omega
        have hj9 : n' % 9 < 9 := Nat.mod_lt _ (by omega)
        have hnp := nine_pad hj9
        have hpz := padB_size (n' % 9)
        have hmod : (n' : Int) % 9 = ((n' % 9 : Nat) : Int) := by omega
        have Q1 := HP1.out (n' % 9) hj9 h110'
        have Q2 := HP2.out (n' % 9) hj9 h110'
        obtain ⟨j, hj⟩ : ∃ j, n' % 9 = j := ⟨_, rfl⟩
        rw [hj] at hnp hpz hmod Q1 Q2 hj9
        have hj9I : (j : Int) ≤ 9 := by omega
        have hj0 : (0 : Int) ≤ (j : Int) := by omega
        have HQ1 := Lib.hid Q1
        have HQ2 := Lib.hid Q2
        obtain ⟨pd, hpd⟩ : ∃ pd, padB j = pd := ⟨_, rfl⟩
        rw [hpd] at hnp hpz HQ1 HQ2
        clear Q1 Q2 hj HP1 HP2 hpd
        go_wp2_with fail
        refine (HQ1.out w4 HB4.out).mono ?_
        rintro e w5 ⟨A5, c5, rfl, hc5, hr5, hb5⟩
        have HA5 := Lib.hid hr5
        have HX5 := Lib.hid ((HX4.out.below hb5).more hb5.size)
        have HB5 : Hid (Below w.heap.size w w5) := HB4.out.trans (hb5.mono HB4.out.size)
        clear hr5 hb5 HB4 HX4 HS4
        go_wp2_with fail
        refine (HQ2.out w5 HB5.out).mono ?_
        rintro e w6 ⟨B6, c6, rfl, hc6, hr6, hb6⟩
        have HBB := Lib.hid hr6
        have HA6 := Lib.hid ((HA5.out.below hb6).more hb6.size)
        have HX6 := Lib.hid ((HX5.out.below hb6).more hb6.size)
        have HB6 : Hid (Below w.heap.size w w6) := HB5.out.trans (hb6.mono HB5.out.size)
        have hmm : ((m : Int) != (m : Int)) = false := by simp
        clear hr6 hb6 HB5 HX5 HA5 HQ1 HQ2
        go_wp2_with fail
        refine (implTokSame B6 X m c6 m cX ts ts w6 HBB.out HX6.out HM HM (by omega) (by omega)).mono ?_
        rw [tkSame_true rfl]
        rintro e w7 ⟨rfl, hb7⟩
        have HA7 := Lib.hid ((HA6.out.below hb7).more hb7.size)
        have HX7 := Lib.hid ((HX6.out.below hb7).more hb7.size)
        have HB7 : Hid (Below w.heap.size w w7) := HB6.out.trans (hb7.mono HB6.out.size)
        clear hb7 HB6 HX6 HA6 HBB
        go_wp2_with fail
        have hown : (w7.alloc (.cells #[] 9)).ownsRow w7.heap.size 9 1 (.slice (some ⟨w7.heap.size, 0, none⟩) 0 0) 0 (strB []) :=
          World.ownsRow_made w7 #[] 0 (Nat.le_refl _) (by unfold maxLen; omega) rfl
        have HO := Lib.hid hown
        have hbw0 : Below w7.heap.size w7 (w7.alloc (.cells #[] 9)) := by go_grown
        clear hown
        go_loopw [15, 16] (fun v u wr => ∃ k : Nat, u = .int .i64 (k : Int) ∧ k ≤ m ∧ wr.ownsRow w7.heap.size 9 1 v k (strB ((ts.take k).map (·.s))) ∧ Below w7.heap.size w7 wr) (fun _ u _ => m - (intOf u).toNat)
        case atStart => exact ⟨0, rfl, Nat.zero_le _, HO.out, hbw0⟩
        case round =>
          clear HO hbw0
          obtain ⟨k, rfl, hk, hown, hbw⟩ := hrel
          have HO := Lib.hid hown; clear hown
          have HBW := Lib.hid hbw; clear hbw
          by_cases hlt : k < m
          · have hx : k < ts.length := by rw [HM.out]; exact hlt
            have hxs : k < (ts.map (shTk j)).length := by rw [List.length_map]; exact hx
            obtain ⟨b, o, rfl, hbb, d0, d1, d2⟩ := HX7.out.tk hx
            obtain ⟨b', o', rfl, hbb', e0, e1, e2⟩ := HA7.out.tk hxs
            rw [List.getElem_map] at e0 e1 e2
            have HT1 : Hid ((ts.take (k + 1)).map (·.s) = (ts.take k).map (·.s) ++ [ts[k].s]) := by
              unfold Hid; rw [List.take_succ_eq_append_getElem hx, List.map_append]; rfl
            have hcol := G1.out.2 _ (List.getElem_mem hx)
            have c1 := (HBW.out.cell (p := ⟨b, o + k * 3 + 1, none⟩) hbb).trans d1
            have c2 := (HBW.out.cell (p := ⟨b, o + k * 3 + 2, none⟩) hbb).trans d2
            have f1 := (HBW.out.cell (p := ⟨b', o' + k * 3 + 1, none⟩) hbb').trans e1
            have f2 := (HBW.out.cell (p := ⟨b', o' + k * 3 + 2, none⟩) hbb').trans e2
            generalize ts[k] = t at *
            obtain ⟨tk, tsx, tc⟩ := t
            simp only [shTk] at c1 c2 f1 f2 hcol HT1
            have htc0 : (0 : Int) ≤ tc := hcol.1
            have htc1 : tc ≤ 120 := hcol.2.1
            have h0 : (0 : Int) ≤ (k : Int) := by omega
            have h1 : (k : Int) < (m : Int) := by omega
            have hcc : (tc + (j : Int) != tc + (j : Int)) = false := by simp
            have hss : (tsx.toList == tsx.toList) = true := by simp
            clear d0 d1 d2 e0 e1 e2 hx hxs hcol
            go_wp2_with fail
            go_quiet (fail)
            have hbd : Below wr.heap.size wr (wr.drewN nq) := drewN_below (Below.refl _ _) nq
            have HOd := Lib.hid (own_below HO.out hbd)
            have c1d := (hbd.cell (p := ⟨b, o + k * 3 + 1, none⟩) (Nat.lt_of_lt_of_le hbb HBW.out.size)).trans c1
            have HBd : Hid (Below w7.heap.size w7 (wr.drewN nq)) := HBW.out.trans (hbd.mono HBW.out.size)
            clear c1 c2 f1 f2 hbd
            generalize wr.drewN nq = wd at *
            go_wp2_with (at_builtin; refine wpList_append_own _ rfl _ _ 30 rfl w7.heap.size 9 i0 (.string ByteArray.empty) 1 16 Tryd.underlying30 hi hz0 hz1 hz2 rfl (by decide) _ _ _ rfl (HOd.out.alloc _) ⟨wd.heap.size, 0, none⟩ 1 1 [.string tsx] rfl rfl ?k1 ?k2 ?k3 ?k4 ?k5 ?_)
            case k1 =>
              intro j u hj
              match j, hj with
              | 0, hj => simp at hj; subst hj; simp [Addr.add]
            case k2 => intro u hu; simp at hu; subst hu; rfl
            case k3 => unfold maxLen; omega
            case k4 => omega
            case k5 => have := HBd.out.size; simp; omega
            intro v' w9 hown' hgrow _
            have hs9 := hgrow.size
            have hsd := HBd.out.size
            simp only [World.size_alloc] at hs9
            have hB9 : Below w7.heap.size w7 w9 := (HBd.out.alloc (by omega) _).grown hgrow (by simp; omega) (fun k hk => (HO.out.lt k (by first | exact hk | simpa using hk)).1)
            have hown9 : w9.ownsRow w7.heap.size 9 1 v' (k + 1) (strB ((ts.take (k + 1)).map (·.s))) := by
              rw [HT1.out]; simpa [strB] using hown'
            have HO9 := Lib.hid hown9
            have HB9 := Lib.hid hB9
            clear hown' hown9 hB9 hs9 hgrow hsd
            go_wp2_with fail
            go_roundw
            case rel => exact ⟨k + 1, by go_num, by omega, HO9.out, HB9.out⟩
            case measure => simp [intOf]; omega
          · obtain rfl : k = m := by omega
            obtain ⟨A', c', hv, hncc, hrow⟩ := own_row HO.out
            subst hv
            have hxs : (ts.take k).map (·.s) = ts.map (·.s) := by rw [List.take_of_length_le (by rw [HM.out]; exact Nat.le_refl _)]
            rw [hxs] at hrow
            have hxl : Hid ((ts.map (·.s)).length = k) := by unfold Hid; rw [List.length_map]; exact HM.out
            have hsz1 := sizes_le 120 (ts.map (·.s)) (fun x hx => by
              obtain ⟨t, ht, rfl⟩ := List.mem_map.1 hx
              exact (G1.out.2 t ht).2.2.1)
            rw [hxl.out] at hsz1
            have hsz2 : sizes (ts.map (·.s)) + (ts.map (·.s)).length ≤ 20000 := by rw [hxl.out]; omega
            have hjs : (joinB 32 (ts.map (·.s))).size ≤ 20000 := by
              have := joinB_le 32 (ts.map (·.s)) (ts.map (·.s)).length
              rw [joinB_all] at this; omega
            have HSZ : Hid (sizes (ts.map (·.s)) + (ts.map (·.s)).length ≤ 1048576) := by unfold Hid; omega
            have hag := fun h => again_facts (ts := ts) G2.out h
            have HRW := Lib.hid hrow
            have HBw : Hid (Below w.heap.size w wr) := HB7.out.trans (HBW.out.mono HB7.out.size)
            have HXw := Lib.hid ((HX7.out.below HBW.out).more HBW.out.size)
            have CT := fun W (hr : Row W W.heap.size A' (strB (ts.map (·.s)))) => implTokText A' c' k (ts.map (·.s)) W hr hxl hncc HSZ
            have CL := fun W (h : Below w.heap.size w W) => implTokLine (joinB 32 (ts.map (·.s))) W (HT.out.keep h) (by omega)
            unfold LineR at CL
            obtain ⟨js, hjs2⟩ : ∃ js, joinB 32 (ts.map (·.s)) = js := ⟨_, rfl⟩
            rw [hjs2] at CT CL hag hjs
            have hjsI : (js.size : Int) ≤ 20000 := by omega
            generalize hzs : lineToks js = zs at CL hag
            generalize hok3 : (tokLine js.data.toList).isSome = ok3 at CL hag
            have HCT := Lib.hid CT
            have HCL := Lib.hid CL
            have HAG := Lib.hid hag
            clear CT CL hag hrow hxs hsz1 hsz2 hjs2 hzs hok3 HO hxl HSZ HBW HX7 HA7
            go_wp2_with fail
            refine (HCT.out wr HRW.out).mono ?_
            rintro e w8 ⟨rfl, hb8⟩
            have HRW8 := Lib.hid ((HRW.out.below hb8).more hb8.size)
            have HXw8 := Lib.hid ((HXw.out.below hb8).more hb8.size)
            have HB8 : Hid (Below w.heap.size w w8) := HBw.out.trans (hb8.mono HBw.out.size)
            clear hb8 HBw HRW HXw
            go_wp2_with fail
            refine (HCL.out w8 HB8.out).mono ?_
            rintro e w9 ⟨Z, cZ, rfl, hcZ, hmZ, hb9⟩
            have HRW9 := Lib.hid ((HRW8.out.below hb9).more hb9.size)
            have HXw9 := Lib.hid ((HXw8.out.below hb9).more hb9.size)
            have HZ9 := Lib.hid hmZ.row
            have HB9 : Hid (Below w.heap.size w w9) := HB8.out.trans (hb9.mono HB8.out.size)
            clear hb9 hmZ HB8 HRW8 HXw8
            go_wp2_with fail
            refine (HCT.out w9 HRW9.out).mono ?_
            rintro e w10 ⟨rfl, hb10⟩
            have HX10 := Lib.hid ((HXw9.out.below hb10).more hb10.size)
            have HZ10 := Lib.hid ((HZ9.out.below hb10).more hb10.size)
            have HB10 : Hid (Below w.heap.size w w10) := HB9.out.trans (hb10.mono HB9.out.size)
            clear hb10 HB9 HXw9 HRW9 HZ9 HCT HCL
            by_cases hbg : (120 : Int) < (js.size : Int)
            · go_wp2_with fail
              go_ret
              exact ⟨rfl, HB10.out⟩
            · obtain ⟨q1, q2, q3⟩ := HAG.out (by omega)
              subst q1
              rw [HM.out] at q2
              have hq3 : ∀ i (h : i < zs.length) (h2 : i < ts.length), zs[i].s = ts[i].s ∧ zs[i].kind = ts[i].kind := fun i h h2 => by
                obtain ⟨t, ht, h3, h4⟩ := q3 i h2
                rw [List.getElem?_eq_getElem h] at ht
                rw [Option.some.inj ht]; exact ⟨h3, h4⟩
              have HQ3 := Lib.hid hq3
              have HZL := Lib.hid q2
              rw [q2] at hcZ ⊢
              have hkk : ((k : Int) == (k : Int)) = true := by simp
              clear q2 q3 hq3 HAG
              go_wp2_with fail
              go_loopw [19] (fun v wr => ∃ i : Nat, v = .int .i64 (i : Int) ∧ i ≤ k ∧ Below w10.heap.size w10 wr) (fun v _ => k - (intOf v).toNat)
              case atStart => exact ⟨0, rfl, Nat.zero_le _, Below.refl _ _⟩
              case round =>
                obtain ⟨i, rfl, hi9, hbw2⟩ := hrel
                have HBW2 := Lib.hid hbw2
                clear hbw2
                by_cases hlt2 : i < k
                · have hx1 : i < ts.length := by rw [HM.out]; exact hlt2
                  have hx2 : i < zs.length := by rw [HZL.out]; exact hlt2
                  obtain ⟨b, o, rfl, hbb, d0, d1, d2⟩ := HX10.out.tk hx1
                  obtain ⟨b', o', rfl, hbb', e0, e1, e2⟩ := HZ10.out.tk hx2
                  obtain ⟨h5, h6⟩ := HQ3.out i hx2 hx1
                  rw [h6] at e0
                  rw [h5] at e1
                  have c0 := (HBW2.out.cell (p := ⟨b, o + i * 3, none⟩) hbb).trans d0
                  have c1 := (HBW2.out.cell (p := ⟨b, o + i * 3 + 1, none⟩) hbb).trans d1
                  have f0 := (HBW2.out.cell (p := ⟨b', o' + i * 3, none⟩) hbb').trans e0
                  have f1 := (HBW2.out.cell (p := ⟨b', o' + i * 3 + 1, none⟩) hbb').trans e1
                  clear h5 h6 d0 d1 d2 e0 e1 e2
                  generalize ts[i] = t at c0 c1 f0 f1
                  obtain ⟨tk, tsx, tc⟩ := t
                  simp only at c0 c1 f0 f1
                  have h0 : (0 : Int) ≤ (i : Int) := by omega
                  have h1 : (i : Int) < (k : Int) := by omega
                  have hcc : (tk != tk) = false := by simp
                  have hss : (tsx.toList == tsx.toList) = true := by simp
                  clear hx1 hx2
                  go_wp2_with fail
                  go_quiet (fail)
                  go_wp2_with fail
                  go_roundw
                  case rel => exact ⟨i + 1, by go_num, by omega, drewN_below HBW2.out _⟩
                  case measure => simp [intOf]; omega
                · obtain rfl : i = k := by omega
                  go_wp2_with fail
                  go_ret
                  exact ⟨rfl, HB10.out.trans (HBW2.out.mono HB10.out.size)⟩
end Go.Proofs.YtlhmebdljamgkaaDoor
