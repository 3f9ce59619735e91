/- The walk of FnTok. -/
import Derived.Test.YtlhmebdljamgkaaDoorIl
import Derived.Test.YtlhmebdljamgkaaDoorDrawV
set_option pp.maxSteps 200000
set_option pp.deepTerms true
namespace Go.Proofs.YtlhmebdljamgkaaDoor
open Go.RowKit Ilp
set_option linter.unusedVariables false

/-- Where a law stands that goes through the words of a line. -/
def AtWord (L : List UInt8) (ts : List T) (i a pk : Nat) : Prop := LaidFrom L a pk (ts.drop i) ∧ ∀ j, i = j + 1 → ∃ p, ts[j]? = some p ∧ a = p.col + p.s.length ∧ pk = p.kind
theorem atWord_start {L : List UInt8} {ts : List T} (h : words L = some ts) : AtWord L ts 0 0 0 := ⟨words_laid h, fun j h => by omega⟩
theorem atWord_next {L : List UInt8} {ts : List T} {i a pk : Nat} (h : AtWord L ts i a pk) (hi : i < ts.length) : a ≤ ts[i].col ∧ (∀ j, a ≤ j → j < ts[i].col → L[j]? = some 32) ∧ ts[i].col + ts[i].s.length ≤ L.length ∧ (L.drop ts[i].col).take ts[i].s.length = ts[i].s ∧ ts[i].kind = tokKind ts[i].s ∧ (ts[i].col = a → ts[i].kind = pk → ts[i].kind = 3) ∧ AtWord L ts (i + 1) (ts[i].col + ts[i].s.length) ts[i].kind := by
  obtain ⟨h1, h2⟩ := h
  rw [List.drop_eq_getElem_cons hi] at h1
  obtain ⟨p1, p2, p3, p4, p5, p6, p7⟩ := h1
  refine ⟨p1, p2, p3, p4, p5, p6, p7, fun j hj => ?_⟩
  obtain rfl : i = j := by omega
  exact ⟨ts[i], List.getElem?_eq_getElem hi, rfl, rfl⟩
theorem atWord_end {L : List UInt8} {ts : List T} {a pk : Nat} (h : AtWord L ts ts.length a pk) : ∀ j, a ≤ j → j < L.length → L[j]? = some 32 := by
  obtain ⟨h1, _⟩ := h
  rw [List.drop_eq_nil_of_le (Nat.le_refl _)] at h1
  exact h1
theorem space_at {s : ByteArray} {k : Nat} (h : k < s.size) (hs : s.data.toList[k]? = some 32) : ((s[k].toNat : Int) != 32) = false := by
  have : s[k] = 32 := by
    have e : s.data.toList[k]? = some s[k] := byte_get s k h
    rw [e] at hs; exact Option.some.inj hs
  rw [this]; rfl

set_option maxHeartbeats 16000000 in
set_option maxRecDepth 20000 in
theorem law_FnTok (a : Option Addr) (n c : Nat) (z : List Int) (w : World) (hsh : w.ShapedOpen Tryd.prog) (hT : Tabs w) (hz : IsRow .u8 w a n c z) :
    Calls Tryd.prog 9 #[.slice a n c] w fun e w' => e = .returned (.bool true) ∧ Below w.heap.size w w' := by
  clear hsh
  obtain ⟨_, _, hnc, hn, hc, _⟩ := hz.row
  have HZ := Lib.hid hz; clear hz
  have HT := Lib.hid hT; clear hT
  by_cases hbig : (1048576 : Int) < (n : Int)
  · go_enter Tryd.func9, Tryd.ntmps9
    go_wp2
    go_ret
    exact ⟨rfl, Below.refl _ _⟩
  · clear hn hc hnc
    go_enter Tryd.func9, Tryd.ntmps9
    go_wp2_with fail
    refine (drawTokLine a n c z w HZ.out).mono ?_
    rintro e w1 ⟨s, rfl, hs, hb1⟩
    have HB1 := Lib.hid hb1
    clear hb1 hbig
    have CA := fun W (h : Below w.heap.size w W) => implTokLine s W (HT.out.keep h) (by omega)
    have CS := fun W => specTokLine s W (by omega)
    have hsI : (s.size : Int) ≤ 200 := by omega
    unfold LineR at CA CS
    obtain ⟨m, hm⟩ : ∃ m, (lineToks s).length = m := ⟨_, rfl⟩
    have hm120 : (m : Int) ≤ 120 := by have := (lineToks_facts s).1; omega
    have hlt : lineToks s = ((tokLine s.data.toList).getD []).map toTk := rfl
    have hword : ∀ x, tokLine s.data.toList = some x → words s.data.toList = some x := fun x h => by
      have hsz : s.size ≤ 120 := by
        by_cases e : s.size ≤ 120
        · exact e
        · rw [tokLine_long e] at h; cases h
      rw [← tokLine_short hsz]; exact h
    generalize lineToks s = ts at CA CS hm hlt
    rw [hm] at CA CS
    have HM := Lib.hid hm
    have HWORD := Lib.hid hword
    obtain ⟨tl, htl⟩ : ∃ tl, tokLine s.data.toList = tl := ⟨_, rfl⟩
    rw [htl] at CA CS hlt
    have HLT := Lib.hid hlt
    have HTL := Lib.hid htl
    have HCA := Lib.hid CA
    have HCS := Lib.hid CS
    have hoo : (tl.isSome != tl.isSome) = false := by simp
    generalize hok : tl.isSome = ok at HCA HCS hoo
    have HOK := Lib.hid hok
    clear CA CS hm hlt hword htl hok
    go_wp2_with fail
    refine (HCA.out w1 HB1.out).mono ?_
    rintro e w2 ⟨X, cX, rfl, hcX, hmX, hb2⟩
    have HX2 := Lib.hid hmX.row
    have HB2 : Hid (Below w.heap.size w w2) := HB1.out.trans (hb2.mono HB1.out.size)
    clear hmX hb2 HB1
    go_wp2_with fail
    refine (HCS.out w2).mono ?_
    rintro e w3 ⟨S, cS, rfl, hcS, hmS, hb3⟩
    have HS3 := Lib.hid hmS.row
    have HX3 := Lib.hid ((HX2.out.below hb3).more hb3.size)
    have HB3 : Hid (Below w.heap.size w w3) := HB2.out.trans (hb3.mono HB2.out.size)
    clear hmS hb3 HB2 HX2
    go_wp2_with fail
    refine (drawTokSame a n c z w3 (isRow_below HZ.out HB3.out)).mono ?_
    rintro e w4 ⟨us, vs, A4, B4, c4, d4, rfl, hcA, hul, hvl, hrA, hrB, hb4⟩
    have HA4 := Lib.hid hrA
    have HBB4 := Lib.hid hrB
    have HS4 := Lib.hid ((HS3.out.below hb4).more hb4.size)
    have HX4 := Lib.hid ((HX3.out.below hb4).more hb4.size)
    have HB4 : Hid (Below w.heap.size w w4) := HB3.out.trans (hb4.mono HB3.out.size)
    clear hrA hrB hb4 HB3 HX3 HS3 HZ
    go_wp2_with fail
    refine (implTokSame X S m cX m cS ts ts w4 HX4.out HS4.out HM HM (by omega) (by omega)).mono ?_
    rw [tkSame_true rfl]
    rintro e w5 ⟨rfl, hb5⟩
    have HA5 := Lib.hid ((HA4.out.below hb5).more hb5.size)
    have HBB5 := Lib.hid ((HBB4.out.below hb5).more hb5.size)
    have HX5 := Lib.hid ((HX4.out.below hb5).more hb5.size)
    have HB5 : Hid (Below w.heap.size w w5) := HB4.out.trans (hb5.mono HB4.out.size)
    clear hb5 HB4 HX4 HS4 HA4 HBB4
    go_wp2_with fail
    refine (implTokSame A4 B4 us.length c4 vs.length d4 us vs w5 HA5.out HBB5.out rfl rfl (by omega) (by omega)).mono ?_
    rintro e w6 ⟨rfl, hb6⟩
    have HA6 := Lib.hid ((HA5.out.below hb6).more hb6.size)
    have HBB6 := Lib.hid ((HBB5.out.below hb6).more hb6.size)
    have HX6 := Lib.hid ((HX5.out.below hb6).more hb6.size)
    have HB6 : Hid (Below w.heap.size w w6) := HB5.out.trans (hb6.mono HB5.out.size)
    clear hb6 HB5 HX5 HA5 HBB5
    go_wp2_with fail
    refine (specTokSame A4 B4 us.length c4 vs.length d4 us vs w6 HA6.out HBB6.out rfl rfl (by omega) (by omega)).mono ?_
    rintro e w7 ⟨rfl, hb7⟩
    have HX7 := Lib.hid ((HX6.out.below hb7).more hb7.size)
    have HB7 : Hid (Below w.heap.size w w7) := HB6.out.trans (hb7.mono HB6.out.size)
    have hsb : (tkSame us vs != tkSame us vs) = false := by simp
    generalize tkSame us vs = sb at *
    clear hb7 HB6 HX6 HA6 HBB6
    cases tl with
    | none =>
      have hm0 : m = 0 := by rw [← HM.out, HLT.out]; rfl
      obtain rfl : ok = false := HOK.out.symm
      subst hm0
      go_wp2_with fail
      go_ret
      exact ⟨rfl, HB7.out⟩
    | some tt =>
      obtain rfl : ok = true := HOK.out.symm
      have hlt2 : ts = tt.map toTk := HLT.out
      have htm : tt.length = m := by rw [← HM.out, hlt2, List.length_map]
      have HST := Lib.hid (atWord_start (HWORD.out tt HTL.out))
      have HTM := Lib.hid htm
      have HROW : Hid (Row w7 w7.heap.size X (tksV (tt.map toTk))) := by unfold Hid; rw [← hlt2]; exact HX7.out
      clear hlt2 htm HX7 hsb
      go_wp2_with fail
      go_loopw [10, 11] (fun v u wr => ∃ (i q pk : Nat), u = .int .i64 (i : Int) ∧ v = .int .i64 (q : Int) ∧ i ≤ m ∧ q ≤ s.size ∧ Hid (AtWord s.data.toList tt i q pk) ∧ Below w7.heap.size w7 wr) (fun _ u _ => m - (intOf u).toNat)
      case atStart => exact ⟨0, 0, 0, rfl, rfl, Nat.zero_le _, Nat.zero_le _, HST.out, Below.refl _ _⟩
      case round =>
        obtain ⟨i, q, pk, rfl, rfl, hi, hq, hat, hbw⟩ := hrel
        have HBW := Lib.hid hbw
        clear hbw
        by_cases hlt : i < m
        · have hxt : i < tt.length := by rw [HTM.out]; exact hlt
          have hx : i < (tt.map toTk).length := by rw [List.length_map]; exact hxt
          obtain ⟨p1, p2, p3, p4, p5, p6, p7⟩ := atWord_next hat.out hxt
          obtain ⟨b, o, rfl, hbb, d0, d1, d2⟩ := HROW.out.tk hx
          rw [List.getElem_map] at d0 d1 d2
          have c0 := (HBW.out.cell (p := ⟨b, o + i * 3, none⟩) hbb).trans d0
          have c1 := (HBW.out.cell (p := ⟨b, o + i * 3 + 1, none⟩) hbb).trans d1
          have c2 := (HBW.out.cell (p := ⟨b, o + i * 3 + 2, none⟩) hbb).trans d2
          have h0 : (0 : Int) ≤ (i : Int) := by omega
          have h1 : (i : Int) < (m : Int) := by omega
          rw [len_data] at p3
          generalize tt[i] = t at p1 p2 p3 p4 p5 p6 p7 c0 c1 c2
          obtain ⟨tk, tsx, tc⟩ := t
          simp only [toTk] at p1 p2 p3 p4 p5 p6 p7 c0 c1 c2
          have P2 := Lib.hid p2
          have hex : s.extract tc (tc + tsx.length) = mkB tsx := by
            apply ByteArray.ext; apply Array.ext'
            rw [piece_data, show tc + tsx.length - tc = tsx.length by omega, p4, mkB_data]
          have hmz := mkB_size tsx
          have hp5 : tk = tokKind (mkB tsx).data.toList := by rw [mkB_data]; exact p5
          have P6 := Lib.hid p6
          have P7 := Lib.hid p7
          have HAT := hat
          obtain ⟨u, hu⟩ : ∃ u, mkB tsx = u := ⟨_, rfl⟩
          obtain ⟨ln, hln⟩ : ∃ ln, tsx.length = ln := ⟨_, rfl⟩
          rw [hu] at hex hmz hp5 c1
          rw [hln] at hex hmz p3 P7
          have hmzI : (u.size : Int) = (ln : Int) := by omega
          have HP5 := Lib.hid hp5
          have hp1I : (q : Int) ≤ (tc : Int) := by omega
          have hp3I : (tc : Int) + (ln : Int) ≤ (s.size : Int) := by omega
          have hln0 : (0 : Int) ≤ (ln : Int) := by omega
          have htc0 : (0 : Int) ≤ (tc : Int) := by omega
          clear p1 p2 p4 p5 p6 p7 hu hln d0 d1 d2 hp5 hxt hx
          go_wp2_with fail
          go_loop [10] (fun v => ∃ j : Nat, v = .int .i64 (j : Int) ∧ q ≤ j ∧ j ≤ tc) (fun v => tc - (intOf v).toNat)
          case atStart => exact ⟨q, rfl, Nat.le_refl _, by omega⟩
          case round =>
            obtain ⟨j, rfl, hj1, hj2⟩ := hrel
            by_cases hjl : j < tc
            · have hjs : j < s.size := by omega
              have hsp := space_at hjs (P2.out j hj1 hjl)
              have hjI : (j : Int) < (tc : Int) := by omega
              have hjsI : (j : Int) < (s.size : Int) := by omega
              go_wp2_with fail
              go_round
              case rel => exact ⟨j + 1, by go_num, by omega, by omega⟩
              case measure => simp [intOf]; omega
            · obtain rfl : j = tc := by omega
              clear hj2 hjl
              subst hmz
              have HBWw : Hid (Below w.heap.size w wr) := HB7.out.trans (HBW.out.mono HB7.out.size)
              have cK : ∀ d os, Calls Tryd.prog 14 #[.string u] (Go.Sort.grow (redrawn wr d) os) fun e w'' => e = .returned (.int .i64 (tk : Int)) ∧ ∃ p : Regrown, w'' = Go.Sort.grow (redrawn wr p.d) p.os := fun d os => by
                have := implTokKind u (Go.Sort.grow (redrawn wr d) os) (HT.out.keep (HBWw.out.trans ((below_regrown wr d os).mono HBWw.out.size))) (by omega)
                rw [← HP5.out] at this
                exact Calls.regrown_of this
              have CK := Lib.hid cK
              have f0 := cell_regrown c0
              have f1 := cell_regrown c1
              have f2 := cell_regrown c2
              have hss : (u.toList == u.toList) = true := by simp
              have hsn : (u.toList != u.toList) = false := by simp
              have htt : ((tk : Int) != (tk : Int)) = false := by simp
              have hjj : ((j : Int) != (j : Int)) = false := by simp
              have hnn : ((j : Int) + (u.size : Int)).toNat = j + u.size := by omega
              have hwr : IntKind.i64.wrap ((j : Int) + (u.size : Int)) = (j : Int) + (u.size : Int) := by rw [IntKind.wrap_i64]; omega
              have hto : (j : Int) ≤ (j : Int) + (u.size : Int) := by omega
              have hgt : decide ((s.size : Int) < (j : Int) + (u.size : Int)) = false := decide_eq_false (by omega)
              clear cK HP5
              go_wp2_with fail
              refine wp_region_quiet_below (by kernel_rfl) (by kernel_rfl) ?_
              repeat (go_big_quiet_step (with_reducible exact CK.out _ _))
              refine wpQuiet_nil ?_
              intro w8 hw'
              have hb8 : Below wr.heap.size wr w8 := by obtain ⟨⟨dq, osq⟩, rfl⟩ := hw'; exact below_regrown _ _ _
              have HB8 : Hid (Below w7.heap.size w7 w8) := HBW.out.trans (hb8.mono HBW.out.size)
              have hbr := Nat.lt_of_lt_of_le hbb HBW.out.size
              have g0 := (hb8.cell (p := ⟨b, o + i * 3, none⟩) hbr).trans c0
              have g1 := (hb8.cell (p := ⟨b, o + i * 3 + 1, none⟩) hbr).trans c1
              have g2 := (hb8.cell (p := ⟨b, o + i * 3 + 2, none⟩) hbr).trans c2
              clear hw' hb8 f0 f1 f2 c0 c1 c2 hbr hss hsn CK
              have hp3N : j + u.size ≤ s.size := p3
              by_cases hi0 : i = 0
              · subst hi0
                go_wp2_with fail
                go_quiet (fail)
                go_wp2_with fail
                go_roundw
                case rel => exact ⟨0 + 1, j + u.size, tk, by go_num, by go_num, by omega, hp3N, P7.out, drewN_below HB8.out _⟩
                case measure => simp [intOf]; omega
              · obtain ⟨e, rfl⟩ : ∃ e, i = e + 1 := ⟨i - 1, by omega⟩
                obtain ⟨p, hp1, hp2, hp3⟩ := HAT.out.2 e rfl
                have hxe : e < tt.length := by rw [HTM.out]; omega
                have hpe : tt[e] = p := by
                  rw [List.getElem?_eq_getElem hxe] at hp1; exact Option.some.inj hp1
                have hx2 : e < (tt.map toTk).length := by rw [List.length_map]; exact hxe
                obtain ⟨b', o', hbo, hbb', d0, d1, d2⟩ := HROW.out.tk hx2
                obtain ⟨rfl, rfl⟩ : b = b' ∧ o = o' := by
                  have := Option.some.inj hbo
                  simp only [Addr.mk.injEq] at this
                  exact ⟨this.1, this.2.1⟩
                rw [List.getElem_map, hpe] at d0 d1 d2
                have x0 := (HB8.out.cell (p := ⟨b, o + e * 3, none⟩) hbb).trans d0
                have x1 := (HB8.out.cell (p := ⟨b, o + e * 3 + 1, none⟩) hbb).trans d1
                have x2 := (HB8.out.cell (p := ⟨b, o + e * 3 + 2, none⟩) hbb).trans d2
                obtain ⟨pk', ps, pc⟩ := p
                simp only [toTk] at x0 x1 x2 hp2 hp3
                have hvs := mkB_size ps
                generalize mkB ps = v at x1 hvs
                rw [← hvs] at hp2
                subst hp3
                have hqI : (q : Int) = (pc : Int) + (v.size : Int) := by omega
                have hqs : (pc : Int) + (v.size : Int) ≤ 200 := by omega
                obtain ⟨f, hf⟩ : ∃ f, f = e + 1 := ⟨_, rfl⟩
                rw [← hf] at g0 g1 g2 hlt h0 h1 P7 ⊢
                have hf0 : decide (0 < f) = true := decide_eq_true (by omega)
                have hf1 : decide ((0 : Int) < (f : Int)) = true := decide_eq_true (by omega)
                have hfe : (f : Int) - 1 = (e : Int) := by omega
                have he0 : (0 : Int) ≤ (e : Int) := by omega
                have hem : (e : Int) < (m : Int) := by omega
                have HF := Lib.hid hf
                clear hvs hf d0 d1 d2 hbo hbb' hx2 hxe hpe hp1 hi0
                by_cases hjq : j = q
                · by_cases hkk : tk = pk
                  · have h3 : tk = 3 := P6.out hjq hkk
                    subst hkk
                    subst h3
                    subst hjq
                    have ha : ((pc : Int) + (v.size : Int) == (j : Int)) = true := by rw [← hqI]; simp
                    clear hp2 hqI
                    go_wp2_with fail
                    go_quiet (fail)
                    go_wp2_with fail
                    go_roundw
                    case rel => exact ⟨f + 1, j + u.size, 3, by go_num, by go_num, by omega, hp3N, P7.out, drewN_below HB8.out _⟩
                    case measure => simp [intOf]; omega
                  · have hk : ((tk : Int) == (pk : Int)) = false := by rw [beq_eq_false_iff_ne]; omega
                    subst hjq
                    have ha : ((pc : Int) + (v.size : Int) == (j : Int)) = true := by rw [← hqI]; simp
                    clear hp2 hkk hqI
                    go_wp2_with fail
                    go_quiet (fail)
                    go_wp2_with fail
                    go_roundw
                    case rel => exact ⟨f + 1, j + u.size, tk, by go_num, by go_num, by omega, hp3N, P7.out, drewN_below HB8.out _⟩
                    case measure => simp [intOf]; omega
                · have ha : ((pc : Int) + (v.size : Int) == (j : Int)) = false := by rw [beq_eq_false_iff_ne]; omega
                  clear hp2 hjq hqI
                  go_wp2_with fail
                  go_quiet (fail)
                  go_wp2_with fail
                  go_roundw
                  case rel => exact ⟨f + 1, j + u.size, tk, by go_num, by go_num, by omega, hp3N, P7.out, drewN_below HB8.out _⟩
                  case measure => simp [intOf]; omega
        · obtain rfl : i = m := by omega
          have HEND : Hid (∀ j, q ≤ j → j < s.size → s.data.toList[j]? = some 32) := by
            unfold Hid
            have h := hat.out
            rw [← HTM.out] at h
            have := atWord_end h
            rw [len_data] at this
            exact this
          have HBWw : Hid (Below w.heap.size w wr) := HB7.out.trans (HBW.out.mono HB7.out.size)
          clear hlt
          go_wp2_with fail
          go_loop [10] (fun v => ∃ j : Nat, v = .int .i64 (j : Int) ∧ q ≤ j ∧ j ≤ s.size) (fun v => s.size - (intOf v).toNat)
          case atStart => exact ⟨q, rfl, Nat.le_refl _, by omega⟩
          case round =>
            obtain ⟨j, rfl, hj1, hj2⟩ := hrel
            by_cases hjl : j < s.size
            · have hsp := space_at hjl (HEND.out j hj1 hjl)
              have hjI : (j : Int) < (s.size : Int) := by omega
              go_wp2_with fail
              go_round
              case rel => exact ⟨j + 1, by go_num, by omega, by omega⟩
              case measure => simp [intOf]; omega
            · obtain rfl : j = s.size := by omega
              go_wp2_with fail
              go_ret
              exact ⟨rfl, HBWw.out⟩
end Go.Proofs.YtlhmebdljamgkaaDoor
