/- The program's reader of words: held. -/
import Derived.Test.YtfjmjlpobbjjdaaDoorRdD
namespace Go.Proofs.YtfjmjlpobbjjdaaDoor
open Go.RowKit Ilp
set_option linter.unusedVariables false
set_option linter.unusedSimpArgs false

def hdAct (g f : Nat → Value) : Act := { tmps := #[g 0, g 1, g 2, g 3, g 4, g 5, g 6, g 7, g 8, g 9, g 10, g 11, g 12, g 13, g 14, g 15, g 16, g 17, g 18, g 19, g 20, g 21, g 22, g 23, g 24, g 25, g 26, g 27, g 28, g 29, g 30, g 31, g 32, g 33, g 34, g 35, g 36, g 37, g 38, g 39, g 40, g 41, g 42, g 43, g 44, g 45, g 46, g 47, g 48, g 49, g 50, g 51, g 52, g 53, g 54, g 55, g 56, g 57, g 58, g 59, g 60, g 61, g 62, g 63, g 64, g 65, g 66, g 67, g 68, g 69, g 70, g 71, g 72, g 73, f 0, f 1, f 2, f 3, f 4, g 79], defers := [] }
def hdKK (gA : Nat → Value) (I : Array Bool → (Nat → Value) → World → Prop) (listed : Array Bool) (a : Act) (W : World) : Prop := listed.size = 6 ∧ ∃ f, a = hdAct gA f ∧ I listed f W
set_option maxHeartbeats 4000000 in
set_option maxRecDepth 20000 in
theorem rdHeld (N : Nat) (hl : ∀ M, M < N → LvlQ M 1) : HldQ N := by
  intro V R xs bad dp A m c W hN h hT
  obtain ⟨w2, hw2⟩ : ∃ w2, w2 = (W.alloc (.cells #[.int .i64 0, .int .i64 0, .string ⟨#[]⟩, .slice none 0 0] 25)).alloc (.cells #[.int .i64 0, .int .i64 0, .string ⟨#[]⟩, .slice none 0 0] 25) := ⟨_, rfl⟩
  have hb2 : Below W.heap.size W w2 := by rw [hw2]; exact ((Below.refl _ _).alloc (Nat.le_refl _) _).alloc (by simp) _
  have hX4 : Blk w2 W.heap.size 25 zero4 := by rw [hw2]; exact (Blk.alloc_ W _ zero4).alloc _
  obtain ⟨X5, hX5e⟩ : ∃ X5, X5 = W.heap.size + 1 := ⟨_, rfl⟩
  have hX5 : Blk w2 X5 25 zero4 := by rw [hw2, hX5e]; have := Blk.alloc_ (W.alloc (.cells zero4.toArray 25)) 25 zero4; rw [World.size_alloc] at this; exact this
  have HX5E := Lib.hid hX5e
  have hX5l : W.heap.size < X5 := by omega
  have HB2 : Hid (HdB R W.heap.size X5 zero4 (.mk 0 0 [] []) W w2) := ⟨hX4, hX5, isEY_leaf _ _ _ 0 0 ⟨#[]⟩ (by unfold maxLen; decide), Keep.of hb2⟩
  have hRW : R < W.heap.size := h.bk.lt
  have hVR := h.vr
  have CN := Lib.hid (rdNext V R xs bad dp A m c w2 (h.below hb2))
  have HT := Lib.hid hT
  have HN := Lib.hid hN
  have HL := Lib.hid hl
  clear h hT hl hN hb2 hX4 hX5 hX5e
  go_enter Tryd.func92, Tryd.ntmps92
  go_upto_region 2 with (fail)
  rw [← hw2]
  rw [show W.heap.size + 1 = X5 from HX5E.out.symm]
  clear hw2
  go_wp2_with fail
  refine CN.out.mono ?_
  rintro e w3 ⟨s, zs, b3, A3, m3, c3, rfl, hR3, hK3, hs8, _, hlen3, hne3, hnil3⟩
  have CM := Lib.hid (implNumber s w3 (HT.out.keep hR3.bv) (by omega))
  have HB3 := Lib.hid (HB2.out.keep hK3 (by omega) (by omega) (by omega))
  have RS3 := Lib.hid hR3
  have HNE := Lib.hid hne3
  have HNIL := Lib.hid hnil3
  clear hR3 hK3 hne3 hnil3 CN HB2
  go_wp2_with fail
  refine CM.out.mono ?_
  rintro e w4 ⟨nn, rfl, hnn, hb4⟩
  clear hnn
  have HB4 := Lib.hid (HB3.out.below hb4)
  have RS4 := Lib.hid (RS3.out.below hb4)
  have CK := Lib.hid (implName s w4 (HT.out.keep RS4.out.bv) (by omega))
  clear hb4 HB3 RS3 CM
  go_upto_block 0 with fail
  go_cut [] from 5 to 68 (fun wc => LvR V R W.heap.size X5 xs W xs.length wc)
  case first =>
    obtain ⟨p0, p1, p2, pf⟩ := RS4.out.cells
    have f1 := pf 1
    have f2 := pf 2
    clear pf
    by_cases hp : s.toList = [40]
    · have hxs : xs ≠ [] := fun e => by
        have h0 := HNIL.out e
        have h1 : s.data.toList.length = s.size := Array.length_toList
        rw [← ByteArray.toList_eq, hp] at h1
        simp at h1; omega
      obtain ⟨hz1, rfl⟩ := HNE.out hxs
      have hpb : (s.toList == [40]) = true := by rw [hp]; rfl
      have hd0 : ∃ d, d = wrap64 (dp + 1) := ⟨_, rfl⟩
      obtain ⟨d, hd⟩ := hd0
      clear CK
      have S1 : RdS V R zs b3 d A3 m3 c3 (w4.setCell ⟨R, 2, none⟩ (.int .i64 d)) := RS4.out.setDeep d
      have B1 : HdB R W.heap.size X5 zero4 (.mk 0 0 [] []) W (w4.setCell ⟨R, 2, none⟩ (.int .i64 d)) := HB4.out.keep ((Keep.refl R w4).set 2 _) (by omega) (by omega) (by omega)
      obtain ⟨w5, hw5⟩ : ∃ w5, w5 = w4.setCell ⟨R, 2, none⟩ (.int .i64 d) := ⟨_, rfl⟩
      go_upto_region 7 with fail
      rw [← hd, ← hw5]
      rw [← hw5] at S1 B1
      have HS1 := Lib.hid S1
      have HB1 := Lib.hid B1
      clear S1 B1 p0 p1 p2 f1 f2 hw5 hd RS4 HB4
      obtain ⟨p0, p1, p2, pf⟩ := HS1.out.cells
      have f1 := pf 1
      have hx5 := HB1.out.b5.lt
      clear pf
      cases b3 with
      | true =>
        have HL2 : Hid (LvR V R W.heap.size X5 xs W xs.length ((w5.setCell ⟨R, 1, none⟩ (.bool true)).setCell ⟨R, 1, none⟩ (.bool true))) := ⟨0, 0, ⟨#[]⟩, none, 0, 0, _, zs, true, d, A3, m3, c3, ((HB1.out.keep ((Keep.refl R w5).set 1 (.bool true)) (by omega) (by omega) (by omega)).keep ((Keep.refl R _).set 1 (.bool true)) (by omega) (by omega) (by omega)).b4, ((HB1.out.keep ((Keep.refl R w5).set 1 (.bool true)) (by omega) (by omega) (by omega)).keep ((Keep.refl R _).set 1 (.bool true)) (by omega) (by omega) (by omega)).b5, ((HB1.out.keep ((Keep.refl R w5).set 1 (.bool true)) (by omega) (by omega) (by omega)).keep ((Keep.refl R _).set 1 (.bool true)) (by omega) (by omega) (by omega)).eu, (HS1.out.setBad true).setBad true, ((HB1.out.keep ((Keep.refl R w5).set 1 (.bool true)) (by omega) (by omega) (by omega)).keep ((Keep.refl R _).set 1 (.bool true)) (by omega) (by omega) (by omega)).kk, hlen3, hlen3, by rw [wgt_eq]; exact Nat.zero_le _⟩
        go_wp2_with fail
        go_meet
        case rel => exact HL2.out
      | false =>
        by_cases hgt : (40 : Int) < d
        · have hgt2 : d > 40 := hgt
          have HL2 : Hid (LvR V R W.heap.size X5 xs W xs.length ((w5.setCell ⟨R, 1, none⟩ (.bool true)).setCell ⟨R, 1, none⟩ (.bool true))) := ⟨0, 0, ⟨#[]⟩, none, 0, 0, _, zs, true, d, A3, m3, c3, ((HB1.out.keep ((Keep.refl R w5).set 1 (.bool true)) (by omega) (by omega) (by omega)).keep ((Keep.refl R _).set 1 (.bool true)) (by omega) (by omega) (by omega)).b4, ((HB1.out.keep ((Keep.refl R w5).set 1 (.bool true)) (by omega) (by omega) (by omega)).keep ((Keep.refl R _).set 1 (.bool true)) (by omega) (by omega) (by omega)).b5, ((HB1.out.keep ((Keep.refl R w5).set 1 (.bool true)) (by omega) (by omega) (by omega)).keep ((Keep.refl R _).set 1 (.bool true)) (by omega) (by omega) (by omega)).eu, (HS1.out.setBad true).setBad true, ((HB1.out.keep ((Keep.refl R w5).set 1 (.bool true)) (by omega) (by omega) (by omega)).keep ((Keep.refl R _).set 1 (.bool true)) (by omega) (by omega) (by omega)).kk, hlen3, hlen3, by rw [wgt_eq]; exact Nat.zero_le _⟩
          go_wp2_with fail
          go_meet
          case rel => exact HL2.out
        · have hgt2 : ¬ d > 40 := hgt
          have S6 : Hid (RdS V R zs false d A3 m3 c3 (w5.setCell ⟨R, 1, none⟩ (.bool false))) := HS1.out.setBad false
          have B6 : Hid (HdB R W.heap.size X5 zero4 (.mk 0 0 [] []) W (w5.setCell ⟨R, 1, none⟩ (.bool false))) := HB1.out.keep ((Keep.refl R w5).set 1 _) (by omega) (by omega) (by omega)
          have C6 : Hid (Calls Tryd.prog 62 #[.pointer (some ⟨R, 0, none⟩), .int .i64 1] (w5.setCell ⟨R, 1, none⟩ (.bool false)) (TreeR V R zs (w5.setCell ⟨R, 1, none⟩ (.bool false)))) := HL.out zs.length (by have := HN.out; omega) V R zs false d A3 m3 c3 _ (Nat.le_refl _) S6.out HT.out
          go_upto_region 9 with fail
          obtain ⟨w6, hw6⟩ : ∃ w6, w6 = w5.setCell ⟨R, 1, none⟩ (.bool false) := ⟨_, rfl⟩
          rw [← hw6] at S6 B6 C6 ⊢
          clear hw6 p0 p1 p2 f1 hgt hgt2 HS1 HB1 hx5
          go_wp2_with fail
          refine C6.out.mono ?_
          rintro e w7 ⟨k, n, s1, A1, l, c1, t, us, bd, dq, A4, m4, c4, rfl, ht, hR7, hK7, hl7, hw7⟩
          have hx6 := B6.out.b5.lt
          have hB7 := B6.out.keep hK7 (by omega) (by omega) (by omega)
          have kX := put4_keep w7 X5 k n s1 A1 l c1
          have B8 : Hid (HdB R W.heap.size X5 [.int .i64 k, .int .i64 n, .string s1, .slice A1 l c1] t W (put4 w7 X5 k n s1 A1 l c1)) := hB7.put rfl (by omega) (by omega) (isEN_ey ht (by omega) (by omega))
          have S8 : Hid (RdS V R us bd dq A4 m4 c4 (put4 w7 X5 k n s1 A1 l c1)) := hR7.keep kX (by omega) (by omega)
          obtain ⟨a0, a1, a2, a3⟩ := blkE_cells hB7.b5
          have z0 := hB7.b5.frozen 0
          have z1 := hB7.b5.frozen 1
          have z2 := hB7.b5.frozen 2
          have z3 := hB7.b5.frozen 3
          obtain ⟨w8, hw8⟩ : ∃ w8, w8 = put4 w7 X5 k n s1 A1 l c1 := ⟨_, rfl⟩
          rw [← hw8] at B8 S8
          unfold put4 at hw8
          clear ht hR7 hK7 hB7 kX S6 B6 C6 hx6
          go_upto_region 10 with fail
          rw [← hw8]
          clear hw8 a0 a1 a2 a3 z0 z1 z2 z3
          obtain ⟨p0, p1, p2, pf⟩ := S8.out.cells
          have f1 := pf 1
          clear pf
          cases bd with
          | true =>
            have hB9 := B8.out.keep ((Keep.refl R w8).set 1 (.bool true)) (by omega) (by omega) (by omega)
            have HL2 : Hid (LvR V R W.heap.size X5 xs W xs.length (w8.setCell ⟨R, 1, none⟩ (.bool true))) :=
              ⟨k, n, s1, A1, l, c1, t, us, true, dq, A4, m4, c4, hB9.b4, hB9.b5, hB9.eu, S8.out.setBad true, hB9.kk, by omega, by omega, by omega⟩
            clear hB9
            go_wp2_with fail
            go_meet
            case rel => exact HL2.out
          | false =>
            have C8 := Lib.hid (rdNext V R us false dq A4 m4 c4 w8 S8.out)
            clear p0 p2
            go_wp2_with fail
            refine C8.out.mono ?_
            rintro e w9 ⟨s2, us2, bd2, A5, m5, c5, rfl, hR9, hK9, hs9, _, hl9, _, _⟩
            have hB9 := (B8.out.keep hK9 (by omega) (by omega) (by omega)).keep ((Keep.refl R w9).set 1 (.bool (s2.toList != [41]))) (by omega) (by omega) (by omega)
            have HL2 : Hid (LvR V R W.heap.size X5 xs W xs.length (w9.setCell ⟨R, 1, none⟩ (.bool (s2.toList != [41])))) :=
              ⟨k, n, s1, A1, l, c1, t, us2, _, dq, A5, m5, c5, hB9.b4, hB9.b5, hB9.eu, hR9.setBad _, hB9.kk, by omega, by omega, by omega⟩
            obtain ⟨q0, q1, q2, qf⟩ := hR9.cells
            have f3 := qf 1
            clear hB9 hR9 hK9 qf C8 p1 f1
            go_wp2_with fail
            go_meet
            case rel => exact HL2.out
    · have hpb : (s.toList == [40]) = false := by simpa using hp
      cases hnum : tokNum s.data.toList with
      | true =>
        have hF := HB4.out.put rfl (by omega) (by omega) (isEY_leaf (W.heap.size + 1) X5 w4 1 nn ⟨#[]⟩ (by unfold maxLen; decide))
        have kX := put4_keep w4 X5 1 nn ⟨#[]⟩ none 0 0
        have HL : Hid (LvR V R W.heap.size X5 xs W xs.length (put4 w4 X5 1 nn ⟨#[]⟩ none 0 0)) :=
          ⟨1, nn, ⟨#[]⟩, none, 0, 0, _, zs, b3, dp, A3, m3, c3, hF.b4, hF.b5, hF.eu, RS4.out.keep kX (by omega) (by omega), hF.kk, hlen3, hlen3, by rw [wgt_eq]; exact Nat.zero_le _⟩
        clear hF kX p0 p1 p2 f1 f2
        have z0 := HB4.out.b5.frozen 0
        have z1 := HB4.out.b5.frozen 1
        have z2 := HB4.out.b5.frozen 2
        have z3 := HB4.out.b5.frozen 3
        obtain ⟨a0, a1, a2, a3⟩ := blkE_cells HB4.out.b5
        go_wp2_with fail
        go_meet
        case rel => exact HL.out
      | false =>
        go_wp2_with fail
        refine CK.out.mono ?_
        rintro e w5 ⟨rfl, hb5⟩
        have HB5 := Lib.hid (HB4.out.below hb5)
        have RS5 := Lib.hid (RS4.out.below hb5)
        clear hb5 p0 p1 p2 f1 f2 CK
        cases hnm : isName s.data.toList with
        | true =>
          have hxs : xs ≠ [] := fun e => by
            have h0 := HNIL.out e
            have h1 : s.data.toList.length = s.size := Array.length_toList
            have h2 := (name_letters hnm).2.1
            rw [h0] at h1
            exact h2 (List.eq_nil_of_length_eq_zero h1)
          have hz1 := (HNE.out hxs).1
          have hF := HB5.out.put rfl (by omega) (by omega) (isEY_leaf (W.heap.size + 1) X5 w5 2 0 s (by unfold maxLen; omega))
          have kX := put4_keep w5 X5 2 0 s none 0 0
          have HL : Hid (LvR V R W.heap.size X5 xs W xs.length (put4 w5 X5 2 0 s none 0 0)) :=
            ⟨2, 0, s, none, 0, 0, _, zs, b3, dp, A3, m3, c3, hF.b4, hF.b5, hF.eu, RS5.out.keep kX (by omega) (by omega), hF.kk, hlen3, hlen3, by
              rw [wgt_eq]
              show s.data.toList.length + 0 ≤ _
              have h1 : s.data.toList.length = s.size := Array.length_toList
              omega⟩
          clear hF kX
          have z0 := HB5.out.b5.frozen 0
          have z1 := HB5.out.b5.frozen 1
          have z2 := HB5.out.b5.frozen 2
          have z3 := HB5.out.b5.frozen 3
          obtain ⟨a0, a1, a2, a3⟩ := blkE_cells HB5.out.b5
          go_wp2_with fail
          go_meet
          case rel => exact HL.out
        | false =>
          obtain ⟨p0, p1, p2, pf⟩ := RS5.out.cells
          have f1 := pf 1
          have kX := (Keep.refl R w5).set 1 (.bool true)
          have hF := HB5.out.keep kX (by omega) (by omega) (by omega)
          have HL : Hid (LvR V R W.heap.size X5 xs W xs.length (w5.setCell ⟨R, 1, none⟩ (.bool true))) :=
            ⟨0, 0, ⟨#[]⟩, none, 0, 0, _, zs, true, dp, A3, m3, c3, hF.b4, hF.b5, hF.eu, RS5.out.setBad true, hF.kk, hlen3, hlen3, by rw [wgt_eq]; exact Nat.zero_le _⟩
          clear hF kX pf
          go_wp2_with fail
          go_meet
          case rel => exact HL.out
  case rest =>
    have HC0 := Lib.hid hcut
    clear hcut
    go_wp2_with fail
    go_loopw [] (fun wr => LvR V R W.heap.size X5 xs W xs.length wr) (fun wr => rdLeft R wr)
    case atStart => exact HC0.out
    case round =>
      clear HC0
      obtain ⟨k, n, s, A1, l, c1, u, ys, bd, dq, A2, m2, c2, hB4, hB5, hE, hR, hK, hl1, _, hw⟩ := hrel
      have hal := (Below.refl wr.heap.size wr).alloc (Nat.le_refl _) (.cells #[.string ⟨#[97, 115]⟩] 9)
      have HB : Hid (HdB R W.heap.size X5 [.int .i64 k, .int .i64 n, .string s, .slice A1 l c1] u W (wr.alloc (.cells #[.string ⟨#[97, 115]⟩] 9))) := HdB.below ⟨hB4, hB5, hE, hK⟩ hal
      have RS := Lib.hid (hR.below hal)
      have HLEFT := Lib.hid (rdLeft_eq hR)
      have CA := Lib.hid (rdAt V R ys bd dq A2 m2 c2 wr.heap.size _ RS.out (Blk.alloc_ wr 9 [.string ⟨#[97, 115]⟩]))
      clear hB4 hB5 hE hR hK hal
      go_upto_region 15 with fail
      go_wp2_with fail
      refine CA.out.mono ?_
      rintro e w' ⟨r, rfl, hr, rfl⟩
      obtain ⟨wa, hwa⟩ : ∃ wa, wa = wr.alloc (.cells #[.string ⟨#[97, 115]⟩] 9) := ⟨_, rfl⟩
      rw [← hwa] at HB RS ⊢
      clear CA hwa
      cases r with
      | false =>
        have kX := put4_keep wa W.heap.size k n s A1 l c1
        have HEN : Hid (IsEN W.heap.size (put4 wa W.heap.size k n s A1 l c1) [.int .i64 k, .int .i64 n, .string s, .slice A1 l c1] u) := (HB.out.eu.en.keep kX (by omega)).down (by omega)
        have RES : Hid (TreeR V R xs W (.returned (.agg #[.int .i64 k, .int .i64 n, .string s, .slice A1 l c1])) (put4 wa W.heap.size k n s A1 l c1)) :=
          ⟨k, n, s, A1, l, c1, u, ys, bd, dq, A2, m2, c2, rfl, HEN.out, RS.out.keep kX (by omega) (by omega), keep_far HB.out.kk kX (by omega), hl1, hw⟩
        have x0 : wa.cell? ⟨W.heap.size, 0, none⟩ = some (.int .i64 0) := HB.out.b4.cell 0
        have x1 : wa.cell? ⟨W.heap.size, 1, none⟩ = some (.int .i64 0) := HB.out.b4.cell 1
        have x2 : wa.cell? ⟨W.heap.size, 2, none⟩ = some (.string ⟨#[]⟩) := HB.out.b4.cell 2
        have x3 : wa.cell? ⟨W.heap.size, 3, none⟩ = some (.slice none 0 0) := HB.out.b4.cell 3
        have y0 := HB.out.b4.frozen 0
        have y1 := HB.out.b4.frozen 1
        have y2 := HB.out.b4.frozen 2
        have y3 := HB.out.b4.frozen 3
        obtain ⟨e0, e1, e2, e3⟩ := blkE_cells HB.out.b5
        obtain ⟨q0, q1, q2, q3⟩ := put4_cells HB.out.b4 k n s A1 l c1
        clear kX
        go_wp2_with fail
        refine bodyPost_ret (v := .agg #[.int .i64 k, .int .i64 n, .string s, .slice A1 l c1]) (by simp [results, Tryd.results92, go_sem, q0, q1, q2, q3]) rfl ?_
        exact RES.out
      | true =>
        have hne := hr rfl
        have CN := Lib.hid (rdNext V R ys bd dq A2 m2 c2 wa RS.out)
        clear hr
        go_wp2_with fail
        refine CN.out.mono ?_
        rintro e ws ⟨mk, zs, b3, A3, m3, c3, rfl, hR3, hK3, hmk, hsz, hlen3, hne3, _⟩
        have hz1 := (hne3 hne).1
        have hdr := (Below.refl ws.heap.size ws).drew
        have HBd : Hid (HdB R W.heap.size X5 [.int .i64 k, .int .i64 n, .string s, .slice A1 l c1] u W ws.drew) := (HB.out.keep hK3 (by omega) (by omega) (by omega)).below hdr
        have RSd := Lib.hid (hR3.below hdr)
        have HLN : Hid (zs.length + 1 ≤ xs.length ∧ wgt u ≤ 10 * (xs.length - (zs.length + 1))) := ⟨by omega, by rw [hz1]; exact hw⟩
        have HLT : Hid (zs.length < rdLeft R wr) := by have := HLEFT.out; unfold Hid; omega
        clear hR3 hK3 hsz hlen3 hne3 hz1 hdr hl1 hw CN HLEFT HB RS hne
        go_upto_region 17 with (fail)
        refine region_of ?_
        intro arr harr
        obtain ⟨gA, hg⟩ : ∃ g : Nat → Value, g = fun j => arr.getD j undef := ⟨_, rfl⟩
        have hg0 : gA 0 = .pointer (some ⟨R, 0, none⟩) := by rw [hg, harr]; rfl
        have hg3 : gA 3 = .pointer (some ⟨X5, 0, none⟩) := by rw [hg, harr]; rfl
        refine wp_region_inv rfl (fun listed a W' => hdKK gA (HdK (.pointer (some ⟨R, 0, none⟩)) (.agg #[.int .i64 k, .int .i64 n, .string s, .slice A1 l c1]) (fun x y => .agg #[.int .i64 4, .int .i64 0, x, y]) (HdB R W.heap.size X5 [.int .i64 k, .int .i64 n, .string s, .slice A1 l c1] u W) (RdE V R zs) (HdQ V R zs) (HdT X5 [.int .i64 k, .int .i64 n, .string s, .slice A1 l c1]) (LvR V R W.heap.size X5 xs W zs.length)) listed a W') ?h0 ?hs ?hd
        case h0 =>
          have hng : ∀ j, ¬ got (Array.replicate 6 false) j := fun j e => by
            unfold got at e
            rw [Array.getD_eq_getD_getElem?, Array.getElem?_replicate] at e
            split at e <;> cases e
          refine ⟨by simp, fun j => gA (74 + j), by rw [hg, harr]; rfl, fun e => absurd e (hng 0), fun e => absurd e (hng 2), fun _ => HBd.out, fun _ => ⟨_, _, _, _, _, RSd.out⟩, fun e => absurd e (hng 1), fun e => absurd e (hng 3), fun e => absurd e (hng 4), fun e => absurd e (hng 5), fun e => absurd e (hng 4), fun e => absurd e (hng 5)⟩
        case hs =>
          clear hg harr
          rintro listed a W' i ⟨hsz, f, rfl, h⟩ hi
          obtain ⟨hn, o, ho, haft⟩ := mem_ready.1 hi
          have hiN : i < 6 := by have := (Array.getElem?_eq_some_iff.1 ho).1; simpa using this
          have hcs : i = 0 ∨ i = 1 ∨ i = 2 ∨ i = 3 ∨ i = 4 ∨ i = 5 := by omega
          clear hi hiN
          have hng := ngot hn
          rcases hcs with rfl | rfl | rfl | rfl | rfl | rfl
          all_goals (simp at ho; subst ho)
          · refine wpOp_of_list rfl ?_
            simp only [hdAct, hg0, hg3]
            go_wp2_with fail
            change (listed.setIfInBounds 0 true).size = 6 ∧ _
            refine ⟨by simp [hsz], upd f 0 (.pointer (some ⟨R, 0, none⟩)), ?_, h.con (.inl ⟨rfl, rfl⟩) hng⟩
            simp only [hdAct, upd, hg0, hg3]
            try rfl
          · have g0 : got listed 0 := haft ⟨0, .data⟩ (by simp) rfl
            have n5 : ¬ got listed 5 := fun g => hng (h.o5 g 1 (by omega))
            have e0 := h.c0 g0
            obtain ⟨bd2, dp2, A3, m3, c3, hR3⟩ := h.n1 hng
            have hB3 := h.bb n5
            refine wpOp_of_list rfl ?_
            simp only [hdAct, hg0, hg3, e0]
            go_wp2_with fail
            refine (rdNext V R zs bd2 dp2 A3 m3 c3 W' hR3).mono ?_
            rintro e w' ⟨s2, us, bd3, A4, m4, c4, rfl, hR4, hK4, hs4, hz4, hl4, _, _⟩
            have hB4 : HdB R W.heap.size X5 [.int .i64 k, .int .i64 n, .string s, .slice A1 l c1] u W w' := hB3.keep hK4 (by omega) (by omega) (by omega)
            have hT4 : ∀ x, HdT X5 [.int .i64 k, .int .i64 n, .string s, .slice A1 l c1] x W' → HdT X5 [.int .i64 k, .int .i64 n, .string s, .slice A1 l c1] x w' := by
              rintro x ⟨g, rfl, hb, hg⟩
              exact ⟨g, rfl, hK4.blk hb (by omega), hg⟩
            clear hR3 hB3
            go_wp2_with fail
            change (listed.setIfInBounds 1 true).size = 6 ∧ _
            refine ⟨by simp [hsz], upd f 1 (.string s2), ?_, h.s1 hng hB4 ⟨s2, us, rfl, hs4, hl4, _, _, _, _, _, hR4⟩ hT4 (by omega)⟩
            simp only [hdAct, upd, hg0, hg3, e0]
            try rfl
          · have n5 : ¬ got listed 5 := fun g => hng (h.o5 g 2 (by omega))
            obtain ⟨a0, a1, a2, a3⟩ := blkE_cells (h.bb n5).b5
            refine wpOp_of_list rfl ?_
            simp only [hdAct, hg0, hg3]
            go_wp2_with fail
            change (listed.setIfInBounds 2 true).size = 6 ∧ _
            refine ⟨by simp [hsz], upd f 2 (.agg #[.int .i64 k, .int .i64 n, .string s, .slice A1 l c1]), ?_, h.con (.inr ⟨rfl, rfl⟩) hng⟩
            simp only [hdAct, upd, hg0, hg3]
            try rfl
          · have g2 : got listed 2 := haft ⟨2, .data⟩ (by simp) rfl
            have n5 : ¬ got listed 5 := fun g => hng (h.o5 g 3 (by omega))
            have e2 := h.c2 g2
            have hal := (Below.refl W'.heap.size W').alloc (Nat.le_refl _) (.cells #[.int .i64 k, .int .i64 n, .string s, .slice A1 l c1] 25)
            have hnb := Blk.alloc_ W' 25 [.int .i64 k, .int .i64 n, .string s, .slice A1 l c1]
            have hl5 := (h.bb n5).b5.lt
            have H3 := h.s3 hng ((h.bb n5).below hal) (show HdT X5 [.int .i64 k, .int .i64 n, .string s, .slice A1 l c1] (.slice (some ⟨W'.heap.size, 0, none⟩) 1 1) _ from ⟨W'.heap.size, rfl, hnb, hl5⟩) (fun hp => hp.below hal) (by
              rintro x ⟨s2, us, rfl, h1, h2, h3⟩
              exact ⟨s2, us, rfl, h1, h2, h3.below hal⟩) (by omega)
            refine wpOp_of_list rfl ?_
            simp only [hdAct, hg0, hg3, e2]
            go_wp2_with fail
            change (listed.setIfInBounds 3 true).size = 6 ∧ _
            refine ⟨by simp [hsz], upd f 3 (.slice (some ⟨W'.heap.size, 0, none⟩) 1 1), ?_, H3⟩
            simp only [hdAct, upd, hg0, hg3, e2]
            try rfl
          · have g1 : got listed 1 := haft ⟨1, .data⟩ (by simp) rfl
            have g3 : got listed 3 := haft ⟨3, .data⟩ (by simp) rfl
            have n5 : ¬ got listed 5 := fun g => hng (h.o5 g 4 (by omega))
            obtain ⟨s2, us, e1, h1, h2, h3⟩ := h.y1 g1 n5
            obtain ⟨g, e3, hb3, hg3x⟩ := h.t3 g3 n5
            refine wpOp_of_list rfl ?_
            simp only [hdAct, hg0, hg3, e1, e3]
            go_wp2_with fail
            change (listed.setIfInBounds 4 true).size = 6 ∧ _
            refine ⟨by simp [hsz], upd f 4 (.agg #[.int .i64 4, .int .i64 0, f 1, f 3]), ?_, h.s4 hng g1 g3⟩
            simp only [hdAct, upd, hg0, hg3, e1, e3]
            try rfl
          · have hall : ∀ j, j < 5 → got listed j := by
              intro j hj
              have hj2 : j = 0 ∨ j = 1 ∨ j = 2 ∨ j = 3 ∨ j = 4 := by omega
              rcases hj2 with rfl | rfl | rfl | rfl | rfl
              all_goals exact haft ⟨_, .phase⟩ (by simp) rfl
            obtain ⟨s2, us, e1, h1, h2, bd3, dp3, A4, m4, c4, hR4⟩ := h.y1 (hall 1 (by omega)) hng
            obtain ⟨g, e3, hb3, hg3x⟩ := h.t3 (hall 3 (by omega)) hng
            have hB := h.bb hng
            have e4 := h.t4 (hall 4 (by omega))
            simp only [e1, e3] at e4
            have kX := put4_keep W' X5 4 0 s2 (some ⟨g, 0, none⟩) 1 1
            have hF0 := hB.put rfl (by omega) (by omega) (isEY_one hb3 (by omega) (by omega) hB.eu 4 0 s2 (by unfold maxLen; omega))
            have HF : LvR V R W.heap.size X5 xs W zs.length (put4 W' X5 4 0 s2 (some ⟨g, 0, none⟩) 1 1) :=
              ⟨4, 0, s2, some ⟨g, 0, none⟩, 1, 1, _, us, bd3, dp3, A4, m4, c4, hF0.b4, hF0.b5, hF0.eu, hR4.keep kX (by omega) (by omega), hF0.kk, by have := HLN.out; omega, h2, by
                rw [wgt_eq]
                show s2.data.toList.length + wgts [u] ≤ _
                have hms : s2.data.toList.length = s2.size := Array.length_toList
                have hw2 : wgts [u] = 1 + wgt u + 0 := rfl
                have h3 := HLN.out
                omega⟩
            obtain ⟨a0, a1, a2, a3⟩ := blkE_cells hB.b5
            have z0 := hB.b5.frozen 0
            have z1 := hB.b5.frozen 1
            have z2 := hB.b5.frozen 2
            have z3 := hB.b5.frozen 3
            refine wpOp_of_list rfl ?_
            simp only [hdAct, hg0, hg3, e1, e3, e4]
            go_wp2_with fail
            change (listed.setIfInBounds 5 true).size = 6 ∧ _
            refine ⟨by simp [hsz], f, ?_, h.s5 hall HF (by omega)⟩
            simp only [hdAct, hg0, hg3, e1, e3, e4]
            try rfl
        case hd =>
          rintro listed a W' ⟨hsz, f, rfl, h⟩ hr
          have hall := ready_all (listed := listed) (by kernel_rfl) (by rw [hsz]; rfl) hr
          have HFIN := Lib.hid (h.fin (hall 5 (by decide)))
          clear hr h hall
          clear hg0 hg3
          subst hg harr
          simp only [hdAct]
          go_wp2_with fail
          go_roundw
          case rel => (repeat apply Exists.intro); exact ⟨LvR.weak HFIN.out, rfl⟩
          case measure => exact LvR.left HFIN.out HLT.out
end Go.Proofs.YtfjmjlpobbjjdaaDoor
