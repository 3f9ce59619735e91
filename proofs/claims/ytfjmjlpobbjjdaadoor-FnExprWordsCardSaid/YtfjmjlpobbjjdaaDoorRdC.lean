/- The program's reader of words: level, where it loops. -/
import Derived.Test.YtfjmjlpobbjjdaaDoorRdB
namespace Go.Proofs.YtfjmjlpobbjjdaaDoor
open Go.RowKit Ilp
set_option linter.unusedVariables false
set_option linter.unusedSimpArgs false

def lvAct (g f : Nat → Value) : Act := { tmps := #[g 0, g 1, g 2, g 3, g 4, g 5, g 6, g 7, g 8, g 9, g 10, g 11, g 12, g 13, g 14, g 15, g 16, g 17, g 18, g 19, g 20, g 21, g 22, g 23, g 24, g 25, g 26, g 27, g 28, g 29, g 30, g 31, g 32, g 33, g 34, g 35, g 36, g 37, g 38, g 39, g 40, f 0, f 1, f 2, f 3, f 4, f 5, f 6, f 7, g 49], defers := [] }
def lvC (k n : Int) (s : ByteArray) (A1 : Option Addr) (l c1 R : Nat) (mk : ByteArray) (t : Nat) : Nat → Value
  | 0 => (.string mk)
  | 1 => (.agg #[.int .i64 k, .int .i64 n, .string s, .slice A1 l c1])
  | 2 => (.pointer (some ⟨R, 0, none⟩))
  | 3 => (.int .i64 (t : Int))
  | 4 => (.int .i64 ((t : Int) + 1))
  | _ => undef
def lvKK (gA : Nat → Value) (C : Nat → Value) (wd : World) (T5 T6 : Value → World → Prop) (ag : Value → Value) (F : World → Prop) (listed : Array Bool) (a : Act) (W : World) : Prop := listed.size = 9 ∧ ∃ f, a = lvAct gA f ∧ LvK C wd T5 T6 ag F listed f W
theorem LvR.weak {V : World} {R X4 X5 : Nat} {xs : List ByteArray} {W : World} {M : Nat} {wr : World} (h : LvR V R X4 X5 xs W M wr) : LvR V R X4 X5 xs W xs.length wr := by
  obtain ⟨k, n, s, A, l, c, u, ys, bd, dp, A', m', c', h1, h2, h3, h4, h5, h6, h7, h8⟩ := h
  exact ⟨k, n, s, A, l, c, u, ys, bd, dp, A', m', c', h1, h2, h3, h4, h5, h6, h6, h8⟩
theorem LvR.left {V : World} {R X4 X5 : Nat} {xs : List ByteArray} {W : World} {M : Nat} {wr w' : World} (h : LvR V R X4 X5 xs W M wr) (hl : M < rdLeft R w') : rdLeft R wr < rdLeft R w' := by
  obtain ⟨k, n, s, A, l, c, u, ys, bd, dp, A', m', c', h1, h2, h3, h4, h5, h6, h7, h8⟩ := h
  rw [rdLeft_eq h4]; omega
set_option maxHeartbeats 4000000 in
set_option maxRecDepth 20000 in
theorem level13 (N t : Nat) (ht1 : 1 ≤ t) (ht3 : t ≤ 3) (hl : LvlQ N (t + 1)) : LvlQ N t := by
  intro V R xs bad dp A m c W hN h hT
  have hb1 : Below W.heap.size W (W.alloc (.cells zero4.toArray 25)) := (Below.refl _ _).alloc (Nat.le_refl _) _
  have CL : Hid (∀ (V : World) (R : Nat) (xs : List ByteArray) (bad : Bool) (dp : Int) (A : Option Addr) (m c : Nat) (W : World), xs.length ≤ N → RdS V R xs bad dp A m c W → Tabs V →
    Calls Tryd.prog 62 #[.pointer (some ⟨R, 0, none⟩), .int .i64 ((t : Int) + 1)] W (TreeR V R xs W)) := by
    intro V R xs bad dp A m c W h1 h2 h3
    have := hl V R xs bad dp A m c W h1 h2 h3
    rw [Int.natCast_succ] at this
    exact this
  have C1 := Lib.hid (CL.out V R xs bad dp A m c _ hN (h.below hb1) hT)
  have HX := Lib.hid (Blk.alloc_ W 25 zero4)
  have hRW : R < W.heap.size := h.bk.lt
  have hVR := h.vr
  have HT := Lib.hid hT
  have HN := Lib.hid hN
  have ht4 : ((t : Int) == 4) = false := by simp; omega
  have ht0 : (0 : Int) ≤ (t : Int) := by omega
  have ht5 : (t : Int) ≤ 3 := by omega
  have HK1 := Lib.hid (keep_alloc (Keep.refl R W) (.cells zero4.toArray 25))
  clear h hT hl hb1 hN
  go_enter Tryd.func62, Tryd.ntmps62
  go_wp2_with fail
  refine C1.out.mono ?_
  rintro e w2 ⟨k, n, s, A1, l, c1, u, ys, b2, d2, A2, m2, c2, rfl, ht, hR, hK, hlen, hwg⟩
  have HX2 : Blk w2 W.heap.size 25 zero4 := hK.blk HX.out (by omega)
  have hal := (Below.refl w2.heap.size w2).alloc (Nat.le_refl _) (.cells #[.int .i64 k, .int .i64 n, .string s, .slice A1 l c1] 25)
  have hx2 := HX2.lt
  have HL0 : Hid (LvR V R W.heap.size w2.heap.size xs W xs.length (w2.alloc (.cells #[.int .i64 k, .int .i64 n, .string s, .slice A1 l c1] 25))) :=
    ⟨k, n, s, A1, l, c1, u, ys, b2, d2, A2, m2, c2, HX2.alloc _, Blk.alloc_ w2 25 [.int .i64 k, .int .i64 n, .string s, .slice A1 l c1], (ht.down (by simp)).ey hal rfl, hR.below hal, keep_alloc (HK1.out.trans hK) _, hlen, hlen, hwg⟩
  have hXFOUR5 : W.heap.size < w2.heap.size := hx2
  clear ht hR hK hlen hwg HX2 hal hx2 C1 HX HK1
  obtain ⟨X5, hX5⟩ : ∃ X5, X5 = w2.heap.size := ⟨_, rfl⟩
  rw [← hX5] at HL0 hXFOUR5
  have HX5 := Lib.hid hX5
  clear hX5
  go_wp2_with fail
  rw [← HX5.out]
  go_loopw [6] (fun _ wr => LvR V R W.heap.size X5 xs W xs.length wr) (fun _ wr => rdLeft R wr)
  case atStart => exact HL0.out
  case round =>
    clear HL0 HX5
    obtain ⟨k, n, s, A1, l, c1, u, ys, bd, dq, A2, m2, c2, hB4, hB5, hE, hR, hK, hl1, _, hw⟩ := hrel
    have B4 := Lib.hid hB4
    have B5 := Lib.hid hB5
    have HE := Lib.hid hE
    have RS := Lib.hid hR
    have KK := Lib.hid hK
    have HLEFT := Lib.hid (rdLeft_eq hR)
    obtain ⟨p0, p1, p2, pf⟩ := hR.cells
    have hmc := hR.mc
    have hln := hR.ln
    clear hB4 hB5 hE hK hR pf
    cases bd with
    | true =>
      have kX := put4_keep wr W.heap.size k n s A1 l c1
      have HEN : Hid (IsEN W.heap.size (put4 wr W.heap.size k n s A1 l c1) [.int .i64 k, .int .i64 n, .string s, .slice A1 l c1] u) := (HE.out.en.keep kX (by omega)).down (by omega)
      have RES : Hid (TreeR V R xs W (.returned (.agg #[.int .i64 k, .int .i64 n, .string s, .slice A1 l c1])) (put4 wr W.heap.size k n s A1 l c1)) :=
        ⟨k, n, s, A1, l, c1, u, ys, true, dq, A2, m2, c2, rfl, HEN.out, RS.out.keep kX (by omega) (by omega), keep_far KK.out kX (by omega), hl1, hw⟩
      have x0 : wr.cell? ⟨W.heap.size, 0, none⟩ = some (.int .i64 0) := B4.out.cell 0
      have x1 : wr.cell? ⟨W.heap.size, 1, none⟩ = some (.int .i64 0) := B4.out.cell 1
      have x2 : wr.cell? ⟨W.heap.size, 2, none⟩ = some (.string ⟨#[]⟩) := B4.out.cell 2
      have x3 : wr.cell? ⟨W.heap.size, 3, none⟩ = some (.slice none 0 0) := B4.out.cell 3
      have y0 := B4.out.frozen 0
      have y1 := B4.out.frozen 1
      have y2 := B4.out.frozen 2
      have y3 := B4.out.frozen 3
      obtain ⟨e0, e1, e2, e3⟩ := blkE_cells B5.out
      obtain ⟨q0, q1, q2, q3⟩ := put4_cells B4.out k n s A1 l c1
      clear kX
      go_wp2_with fail
      refine bodyPost_ret (v := .agg #[.int .i64 k, .int .i64 n, .string s, .slice A1 l c1]) (by simp [results, Tryd.results62, go_sem, q0, q1, q2, q3]) rfl ?_
      exact RES.out
    | false =>
      cases ys with
      | nil =>
        obtain rfl : m2 = 0 := by simpa using hln.symm
        have kX := put4_keep wr W.heap.size k n s A1 l c1
        have HEN : Hid (IsEN W.heap.size (put4 wr W.heap.size k n s A1 l c1) [.int .i64 k, .int .i64 n, .string s, .slice A1 l c1] u) := (HE.out.en.keep kX (by omega)).down (by omega)
        have RES : Hid (TreeR V R xs W (.returned (.agg #[.int .i64 k, .int .i64 n, .string s, .slice A1 l c1])) (put4 wr W.heap.size k n s A1 l c1)) :=
          ⟨k, n, s, A1, l, c1, u, [], false, dq, A2, 0, c2, rfl, HEN.out, RS.out.keep kX (by omega) (by omega), keep_far KK.out kX (by omega), hl1, hw⟩
        have x0 : wr.cell? ⟨W.heap.size, 0, none⟩ = some (.int .i64 0) := B4.out.cell 0
        have x1 : wr.cell? ⟨W.heap.size, 1, none⟩ = some (.int .i64 0) := B4.out.cell 1
        have x2 : wr.cell? ⟨W.heap.size, 2, none⟩ = some (.string ⟨#[]⟩) := B4.out.cell 2
        have x3 : wr.cell? ⟨W.heap.size, 3, none⟩ = some (.slice none 0 0) := B4.out.cell 3
        have y0 := B4.out.frozen 0
        have y1 := B4.out.frozen 1
        have y2 := B4.out.frozen 2
        have y3 := B4.out.frozen 3
        obtain ⟨e0, e1, e2, e3⟩ := blkE_cells B5.out
        obtain ⟨q0, q1, q2, q3⟩ := put4_cells B4.out k n s A1 l c1
        clear kX
        go_wp2_with fail
        refine bodyPost_ret (v := .agg #[.int .i64 k, .int .i64 n, .string s, .slice A1 l c1]) (by simp [results, Tryd.results62, go_sem, q0, q1, q2, q3]) rfl ?_
        exact RES.out
      | cons y zs0 =>
        simp only [List.length_cons] at hln
        have hm1 : (1 : Int) ≤ (m2 : Int) := by omega
        have hm2 : (0 : Int) < (m2 : Int) := by omega
        obtain ⟨b, o, rfl, hb, hcx⟩ := RS.out.rw.at_ (i := 0) (by simp [strB])
        have hx : wr.cell? ⟨b, o, none⟩ = some (.string y) := by
          rw [RS.out.bv.cell (p := ⟨b, o, none⟩) hb]; simpa [strB] using hcx
        clear hcx hb
        obtain ⟨tq, htq⟩ : ∃ q, q = tight y.data.toList := ⟨_, rfl⟩
        have CT := Lib.hid (implTight y wr)
        rw [← htq] at CT
        clear htq
        by_cases htt : tq = t
        · have hte : ((tq : Int) == (t : Int)) = true := by simp [htt]
          clear htt
          go_wp2_with fail
          refine CT.out.mono ?_
          rintro e w' ⟨rfl, rfl⟩
          have CN := Lib.hid (rdNext V R (y :: zs0) false dq (some ⟨b, o, none⟩) m2 c2 wr RS.out)
          clear hx CT p0 p1 p2
          go_wp2_with fail
          refine CN.out.mono ?_
          rintro e ws ⟨mk, zs, b3, A3, m3, c3, rfl, hR3, hK3, hmk, hsz, hlen3, hne3, _⟩
          have hz1 := (hne3 (by simp)).1
          simp only [List.length_cons] at hz1 hl1 hw
          have hdr := (Below.refl ws.heap.size ws).drew
          have B4d : Hid (Blk ws.drew W.heap.size 25 zero4) := hK3.blk B4.out (by omega)
          have B5d : Hid (Blk ws.drew X5 25 [.int .i64 k, .int .i64 n, .string s, .slice A1 l c1]) := hK3.blk B5.out (by omega)
          have HEd := Lib.hid ((HE.out.keep hK3 (.inl (by omega))).below hdr)
          have RSd := Lib.hid (hR3.below hdr)
          have KKd := Lib.hid (KK.out.trans hK3).drew
          have HLN : Hid (zs.length + 1 ≤ xs.length ∧ wgt u ≤ 10 * (xs.length - (zs.length + 1))) := ⟨by omega, by have e : zs.length + 1 = zs0.length + 1 := hz1; rw [e]; exact hw⟩
          have HLT : Hid (zs.length < rdLeft R wr) := by have := HLEFT.out; unfold Hid; simp only [List.length_cons] at this; omega
          clear hR3 hK3 hsz hlen3 hne3 hz1 hdr hl1 hw CN HLEFT B4 B5 HE RS KK hln hmc
          go_upto_region 6 with (fail)
          refine region_of ?_
          intro arr harr
          obtain ⟨gA, hg⟩ : ∃ g : Nat → Value, g = fun j => arr.getD j undef := ⟨_, rfl⟩
          have hg0 : gA 0 = .pointer (some ⟨R, 0, none⟩) := by rw [hg, harr]; rfl
          have hg1 : gA 1 = .int .i64 (t : Int) := by rw [hg, harr]; rfl
          have hg5 : gA 5 = .pointer (some ⟨X5, 0, none⟩) := by rw [hg, harr]; rfl
          have hg6 : gA 6 = .string mk := by rw [hg, harr]; rfl
          refine wp_region_inv rfl (fun listed a W' => lvKK gA (lvC k n s A1 l c1 R mk t) ws.drew (LvT5 V R W.heap.size X5 [.int .i64 k, .int .i64 n, .string s, .slice A1 l c1] u zs W) (LvT6 V R W.heap.size X5 [.int .i64 k, .int .i64 n, .string s, .slice A1 l c1] mk xs zs W) (fun v => .agg #[.int .i64 3, .int .i64 0, .string mk, v]) (LvR V R W.heap.size X5 xs W zs.length) listed a W') ?h0 ?hs ?hd
          case h0 =>
            have hng : ∀ j, ¬ got (Array.replicate 9 false) j := fun j e => by
              unfold got at e
              rw [Array.getD_eq_getD_getElem?, Array.getElem?_replicate] at e
              split at e <;> cases e
            refine ⟨by simp, fun j => gA (41 + j), by rw [hg, harr]; rfl, fun j _ e => absurd e (hng j), fun _ => rfl, fun e => absurd e (hng 5), fun e => absurd e (hng 6), fun e => absurd e (hng 7), fun e => absurd e (hng 8), fun e => absurd e (hng 6), fun e => absurd e (hng 6), fun e => absurd e (hng 7), fun e => absurd e (hng 8)⟩
          case hs =>
            clear hg harr
            rintro listed a W' i ⟨hsz, f, rfl, h⟩ hi
            obtain ⟨hn, o, ho, haft⟩ := mem_ready.1 hi
            have hiN : i < 9 := by have := (Array.getElem?_eq_some_iff.1 ho).1; simpa using this
            have hcs : i = 0 ∨ i = 1 ∨ i = 2 ∨ i = 3 ∨ i = 4 ∨ i = 5 ∨ i = 6 ∨ i = 7 ∨ i = 8 := by omega
            clear hi hiN
            have hng := ngot hn
            rcases hcs with rfl | rfl | rfl | rfl | rfl | rfl | rfl | rfl | rfl
            all_goals (simp at ho; subst ho)
            · refine wpOp_of_list rfl ?_
              simp only [lvAct, hg0, hg1, hg5, hg6]
              go_wp2_with fail
              change (listed.setIfInBounds 0 true).size = 9 ∧ _
              refine ⟨by simp [hsz], upd f 0 (.string mk), ?_, h.con (by omega) hng⟩
              simp only [lvAct, upd, hg0, hg1, hg5, hg6]
              try rfl
            · have hX5 : Blk W' X5 25 [.int .i64 k, .int .i64 n, .string s, .slice A1 l c1] := by
                by_cases g5 : got listed 5
                · have n6 : ¬ got listed 6 := fun g => hng (h.o61 g)
                  obtain ⟨_, _, _, _, _, _, _, _, _, _, _, _, _, _, _, _, _, hb, _⟩ := h.t5 g5 n6
                  exact hb
                · rw [h.w5 g5]; exact B5d.out
              obtain ⟨a0, a1, a2, a3⟩ := blkE_cells hX5
              refine wpOp_of_list rfl ?_
              simp only [lvAct, hg0, hg1, hg5, hg6]
              go_wp2_with fail
              change (listed.setIfInBounds 1 true).size = 9 ∧ _
              refine ⟨by simp [hsz], upd f 1 (.agg #[.int .i64 k, .int .i64 n, .string s, .slice A1 l c1]), ?_, h.con (by omega) hng⟩
              simp only [lvAct, upd, hg0, hg1, hg5, hg6]
              try rfl
            · refine wpOp_of_list rfl ?_
              simp only [lvAct, hg0, hg1, hg5, hg6]
              go_wp2_with fail
              change (listed.setIfInBounds 2 true).size = 9 ∧ _
              refine ⟨by simp [hsz], upd f 2 (.pointer (some ⟨R, 0, none⟩)), ?_, h.con (by omega) hng⟩
              simp only [lvAct, upd, hg0, hg1, hg5, hg6]
              try rfl
            · refine wpOp_of_list rfl ?_
              simp only [lvAct, hg0, hg1, hg5, hg6]
              go_wp2_with fail
              change (listed.setIfInBounds 3 true).size = 9 ∧ _
              refine ⟨by simp [hsz], upd f 3 (.int .i64 (t : Int)), ?_, h.con (by omega) hng⟩
              simp only [lvAct, upd, hg0, hg1, hg5, hg6]
              try rfl
            · have g3 : got listed 3 := haft ⟨3, .data⟩ (by simp) rfl
              have e3 : f 3 = (.int .i64 (t : Int)) := h.cv 3 (by omega) g3
              refine wpOp_of_list rfl ?_
              simp only [lvAct, hg0, hg1, hg5, hg6, e3]
              go_wp2_with fail
              change (listed.setIfInBounds 4 true).size = 9 ∧ _
              refine ⟨by simp [hsz], upd f 4 (.int .i64 ((t : Int) + 1)), ?_, h.con (by omega) hng⟩
              simp only [lvAct, upd, hg0, hg1, hg5, hg6, e3]
              try rfl
            · have g2 : got listed 2 := haft ⟨2, .data⟩ (by simp) rfl
              have g4 : got listed 4 := haft ⟨4, .data⟩ (by simp) rfl
              have e2 : f 2 = (.pointer (some ⟨R, 0, none⟩)) := h.cv 2 (by omega) g2
              have e4 : f 4 = (.int .i64 ((t : Int) + 1)) := h.cv 4 (by omega) g4
              have hw5 := h.w5 hng
              subst hw5
              refine wpOp_of_list rfl ?_
              simp only [lvAct, hg0, hg1, hg5, hg6, e2, e4]
              go_wp2_with fail
              refine (CL.out V R zs b3 dq A3 m3 c3 ws.drew (by have := HN.out; have := HLN.out; omega) RSd.out HT.out).mono ?_
              rintro e w' ⟨k2, n2, s2, Az, lz, cz, t2, us, b4, d4, A4, m4, c4, rfl, ht2, hR4, hK4, hlen4, hw4⟩
              have HT5 : LvT5 V R W.heap.size X5 [.int .i64 k, .int .i64 n, .string s, .slice A1 l c1] u zs W (.agg #[.int .i64 k2, .int .i64 n2, .string s2, .slice Az lz cz]) w' :=
                ⟨k2, n2, s2, Az, lz, cz, t2, us, b4, d4, A4, m4, c4, rfl, isEN_ey ht2 (by have := B4d.out.lt; omega) B5d.out.lt, HEd.out.keep hK4 (.inl (by omega)), hK4.blk B4d.out (by omega), hK4.blk B5d.out (by omega), hR4, KKd.out.trans hK4, hlen4, hw4⟩
              go_wp2_with fail
              change (listed.setIfInBounds 5 true).size = 9 ∧ _
              refine ⟨by simp [hsz], upd f 5 (.agg #[.int .i64 k2, .int .i64 n2, .string s2, .slice Az lz cz]), ?_, h.s5 hng HT5 (by omega)⟩
              simp only [lvAct, upd, hg0, hg1, hg5, hg6, e2, e4]
              try rfl
            · have g1 : got listed 1 := haft ⟨1, .data⟩ (by simp) rfl
              have g5 : got listed 5 := haft ⟨5, .data⟩ (by simp) rfl
              have e1 : f 1 = (.agg #[.int .i64 k, .int .i64 n, .string s, .slice A1 l c1]) := h.cv 1 (by omega) g1
              obtain ⟨k2, n2, s2, Az, lz, cz, t2, us, b4, d4, A4, m4, c4, e5, ht2, hu2, hB4, hB5, hR4, hK4, hlen4, hw4⟩ := h.t5 g5 hng
              have hal := (Below.refl W'.heap.size W').alloc (Nat.le_refl _) (.cells #[.int .i64 k, .int .i64 n, .string s, .slice A1 l c1, .int .i64 k2, .int .i64 n2, .string s2, .slice Az lz cz] 25)
              have hnb := Blk.alloc_ W' 25 [.int .i64 k, .int .i64 n, .string s, .slice A1 l c1, .int .i64 k2, .int .i64 n2, .string s2, .slice Az lz cz]
              have hl5 := hB5.lt
              have hl4 := hB4.lt
              have HT6 : LvT6 V R W.heap.size X5 [.int .i64 k, .int .i64 n, .string s, .slice A1 l c1] mk xs zs W (.slice (some ⟨W'.heap.size, 0, none⟩) 2 2) (W'.alloc (.cells #[.int .i64 k, .int .i64 n, .string s, .slice A1 l c1, .int .i64 k2, .int .i64 n2, .string s2, .slice Az lz cz] 25)) :=
                ⟨W'.heap.size, _, us, b4, d4, A4, m4, c4, rfl, isEY_two hnb (by omega) (by omega) (hu2.below hal) (ht2.below hal) 3 0 mk (by unfold maxLen; omega), hB4.alloc _, hB5.alloc _, hR4.below hal, keep_alloc hK4 _, hlen4, by
                  rw [wgt_eq]
                  show mk.data.toList.length + wgts [u, t2] ≤ _
                  have hms : mk.data.toList.length = mk.size := Array.length_toList
                  have h2 : wgts [u, t2] = 1 + wgt u + (1 + wgt t2 + 0) := rfl
                  have h3 := HLN.out
                  omega⟩
              refine wpOp_of_list rfl ?_
              simp only [lvAct, hg0, hg1, hg5, hg6, e1, e5]
              go_wp2_with fail
              change (listed.setIfInBounds 6 true).size = 9 ∧ _
              refine ⟨by simp [hsz], upd f 6 (.slice (some ⟨W'.heap.size, 0, none⟩) 2 2), ?_, h.s6 hng g1 g5 HT6 (by omega)⟩
              simp only [lvAct, upd, hg0, hg1, hg5, hg6, e1, e5]
              try rfl
            · have g0 : got listed 0 := haft ⟨0, .data⟩ (by simp) rfl
              have g6 : got listed 6 := haft ⟨6, .data⟩ (by simp) rfl
              obtain ⟨gq, _, _, _, _, _, _, _, e6, _⟩ := h.t6 g6 (fun g => hng (h.o8 g 7 (by omega)))
              have e0 : f 0 = (.string mk) := h.cv 0 (by omega) g0
              refine wpOp_of_list rfl ?_
              simp only [lvAct, hg0, hg1, hg5, hg6, e0, e6]
              go_wp2_with fail
              change (listed.setIfInBounds 7 true).size = 9 ∧ _
              refine ⟨by simp [hsz], upd f 7 (.agg #[.int .i64 3, .int .i64 0, .string mk, f 6]), ?_, h.s7 hng g6 (by omega)⟩
              simp only [lvAct, upd, hg0, hg1, hg5, hg6, e0, e6]
              try rfl
            · have hall : ∀ j, j < 8 → got listed j := by
                intro j hj
                have hj2 : j = 0 ∨ j = 1 ∨ j = 2 ∨ j = 3 ∨ j = 4 ∨ j = 5 ∨ j = 6 ∨ j = 7 := by omega
                rcases hj2 with rfl | rfl | rfl | rfl | rfl | rfl | rfl | rfl
                all_goals exact haft ⟨_, .phase⟩ (by simp) rfl
              have e7 := h.t7 (hall 7 (by omega))
              obtain ⟨g, t6, us, b4, d4, A4, m4, c4, e6, ht6, hB4, hB5, hR4, hK4, hlen4, hw4⟩ := h.t6 (hall 6 (by omega)) hng
              rw [e6] at e7
              have kX := put4_keep W' X5 3 0 mk (some ⟨g, 0, none⟩) 2 2
              have b5 : Blk (put4 W' X5 3 0 mk (some ⟨g, 0, none⟩) 2 2) X5 25 [.int .i64 3, .int .i64 0, .string mk, .slice (some ⟨g, 0, none⟩) 2 2] := (((hB5.put 0 _).put 1 _).put 2 _).put 3 _
              have HF : LvR V R W.heap.size X5 xs W zs.length (put4 W' X5 3 0 mk (some ⟨g, 0, none⟩) 2 2) :=
                ⟨3, 0, mk, some ⟨g, 0, none⟩, 2, 2, t6, us, b4, d4, A4, m4, c4, kX.blk hB4 (by omega), b5, ht6.keep kX (.inr rfl), hR4.keep kX (by omega) (by omega), keep_far hK4 kX (by omega), by have := HLN.out; omega, hlen4, hw4⟩
              obtain ⟨a0, a1, a2, a3⟩ := blkE_cells hB5
              have z0 := hB5.frozen 0
              have z1 := hB5.frozen 1
              have z2 := hB5.frozen 2
              have z3 := hB5.frozen 3
              refine wpOp_of_list rfl ?_
              simp only [lvAct, hg0, hg1, hg5, hg6, e7, e6]
              go_wp2_with fail
              change (listed.setIfInBounds 8 true).size = 9 ∧ _
              refine ⟨by simp [hsz], f, ?_, h.s8 hall HF (by omega)⟩
              simp only [lvAct, hg0, hg1, hg5, hg6, e7, e6]
              try rfl
          case hd =>
            rintro listed a W' ⟨hsz, f, rfl, h⟩ hr
            have hall := ready_all (listed := listed) (by kernel_rfl) (by rw [hsz]; rfl) hr
            have HFIN := Lib.hid (h.fin (hall 8 (by decide)))
            clear hr h hall
            clear hg0 hg1 hg5 hg6
            subst hg harr
            simp only [lvAct]
            go_wp2_with fail
            go_roundw
            case rel => (repeat apply Exists.intro); exact ⟨LvR.weak HFIN.out, rfl⟩
            case measure => exact LvR.left HFIN.out HLT.out
        · have hte : ((tq : Int) == (t : Int)) = false := by simp; omega
          have CTx := CT
          go_wp2_with fail
          refine CTx.out.mono ?_
          rintro e w' ⟨rfl, rfl⟩
          have kX := put4_keep wr W.heap.size k n s A1 l c1
          have HEN : Hid (IsEN W.heap.size (put4 wr W.heap.size k n s A1 l c1) [.int .i64 k, .int .i64 n, .string s, .slice A1 l c1] u) := (HE.out.en.keep kX (by omega)).down (by omega)
          have RES : Hid (TreeR V R xs W (.returned (.agg #[.int .i64 k, .int .i64 n, .string s, .slice A1 l c1])) (put4 wr W.heap.size k n s A1 l c1)) :=
            ⟨k, n, s, A1, l, c1, u, (y :: zs0), false, dq, (some ⟨b, o, none⟩), m2, c2, rfl, HEN.out, RS.out.keep kX (by omega) (by omega), keep_far KK.out kX (by omega), hl1, hw⟩
          have x0 : wr.cell? ⟨W.heap.size, 0, none⟩ = some (.int .i64 0) := B4.out.cell 0
          have x1 : wr.cell? ⟨W.heap.size, 1, none⟩ = some (.int .i64 0) := B4.out.cell 1
          have x2 : wr.cell? ⟨W.heap.size, 2, none⟩ = some (.string ⟨#[]⟩) := B4.out.cell 2
          have x3 : wr.cell? ⟨W.heap.size, 3, none⟩ = some (.slice none 0 0) := B4.out.cell 3
          have y0 := B4.out.frozen 0
          have y1 := B4.out.frozen 1
          have y2 := B4.out.frozen 2
          have y3 := B4.out.frozen 3
          obtain ⟨e0, e1, e2, e3⟩ := blkE_cells B5.out
          obtain ⟨q0, q1, q2, q3⟩ := put4_cells B4.out k n s A1 l c1
          clear kX
          go_wp2_with fail
          refine bodyPost_ret (v := .agg #[.int .i64 k, .int .i64 n, .string s, .slice A1 l c1]) (by simp [results, Tryd.results62, go_sem, q0, q1, q2, q3]) rfl ?_
          exact RES.out
end Go.Proofs.YtfjmjlpobbjjdaaDoor
