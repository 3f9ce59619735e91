/- The walk of FnExprBent. -/
import Derived.Test.YtfjmjlpobbjjdaaDoorBeM
import Derived.Test.YtfjmjlpobbjjdaaDoorEtL
import Derived.Deep.RegionWith
import Derived.Deep.RegionHeld3
namespace Go.Proofs.YtfjmjlpobbjjdaaDoor
open Go.RowKit Ilp
set_option linter.unusedVariables false
set_option linter.unusedSimpArgs false

theorem CopS.cells {X : Nat} {k n : Int} {g : ByteArray} {A : Option Addr} {l c : Nat} {t : Ex} {W : World} (h : CopS X k n g A l c t W) : W.cell? ⟨X, 0, none⟩ = some (.int .i64 k) ∧ W.cell? ⟨X, 1, none⟩ = some (.int .i64 n) ∧ W.cell? ⟨X, 2, none⟩ = some (.string g) ∧ W.cell? ⟨X, 3, none⟩ = some (.slice A l c) := blkE_cells h.ba
theorem row4 {W : World} {b o : Nat} {v0 v1 v2 v3 : Value} (hb : b < W.heap.size) (e0 : W.cell? ⟨b, o, none⟩ = some v0) (e1 : W.cell? ⟨b, o + 1, none⟩ = some v1) (e2 : W.cell? ⟨b, o + 2, none⟩ = some v2) (e3 : W.cell? ⟨b, o + 3, none⟩ = some v3) : Row W W.heap.size (some ⟨b, o, none⟩) [v0, v1, v2, v3] := by
  intro i v hv
  refine ⟨b, o, rfl, hb, ?_⟩
  match i with
  | 0 => rw [Nat.add_zero, e0]; exact hv
  | 1 => rw [e1]; exact hv
  | 2 => rw [e2]; exact hv
  | 3 => rw [e3]; exact hv
  | i + 4 => simp at hv
theorem row8 {W : World} {b o : Nat} {v0 v1 v2 v3 u0 u1 u2 u3 : Value} (hb : b < W.heap.size) (e0 : W.cell? ⟨b, o, none⟩ = some v0) (e1 : W.cell? ⟨b, o + 1, none⟩ = some v1) (e2 : W.cell? ⟨b, o + 2, none⟩ = some v2) (e3 : W.cell? ⟨b, o + 3, none⟩ = some v3)
    (f0 : W.cell? ⟨b, o + 4, none⟩ = some u0) (f1 : W.cell? ⟨b, o + 4 + 1, none⟩ = some u1) (f2 : W.cell? ⟨b, o + 4 + 2, none⟩ = some u2) (f3 : W.cell? ⟨b, o + 4 + 3, none⟩ = some u3) : Row W W.heap.size (some ⟨b, o, none⟩) [v0, v1, v2, v3, u0, u1, u2, u3] := by
  intro i v hv
  refine ⟨b, o, rfl, hb, ?_⟩
  match i with
  | 0 => rw [Nat.add_zero, e0]; exact hv
  | 1 => rw [e1]; exact hv
  | 2 => rw [e2]; exact hv
  | 3 => rw [e3]; exact hv
  | 4 => rw [f0]; exact hv
  | 5 => exact f1.trans hv
  | 6 => exact f2.trans hv
  | 7 => exact f3.trans hv
  | i + 8 => simp at hv
theorem row_add2 {w : World} {B b o : Nat} {vs : List Value} (h : Row w B (some ⟨b, o, none⟩) vs) : ∀ j u, vs[j]? = some u → w.cell? ((Addr.mk b o none).add j) = some u := by
  intro j u hu
  obtain ⟨b', o', e, hb, hc⟩ := h j u hu
  simp only [Option.some.injEq, Addr.mk.injEq] at e
  obtain ⟨rfl, rfl, _⟩ := e
  have : (Addr.mk b o none).add j = ⟨b, o + j, none⟩ := by unfold Addr.add; split <;> simp_all
  rw [this]; exact hc

set_option maxHeartbeats 8000000 in
set_option maxRecDepth 20000 in
theorem law_FnExprBent (a : Option Addr) (n c : Nat) (z : List Int) (w : World) (hsh : w.ShapedOpen Tryd.prog) (hT : Tabs w) (hz : IsRow .u8 w a n c z) :
    Calls Tryd.prog 7 #[.slice a n c] w fun e w' => e = .returned (.bool true) ∧ Below w.heap.size w w' := by
  have HZ := Lib.hid hz
  have HT := Lib.hid hT
  have hn : (n : Int) ≤ 9223372036854775807 := hz.row.2.2.2.1
  obtain ⟨i0, hi, hz0, hz1, hz2⟩ := info_parts exInfo
  clear hz hT hsh
  go_enter Tryd.func7, Tryd.ntmps7
  by_cases hbig : (1048576 : Int) < (n : Int)
  · have hbig2 : (n : Int) > 1048576 := hbig
    go_wp2_with fail
    go_ret
    exact ⟨rfl, Below.refl _ _⟩
  have hbig2 : ¬ (n : Int) > 1048576 := hbig
  go_wp2_with fail
  refine (drawExprOk a n c z w HZ.out).mono ?_
  rintro e w1 ⟨k, m, s, A, l, cc, t, rfl, hev, hw, _, hb1⟩
  have hal : Below w1.heap.size w1 (w1.alloc (.cells #[.int .i64 k, .int .i64 m, .string s, .slice A l cc] 25)) := (Below.refl _ _).alloc (Nat.le_refl _) _
  have S2 : Hid (CopS w1.heap.size k m s A l cc t (w1.alloc (.cells #[.int .i64 k, .int .i64 m, .string s, .slice A l cc] 25))) := ⟨Blk.alloc_ w1 25 [.int .i64 k, .int .i64 m, .string s, .slice A l cc], hev.below hal⟩
  have HB2 : Hid (Below w.heap.size w (w1.alloc (.cells #[.int .i64 k, .int .i64 m, .string s, .slice A l cc] 25))) := hb1.trans (hal.mono hb1.size)
  have hw2 : wgt t ≤ 1048576 := by omega
  have HW := Lib.hid hw2
  have HWS := Lib.hid hw
  clear hev hw hb1 hw2 hbig hbig2 HZ hal
  go_upto_region 4 with (fail)
  generalize w1.alloc (.cells #[.int .i64 k, .int .i64 m, .string s, .slice A l cc] 25) = w2 at *
  generalize w1.heap.size = Y at *
  have HI : Hid (∀ W, CopS Y k m s A l cc t W → Below w.heap.size w W → Calls Tryd.prog 34 #[.agg #[.int .i64 k, .int .i64 m, .string s, .slice A l cc]] W fun e w' => e = .returned (.bool (exprOk t)) ∧ Below W.heap.size W w') := fun W h hb => implExprOk k m s A l cc t W h.ka HW.out (HT.out.keep hb)
  have HS : Hid (∀ W, CopS Y k m s A l cc t W → Calls Tryd.prog 33 #[.agg #[.int .i64 k, .int .i64 m, .string s, .slice A l cc]] W fun e w' => e = .returned (.bool (exprOk t)) ∧ Below W.heap.size W w') := fun W h => specExprOk k m s A l cc t W h.ka HW.out
  have hdr := (Below.refl w2.heap.size w2).drew
  have Sd := Lib.hid (S2.out.next hdr)
  have HBd : Hid (Below w.heap.size w w2.drew) := HB2.out.trans (hdr.mono HB2.out.size)
  clear hdr
  cases hok : exprOk t with
  | false =>
    rw [hok] at HI HS
    have HN : Hid (∀ W, CopS Y k m s A l cc t W → Below w.heap.size w W → _) := fun W h hb => implWordsNone k m s A l cc t W h.ka HW.out (HT.out.keep hb) hok
    clear hok
    go_region_held3 (fun W => W.cell? ⟨Y, 0, none⟩ = some (.int .i64 k) ∧ W.cell? ⟨Y, 1, none⟩ = some (.int .i64 m) ∧ W.cell? ⟨Y, 2, none⟩ = some (.string s) ∧ W.cell? ⟨Y, 3, none⟩ = some (.slice A l cc))
      ((first | with_reducible exact Sc.out.cells | with_reducible exact Sb.out.cells | with_reducible exact Sa.out.cells | with_reducible exact Sd.out.cells))
      ((first
        | (go_at_call 34
           refine (HI.out _ Sd.out HBd.out).mono ?_
           rintro e wa ⟨rfl, hb⟩
           have Sa := Lib.hid (Sd.out.next hb)
           have HBa : Hid (Below w.heap.size w wa) := HBd.out.trans (hb.mono HBd.out.size)
           clear hb)
        | (go_at_call 33
           refine (HS.out _ Sa.out).mono ?_
           rintro e wb ⟨rfl, hb⟩
           have Sb := Lib.hid (Sa.out.next hb)
           have HBb : Hid (Below w.heap.size w wb) := HBa.out.trans (hb.mono HBa.out.size)
           clear hb)
        | (go_at_call 33
           refine (HS.out _ Sb.out).mono ?_
           rintro e wc ⟨rfl, hb⟩
           have Sc := Lib.hid (Sb.out.next hb)
           have HBc : Hid (Below w.heap.size w wc) := HBb.out.trans (hb.mono HBb.out.size)
           clear hb)))
    have HBc4 : Hid (Below w.heap.size w wc) := HBc
    have hdr := (Below.refl wc.heap.size wc).drew
    have Sd5 := Lib.hid (Sc.out.next hdr)
    have HBd5 : Hid (Below w.heap.size w wc.drew) := HBc.out.trans (hdr.mono HBc.out.size)
    clear hdr
    go_upto_region 5 with (fail)
    go_region_held3 (fun W => W.cell? ⟨Y, 0, none⟩ = some (.int .i64 k) ∧ W.cell? ⟨Y, 1, none⟩ = some (.int .i64 m) ∧ W.cell? ⟨Y, 2, none⟩ = some (.string s) ∧ W.cell? ⟨Y, 3, none⟩ = some (.slice A l cc))
      ((first | with_reducible exact Si.out.cells | with_reducible exact Sh.out.cells | with_reducible exact Sg.out.cells | with_reducible exact Sf.out.cells | with_reducible exact Sd5.out.cells))
      ((first
        | (go_at_call 34
           refine (HI.out _ Sd5.out HBd5.out).mono ?_
           rintro e wf ⟨rfl, hb⟩
           have Sf := Lib.hid (Sd5.out.next hb)
           have HBf : Hid (Below w.heap.size w wf) := HBd5.out.trans (hb.mono HBd5.out.size)
           clear hb)
        | (go_at_call 33
           refine (HS.out _ Sf.out).mono ?_
           rintro e wg ⟨rfl, hb⟩
           have Sg := Lib.hid (Sf.out.next hb)
           have HBg : Hid (Below w.heap.size w wg) := HBf.out.trans (hb.mono HBf.out.size)
           clear hb)
        | (go_at_call 33
           refine (HS.out _ Sg.out).mono ?_
           rintro e wh ⟨rfl, hb⟩
           have Sh := Lib.hid (Sg.out.next hb)
           have HBh : Hid (Below w.heap.size w wh) := HBg.out.trans (hb.mono HBg.out.size)
           clear hb)
        | (go_at_call 27
           refine (HN.out _ Sh.out HBh.out).mono ?_
           rintro e wi ⟨rfl, hb⟩
           have Si := Lib.hid (Sh.out.next hb)
           have HBi : Hid (Below w.heap.size w wi) := HBh.out.trans (hb.mono HBh.out.size)
           clear hb)))
    go_wp2_with fail
    go_ret
    exact ⟨rfl, HBi.out⟩
  | true =>
    rw [hok] at HI HS
    go_region_held3 (fun W => W.cell? ⟨Y, 0, none⟩ = some (.int .i64 k) ∧ W.cell? ⟨Y, 1, none⟩ = some (.int .i64 m) ∧ W.cell? ⟨Y, 2, none⟩ = some (.string s) ∧ W.cell? ⟨Y, 3, none⟩ = some (.slice A l cc))
      ((first | with_reducible exact Sc.out.cells | with_reducible exact Sb.out.cells | with_reducible exact Sa.out.cells | with_reducible exact Sd.out.cells))
      ((first
        | (go_at_call 34
           refine (HI.out _ Sd.out HBd.out).mono ?_
           rintro e wa ⟨rfl, hb⟩
           have Sa := Lib.hid (Sd.out.next hb)
           have HBa : Hid (Below w.heap.size w wa) := HBd.out.trans (hb.mono HBd.out.size)
           clear hb)
        | (go_at_call 33
           refine (HS.out _ Sa.out).mono ?_
           rintro e wb ⟨rfl, hb⟩
           have Sb := Lib.hid (Sa.out.next hb)
           have HBb : Hid (Below w.heap.size w wb) := HBa.out.trans (hb.mono HBa.out.size)
           clear hb)
        | (go_at_call 33
           refine (HS.out _ Sb.out).mono ?_
           rintro e wc ⟨rfl, hb⟩
           have Sc := Lib.hid (Sb.out.next hb)
           have HBc : Hid (Below w.heap.size w wc) := HBb.out.trans (hb.mono HBb.out.size)
           clear hb)))
    have OK := Lib.hid hok
    obtain ⟨p1, p2, p3, p4, _, _, _, dd, hkk⟩ := Sc.out.ka.parts
    have HKK := Lib.hid hkk
    have PP := Lib.hid (And.intro p1 (And.intro p2 (And.intro p3 p4)))
    clear hok hkk p1 p2 p3 p4 Sd Sa Sb S2 HBa HBb HBd HB2 HI HS
    go_upto_region 6 with (fail)
    obtain ⟨u, hu, hu5⟩ := exOk_some OK.out
    rcases exTm_cases hu with ⟨hk1, h0, h1, hks, _⟩ | ⟨hk1, hks, _⟩ | ⟨hk1, x, y, o, v1, v2, hks, hx, hy, _, _⟩ | ⟨hk1, x, b, v1, hks, hx, _, _⟩
    · obtain ⟨q1, q2, q3, q4⟩ := PP.out
      rw [hks] at q4
      obtain rfl : l = 0 := by simpa using q4
      clear q1 q2 q3 q4
      have E0 : Hid (EVs wc [] t.kids) := by unfold Hid; rw [hks]; exact EVs.nil _
      obtain ⟨a0, a1, a2, a3⟩ := blkE_cells Sc.out.ba
      have BA := Lib.hid (Blk.alloc_ wc 25 [.int .i64 k, .int .i64 m, .string s, .slice A 0 cc])
      have hal : Below wc.heap.size wc (wc.alloc (.cells #[.int .i64 k, .int .i64 m, .string s, .slice A 0 cc] 25)) := (Below.refl _ _).alloc (Nat.le_refl _) _
      have S3 := Lib.hid (Sc.out.next hal)
      have HB3 : Hid (Below w.heap.size w (wc.alloc (.cells #[.int .i64 k, .int .i64 m, .string s, .slice A 0 cc] 25))) := HBc.out.trans (hal.mono HBc.out.size)
      have HA3 := Lib.hid hal
      clear hal
      go_upto_region 7 with (fail)
      change Hid (Blk (wc.alloc (.cells #[.int .i64 k, .int .i64 m, .string s, .slice A 0 cc] 25)) wc.heap.size 25 [.int .i64 k, .int .i64 m, .string s, .slice A 0 cc]) at BA
      generalize wc.alloc (.cells #[.int .i64 k, .int .i64 m, .string s, .slice A 0 cc] 25) = w4 at *
      generalize hxa : wc.heap.size = xa at *
      clear a0 a1 a2 a3
      obtain ⟨a0, a1, a2, a3⟩ := blkE_cells S3.out.ba
      have hmk := World.ownsRow_made (base := w4.heap.size) (e := 25) (size := 4) w4 #[] 0 (Nat.le_refl _) (by unfold maxLen; omega) rfl
      have HMK := Lib.hid hmk
      clear hmk
      replace a3 := cell_next (W' := w4.alloc (.cells #[] 25)) a3 ((Below.refl _ _).alloc (Nat.le_refl _) _)
      have HO5 := HMK
      have B5 : Below w4.heap.size w4 (w4.alloc (.cells #[] 25)) := (Below.refl _ _).alloc (Nat.le_refl _) _
      have HB5 := Lib.hid B5
      have hs5 := B5.size
      have HL4 : Hid (Blk ((w4.alloc (.cells #[] 25)).alloc (.cells #[.int .i64 1, .int .i64 0, .string ⟨#[]⟩, .slice none 0 0] 25)) (w4.heap.size + 1) 25 [.int .i64 1, .int .i64 0, .string ⟨#[]⟩, .slice none 0 0]) := by have := Blk.alloc_ (w4.alloc (.cells #[] 25)) 25 [.int .i64 1, .int .i64 0, .string ⟨#[]⟩, .slice none 0 0]; rw [World.size_alloc] at this; exact this
      clear B5
      go_wp2_with (at_builtin; first | (refine wpList_append_zero rfl _ _ 23 rfl w4.heap.size 25 i0 4 Tryd.underlying23 hi _ _ _ rfl HMK.out A cc rfl ?_) | (refine wpList_append_own _ rfl _ _ 23 rfl w4.heap.size 25 i0 (.agg #[.int .i64 0, .int .i64 0, .string ByteArray.empty, .slice none 0 0]) 4 56 Tryd.underlying23 hi hz0 hz1 hz2 rfl (by decide) _ _ _ rfl (HO5.out.alloc _) ⟨w4.heap.size + 1, 0, none⟩ 1 1 [.int .i64 1, .int .i64 0, .string ⟨#[]⟩, .slice none 0 0] rfl rfl ?c1 ?c2 ?c3 ?c4 ?c5 ?_))
      case c1 => exact row_add2 HL4.out.row
      case c2 => intro u hu; simp at hu; rcases hu with rfl | rfl | rfl | rfl <;> rfl
      case c3 => unfold maxLen; omega
      case c4 => omega
      case c5 => simp; omega
      intro v6 w6 hown6 hgrow6 _
      have B6 : Below w4.heap.size w4 w6 := (HB5.out.alloc hs5 _).grown hgrow6 (by simp; omega) (fun k hk => (HO5.out.lt k (by first | exact hk | simpa using hk)).1)
      have hxl : xa < w4.heap.size := BA.out.lt
      have OW7 : (w6.setCell ⟨xa, 3, none⟩ v6).ownsRow w4.heap.size 25 4 v6 1 (([] : List (List Value)).flatten ++ [.int .i64 1, .int .i64 0, .string ⟨#[]⟩, .slice none 0 0]) := own_keep (by simpa using hown6) ((Keep.refl xa w6).set 3 v6) (by omega)
      obtain ⟨A6, c6, rfl, hc6, hm6, hr6⟩ := own_row2 OW7
      have BA6 := BA.out.below B6 BA.out.lt
      have BA7 := Lib.hid (BA6.put 3 (.slice A6 1 c6))
      have b0 := BA6.cell 3
      have y0 := BA6.frozen 3
      simp only [List.getElem?_cons_zero, List.getElem?_cons_succ] at b0
      have hB7 : Below wc.heap.size wc (w6.setCell ⟨xa, 3, none⟩ (.slice A6 1 c6)) := by
        rw [hxa]
        exact (HA3.out.trans (B6.mono (by omega))).setCell (Nat.le_refl _) _
      have S7 := Lib.hid (Sc.out.next hB7)
      have HB7 : Hid (Below w.heap.size w (w6.setCell ⟨xa, 3, none⟩ (.slice A6 1 c6))) := HBc.out.trans (hB7.mono HBc.out.size)
      have hE7 := EVs.snoc (E0.out.below hB7) (ds := [.int .i64 1, .int .i64 0, .string ⟨#[]⟩, .slice none 0 0]) rfl (isEN_leaf 0 _ 1 0 ⟨#[]⟩ (by unfold maxLen; decide)).ev
      have hk7 : t.kids.length = 0 := by rw [hks]; rfl
      have XA7 : Hid (CopS xa k m s A6 1 c6 (.mk k m s.data.toList (t.kids ++ [.mk 1 0 [] []])) (w6.setCell ⟨xa, 3, none⟩ (.slice A6 1 c6))) := ⟨BA7.out, isEV_made hE7 (by simpa using hr6) (by simp [hk7]) hc6 hm6 k m s (by have := PP.out.2.2.1; rw [this, mkB_size]; have := wgt_eq t; have := HWS.out; unfold maxLen; omega)⟩
      clear OW7 hc6 hm6 hr6 BA6 BA7 hB7 hE7 B6 hown6 hgrow6 HL4 HO5 HB5 hs5 BA HA3 HB3 S3 E0 Sc HBc
      go_upto_region 8 with (fail)
      generalize w6.setCell ⟨xa, 3, none⟩ (.slice A6 1 c6) = w7 at *
      clear b0 y0
      have ht := PP.out
      have htx : s.data.toList = t.txt := by rw [ht.2.2.1, mkB_data]
      have hsl : s.size ≤ 500 := by rw [ht.2.2.1, mkB_size]; have := wgt_eq t; have := HWS.out; omega
      have OKA : Hid (exprOk (.mk k m s.data.toList (t.kids ++ [.mk 1 0 [] []])) = false) := by unfold Hid; rw [htx, ht.1, ht.2.1]; exact exprOk_more OK.out _
      have WA : Hid (wgt (.mk k m s.data.toList (t.kids ++ [.mk 1 0 [] []])) ≤ 1048576) := by
        have := wgt_eq t; have := HWS.out
        unfold Hid; rw [htx]; simp only [wgt, wgts_app, wgts, List.length_nil]; omega
      have hbend : ∀ (k' n' : Int) (s' : ByteArray), s'.size ≤ 500 → wgt (.mk k' n' s'.data.toList t.kids) ≤ 1048576 := by
        intro k' n' s' h
        have h1 := wgt_bend t k' n' s'.data.toList
        have h2 := HWS.out
        have h3 : s'.data.toList.length = s'.size := Array.length_toList
        omega
      have BD := Lib.hid hbend
      have HSZ := Lib.hid hsl
      clear ht htx hsl hbend
      obtain ⟨a0, a1, a2, a3⟩ := blkE_cells S7.out.ba
      go_upto_region 10 with (fail)
      have hal : Below w7.heap.size w7 (w7.alloc (.cells #[.int .i64 5, .int .i64 m, .string s, .slice A 0 cc] 25)) := (Below.refl _ _).alloc (Nat.le_refl _) _
      have S8 := Lib.hid (S7.out.next hal)
      have XA8 := Lib.hid (XA7.out.next hal)
      have X58 : Hid (CopS w7.heap.size 5 m s A 0 cc (.mk 5 m s.data.toList t.kids) (w7.alloc (.cells #[.int .i64 5, .int .i64 m, .string s, .slice A 0 cc] 25))) := ⟨Blk.alloc_ w7 25 [.int .i64 5, .int .i64 m, .string s, .slice A 0 cc], (S7.out.ka.below hal).bend 5 m s (by have := HSZ.out; unfold maxLen; omega)⟩
      have HB8 : Hid (Below w.heap.size w (w7.alloc (.cells #[.int .i64 5, .int .i64 m, .string s, .slice A 0 cc] 25))) := HB7.out.trans (hal.mono HB7.out.size)
      clear hal S7 XA7 HB7 a0 a1 a2 a3
      generalize w7.alloc (.cells #[.int .i64 5, .int .i64 m, .string s, .slice A 0 cc] 25) = w8 at *
      generalize w7.heap.size = x5 at *
      obtain ⟨a0, a1, a2, a3⟩ := blkE_cells S8.out.ba
      go_upto_region 12 with (fail)
      have hal : Below w8.heap.size w8 (w8.alloc (.cells #[.int .i64 k, .int .i64 (-1), .string s, .slice A 0 cc] 25)) := (Below.refl _ _).alloc (Nat.le_refl _) _
      have S9 := Lib.hid (S8.out.next hal)
      have XA9 := Lib.hid (XA8.out.next hal)
      have X59 := Lib.hid (X58.out.next hal)
      have X69 : Hid (CopS w8.heap.size k (-1) s A 0 cc (.mk k (-1) s.data.toList t.kids) (w8.alloc (.cells #[.int .i64 k, .int .i64 (-1), .string s, .slice A 0 cc] 25))) := ⟨Blk.alloc_ w8 25 [.int .i64 k, .int .i64 (-1), .string s, .slice A 0 cc], (S8.out.ka.below hal).bend k (-1) s (by have := HSZ.out; unfold maxLen; omega)⟩
      have HB9 : Hid (Below w.heap.size w (w8.alloc (.cells #[.int .i64 k, .int .i64 (-1), .string s, .slice A 0 cc] 25))) := HB8.out.trans (hal.mono HB8.out.size)
      clear hal S8 XA8 X58 HB8 a0 a1 a2 a3
      generalize w8.alloc (.cells #[.int .i64 k, .int .i64 (-1), .string s, .slice A 0 cc] 25) = w9 at *
      generalize w8.heap.size = x6 at *
      obtain ⟨a0, a1, a2, a3⟩ := blkE_cells S9.out.ba
      go_upto_region 14 with (fail)
      have hal : Below w9.heap.size w9 (w9.alloc (.cells #[.int .i64 k, .int .i64 m, .string ⟨#[108, 101, 116]⟩, .slice A 0 cc] 25)) := (Below.refl _ _).alloc (Nat.le_refl _) _
      have XAx := Lib.hid (XA9.out.next hal)
      have X5x := Lib.hid (X59.out.next hal)
      have X6x := Lib.hid (X69.out.next hal)
      have X7x : Hid (CopS w9.heap.size k m ⟨#[108, 101, 116]⟩ A 0 cc (.mk k m [108, 101, 116] t.kids) (w9.alloc (.cells #[.int .i64 k, .int .i64 m, .string ⟨#[108, 101, 116]⟩, .slice A 0 cc] 25))) := ⟨Blk.alloc_ w9 25 [.int .i64 k, .int .i64 m, .string ⟨#[108, 101, 116]⟩, .slice A 0 cc], (S9.out.ka.below hal).bend k m ⟨#[108, 101, 116]⟩ (by unfold maxLen; decide)⟩
      have HBx : Hid (Below w.heap.size w (w9.alloc (.cells #[.int .i64 k, .int .i64 m, .string ⟨#[108, 101, 116]⟩, .slice A 0 cc] 25))) := HB9.out.trans (hal.mono HB9.out.size)
      clear hal S9 XA9 X59 X69 HB9 a0 a1 a2 a3
      generalize w9.alloc (.cells #[.int .i64 k, .int .i64 m, .string ⟨#[108, 101, 116]⟩, .slice A 0 cc] 25) = wx at *
      generalize w9.heap.size = x7 at *
      obtain ⟨a0, a1, a2, a3⟩ := blkE_cells XAx.out.ba
      go_wp2_with fail
      refine (implExprOk _ _ _ _ _ _ _ wx XAx.out.ka WA.out (HT.out.keep HBx.out)).mono ?_
      rw [OKA.out]
      rintro e wy ⟨rfl, hb⟩
      have X5y := Lib.hid (X5x.out.next hb)
      have X6y := Lib.hid (X6x.out.next hb)
      have X7y := Lib.hid (X7x.out.next hb)
      have HBy : Hid (Below w.heap.size w wy) := HBx.out.trans (hb.mono HBx.out.size)
      clear hb XAx X5x X6x X7x HBx a0 a1 a2 a3
      obtain ⟨a0, a1, a2, a3⟩ := blkE_cells X5y.out.ba
      go_wp2_with fail
      refine (implExprOk _ _ _ _ _ _ _ wy X5y.out.ka (BD.out _ _ _ HSZ.out) (HT.out.keep HBy.out)).mono ?_
      rw [exprOk_five]
      rintro e wz ⟨rfl, hb⟩
      have X6z := Lib.hid (X6y.out.next hb)
      have X7z := Lib.hid (X7y.out.next hb)
      have HBz : Hid (Below w.heap.size w wz) := HBy.out.trans (hb.mono HBy.out.size)
      clear hb X5y X6y X7y HBy a0 a1 a2 a3
      obtain ⟨a0, a1, a2, a3⟩ := blkE_cells X6z.out.ba
      go_wp2_with fail
      refine (implExprOk _ _ _ _ _ _ _ wz X6z.out.ka (BD.out _ _ _ HSZ.out) (HT.out.keep HBz.out)).mono ?_
      rw [exprOk_neg]
      rintro e wt ⟨rfl, hb⟩
      have X7t := Lib.hid (X7z.out.next hb)
      have HBt : Hid (Below w.heap.size w wt) := HBz.out.trans (hb.mono HBz.out.size)
      clear hb X6z X7z HBz a0 a1 a2 a3
      obtain ⟨a0, a1, a2, a3⟩ := blkE_cells X7t.out.ba
      go_wp2_with fail
      refine (implExprOk _ _ _ _ _ _ _ wt X7t.out.ka (BD.out k m ⟨#[108, 101, 116]⟩ (by decide)) (HT.out.keep HBt.out)).mono ?_
      rw [exprOk_let]
      rintro e wv ⟨rfl, hb⟩
      have HBv : Hid (Below w.heap.size w wv) := HBt.out.trans (hb.mono HBt.out.size)
      clear hb X7t HBt a0 a1 a2 a3
      go_wp2_with fail
      go_ret
      exact ⟨rfl, HBv.out⟩
    · obtain ⟨q1, q2, q3, q4⟩ := PP.out
      rw [hks] at q4
      obtain rfl : l = 0 := by simpa using q4
      clear q1 q2 q3 q4
      have E0 : Hid (EVs wc [] t.kids) := by unfold Hid; rw [hks]; exact EVs.nil _
      obtain ⟨a0, a1, a2, a3⟩ := blkE_cells Sc.out.ba
      have BA := Lib.hid (Blk.alloc_ wc 25 [.int .i64 k, .int .i64 m, .string s, .slice A 0 cc])
      have hal : Below wc.heap.size wc (wc.alloc (.cells #[.int .i64 k, .int .i64 m, .string s, .slice A 0 cc] 25)) := (Below.refl _ _).alloc (Nat.le_refl _) _
      have S3 := Lib.hid (Sc.out.next hal)
      have HB3 : Hid (Below w.heap.size w (wc.alloc (.cells #[.int .i64 k, .int .i64 m, .string s, .slice A 0 cc] 25))) := HBc.out.trans (hal.mono HBc.out.size)
      have HA3 := Lib.hid hal
      clear hal
      go_upto_region 7 with (fail)
      change Hid (Blk (wc.alloc (.cells #[.int .i64 k, .int .i64 m, .string s, .slice A 0 cc] 25)) wc.heap.size 25 [.int .i64 k, .int .i64 m, .string s, .slice A 0 cc]) at BA
      generalize wc.alloc (.cells #[.int .i64 k, .int .i64 m, .string s, .slice A 0 cc] 25) = w4 at *
      generalize hxa : wc.heap.size = xa at *
      clear a0 a1 a2 a3
      obtain ⟨a0, a1, a2, a3⟩ := blkE_cells S3.out.ba
      have hmk := World.ownsRow_made (base := w4.heap.size) (e := 25) (size := 4) w4 #[] 0 (Nat.le_refl _) (by unfold maxLen; omega) rfl
      have HMK := Lib.hid hmk
      clear hmk
      replace a3 := cell_next (W' := w4.alloc (.cells #[] 25)) a3 ((Below.refl _ _).alloc (Nat.le_refl _) _)
      have HO5 := HMK
      have B5 : Below w4.heap.size w4 (w4.alloc (.cells #[] 25)) := (Below.refl _ _).alloc (Nat.le_refl _) _
      have HB5 := Lib.hid B5
      have hs5 := B5.size
      have HL4 : Hid (Blk ((w4.alloc (.cells #[] 25)).alloc (.cells #[.int .i64 1, .int .i64 0, .string ⟨#[]⟩, .slice none 0 0] 25)) (w4.heap.size + 1) 25 [.int .i64 1, .int .i64 0, .string ⟨#[]⟩, .slice none 0 0]) := by have := Blk.alloc_ (w4.alloc (.cells #[] 25)) 25 [.int .i64 1, .int .i64 0, .string ⟨#[]⟩, .slice none 0 0]; rw [World.size_alloc] at this; exact this
      clear B5
      go_wp2_with (at_builtin; first | (refine wpList_append_zero rfl _ _ 23 rfl w4.heap.size 25 i0 4 Tryd.underlying23 hi _ _ _ rfl HMK.out A cc rfl ?_) | (refine wpList_append_own _ rfl _ _ 23 rfl w4.heap.size 25 i0 (.agg #[.int .i64 0, .int .i64 0, .string ByteArray.empty, .slice none 0 0]) 4 56 Tryd.underlying23 hi hz0 hz1 hz2 rfl (by decide) _ _ _ rfl (HO5.out.alloc _) ⟨w4.heap.size + 1, 0, none⟩ 1 1 [.int .i64 1, .int .i64 0, .string ⟨#[]⟩, .slice none 0 0] rfl rfl ?c1 ?c2 ?c3 ?c4 ?c5 ?_))
      case c1 => exact row_add2 HL4.out.row
      case c2 => intro u hu; simp at hu; rcases hu with rfl | rfl | rfl | rfl <;> rfl
      case c3 => unfold maxLen; omega
      case c4 => omega
      case c5 => simp; omega
      intro v6 w6 hown6 hgrow6 _
      have B6 : Below w4.heap.size w4 w6 := (HB5.out.alloc hs5 _).grown hgrow6 (by simp; omega) (fun k hk => (HO5.out.lt k (by first | exact hk | simpa using hk)).1)
      have hxl : xa < w4.heap.size := BA.out.lt
      have OW7 : (w6.setCell ⟨xa, 3, none⟩ v6).ownsRow w4.heap.size 25 4 v6 1 (([] : List (List Value)).flatten ++ [.int .i64 1, .int .i64 0, .string ⟨#[]⟩, .slice none 0 0]) := own_keep (by simpa using hown6) ((Keep.refl xa w6).set 3 v6) (by omega)
      obtain ⟨A6, c6, rfl, hc6, hm6, hr6⟩ := own_row2 OW7
      have BA6 := BA.out.below B6 BA.out.lt
      have BA7 := Lib.hid (BA6.put 3 (.slice A6 1 c6))
      have b0 := BA6.cell 3
      have y0 := BA6.frozen 3
      simp only [List.getElem?_cons_zero, List.getElem?_cons_succ] at b0
      have hB7 : Below wc.heap.size wc (w6.setCell ⟨xa, 3, none⟩ (.slice A6 1 c6)) := by
        rw [hxa]
        exact (HA3.out.trans (B6.mono (by omega))).setCell (Nat.le_refl _) _
      have S7 := Lib.hid (Sc.out.next hB7)
      have HB7 : Hid (Below w.heap.size w (w6.setCell ⟨xa, 3, none⟩ (.slice A6 1 c6))) := HBc.out.trans (hB7.mono HBc.out.size)
      have hE7 := EVs.snoc (E0.out.below hB7) (ds := [.int .i64 1, .int .i64 0, .string ⟨#[]⟩, .slice none 0 0]) rfl (isEN_leaf 0 _ 1 0 ⟨#[]⟩ (by unfold maxLen; decide)).ev
      have hk7 : t.kids.length = 0 := by rw [hks]; rfl
      have XA7 : Hid (CopS xa k m s A6 1 c6 (.mk k m s.data.toList (t.kids ++ [.mk 1 0 [] []])) (w6.setCell ⟨xa, 3, none⟩ (.slice A6 1 c6))) := ⟨BA7.out, isEV_made hE7 (by simpa using hr6) (by simp [hk7]) hc6 hm6 k m s (by have := PP.out.2.2.1; rw [this, mkB_size]; have := wgt_eq t; have := HWS.out; unfold maxLen; omega)⟩
      clear OW7 hc6 hm6 hr6 BA6 BA7 hB7 hE7 B6 hown6 hgrow6 HL4 HO5 HB5 hs5 BA HA3 HB3 S3 E0 Sc HBc
      go_upto_region 8 with (fail)
      generalize w6.setCell ⟨xa, 3, none⟩ (.slice A6 1 c6) = w7 at *
      clear b0 y0
      have ht := PP.out
      have htx : s.data.toList = t.txt := by rw [ht.2.2.1, mkB_data]
      have hsl : s.size ≤ 500 := by rw [ht.2.2.1, mkB_size]; have := wgt_eq t; have := HWS.out; omega
      have OKA : Hid (exprOk (.mk k m s.data.toList (t.kids ++ [.mk 1 0 [] []])) = false) := by unfold Hid; rw [htx, ht.1, ht.2.1]; exact exprOk_more OK.out _
      have WA : Hid (wgt (.mk k m s.data.toList (t.kids ++ [.mk 1 0 [] []])) ≤ 1048576) := by
        have := wgt_eq t; have := HWS.out
        unfold Hid; rw [htx]; simp only [wgt, wgts_app, wgts, List.length_nil]; omega
      have hbend : ∀ (k' n' : Int) (s' : ByteArray), s'.size ≤ 500 → wgt (.mk k' n' s'.data.toList t.kids) ≤ 1048576 := by
        intro k' n' s' h
        have h1 := wgt_bend t k' n' s'.data.toList
        have h2 := HWS.out
        have h3 : s'.data.toList.length = s'.size := Array.length_toList
        omega
      have BD := Lib.hid hbend
      have HSZ := Lib.hid hsl
      clear ht htx hsl hbend
      obtain ⟨a0, a1, a2, a3⟩ := blkE_cells S7.out.ba
      go_upto_region 10 with (fail)
      have hal : Below w7.heap.size w7 (w7.alloc (.cells #[.int .i64 5, .int .i64 m, .string s, .slice A 0 cc] 25)) := (Below.refl _ _).alloc (Nat.le_refl _) _
      have S8 := Lib.hid (S7.out.next hal)
      have XA8 := Lib.hid (XA7.out.next hal)
      have X58 : Hid (CopS w7.heap.size 5 m s A 0 cc (.mk 5 m s.data.toList t.kids) (w7.alloc (.cells #[.int .i64 5, .int .i64 m, .string s, .slice A 0 cc] 25))) := ⟨Blk.alloc_ w7 25 [.int .i64 5, .int .i64 m, .string s, .slice A 0 cc], (S7.out.ka.below hal).bend 5 m s (by have := HSZ.out; unfold maxLen; omega)⟩
      have HB8 : Hid (Below w.heap.size w (w7.alloc (.cells #[.int .i64 5, .int .i64 m, .string s, .slice A 0 cc] 25))) := HB7.out.trans (hal.mono HB7.out.size)
      clear hal S7 XA7 HB7 a0 a1 a2 a3
      generalize w7.alloc (.cells #[.int .i64 5, .int .i64 m, .string s, .slice A 0 cc] 25) = w8 at *
      generalize w7.heap.size = x5 at *
      obtain ⟨a0, a1, a2, a3⟩ := blkE_cells S8.out.ba
      go_upto_region 12 with (fail)
      have hal : Below w8.heap.size w8 (w8.alloc (.cells #[.int .i64 k, .int .i64 (-1), .string s, .slice A 0 cc] 25)) := (Below.refl _ _).alloc (Nat.le_refl _) _
      have S9 := Lib.hid (S8.out.next hal)
      have XA9 := Lib.hid (XA8.out.next hal)
      have X59 := Lib.hid (X58.out.next hal)
      have X69 : Hid (CopS w8.heap.size k (-1) s A 0 cc (.mk k (-1) s.data.toList t.kids) (w8.alloc (.cells #[.int .i64 k, .int .i64 (-1), .string s, .slice A 0 cc] 25))) := ⟨Blk.alloc_ w8 25 [.int .i64 k, .int .i64 (-1), .string s, .slice A 0 cc], (S8.out.ka.below hal).bend k (-1) s (by have := HSZ.out; unfold maxLen; omega)⟩
      have HB9 : Hid (Below w.heap.size w (w8.alloc (.cells #[.int .i64 k, .int .i64 (-1), .string s, .slice A 0 cc] 25))) := HB8.out.trans (hal.mono HB8.out.size)
      clear hal S8 XA8 X58 HB8 a0 a1 a2 a3
      generalize w8.alloc (.cells #[.int .i64 k, .int .i64 (-1), .string s, .slice A 0 cc] 25) = w9 at *
      generalize w8.heap.size = x6 at *
      obtain ⟨a0, a1, a2, a3⟩ := blkE_cells S9.out.ba
      go_upto_region 14 with (fail)
      have hal : Below w9.heap.size w9 (w9.alloc (.cells #[.int .i64 k, .int .i64 m, .string ⟨#[108, 101, 116]⟩, .slice A 0 cc] 25)) := (Below.refl _ _).alloc (Nat.le_refl _) _
      have XAx := Lib.hid (XA9.out.next hal)
      have X5x := Lib.hid (X59.out.next hal)
      have X6x := Lib.hid (X69.out.next hal)
      have X7x : Hid (CopS w9.heap.size k m ⟨#[108, 101, 116]⟩ A 0 cc (.mk k m [108, 101, 116] t.kids) (w9.alloc (.cells #[.int .i64 k, .int .i64 m, .string ⟨#[108, 101, 116]⟩, .slice A 0 cc] 25))) := ⟨Blk.alloc_ w9 25 [.int .i64 k, .int .i64 m, .string ⟨#[108, 101, 116]⟩, .slice A 0 cc], (S9.out.ka.below hal).bend k m ⟨#[108, 101, 116]⟩ (by unfold maxLen; decide)⟩
      have HBx : Hid (Below w.heap.size w (w9.alloc (.cells #[.int .i64 k, .int .i64 m, .string ⟨#[108, 101, 116]⟩, .slice A 0 cc] 25))) := HB9.out.trans (hal.mono HB9.out.size)
      clear hal S9 XA9 X59 X69 HB9 a0 a1 a2 a3
      generalize w9.alloc (.cells #[.int .i64 k, .int .i64 m, .string ⟨#[108, 101, 116]⟩, .slice A 0 cc] 25) = wx at *
      generalize w9.heap.size = x7 at *
      obtain ⟨a0, a1, a2, a3⟩ := blkE_cells XAx.out.ba
      go_wp2_with fail
      refine (implExprOk _ _ _ _ _ _ _ wx XAx.out.ka WA.out (HT.out.keep HBx.out)).mono ?_
      rw [OKA.out]
      rintro e wy ⟨rfl, hb⟩
      have X5y := Lib.hid (X5x.out.next hb)
      have X6y := Lib.hid (X6x.out.next hb)
      have X7y := Lib.hid (X7x.out.next hb)
      have HBy : Hid (Below w.heap.size w wy) := HBx.out.trans (hb.mono HBx.out.size)
      clear hb XAx X5x X6x X7x HBx a0 a1 a2 a3
      obtain ⟨a0, a1, a2, a3⟩ := blkE_cells X5y.out.ba
      go_wp2_with fail
      refine (implExprOk _ _ _ _ _ _ _ wy X5y.out.ka (BD.out _ _ _ HSZ.out) (HT.out.keep HBy.out)).mono ?_
      rw [exprOk_five]
      rintro e wz ⟨rfl, hb⟩
      have X6z := Lib.hid (X6y.out.next hb)
      have X7z := Lib.hid (X7y.out.next hb)
      have HBz : Hid (Below w.heap.size w wz) := HBy.out.trans (hb.mono HBy.out.size)
      clear hb X5y X6y X7y HBy a0 a1 a2 a3
      obtain ⟨a0, a1, a2, a3⟩ := blkE_cells X6z.out.ba
      go_wp2_with fail
      refine (implExprOk _ _ _ _ _ _ _ wz X6z.out.ka (BD.out _ _ _ HSZ.out) (HT.out.keep HBz.out)).mono ?_
      rw [exprOk_neg]
      rintro e wt ⟨rfl, hb⟩
      have X7t := Lib.hid (X7z.out.next hb)
      have HBt : Hid (Below w.heap.size w wt) := HBz.out.trans (hb.mono HBz.out.size)
      clear hb X6z X7z HBz a0 a1 a2 a3
      obtain ⟨a0, a1, a2, a3⟩ := blkE_cells X7t.out.ba
      go_wp2_with fail
      refine (implExprOk _ _ _ _ _ _ _ wt X7t.out.ka (BD.out k m ⟨#[108, 101, 116]⟩ (by decide)) (HT.out.keep HBt.out)).mono ?_
      rw [exprOk_let]
      rintro e wv ⟨rfl, hb⟩
      have HBv : Hid (Below w.heap.size w wv) := HBt.out.trans (hb.mono HBt.out.size)
      clear hb X7t HBt a0 a1 a2 a3
      go_wp2_with fail
      go_ret
      exact ⟨rfl, HBv.out⟩
    · obtain ⟨q1, q2, q3, q4⟩ := PP.out
      rw [hks] at q4
      obtain rfl : l = 2 := by simpa using q4
      clear q1 q2 q3 q4
      have HK2 : Hid (Kids wc (Low wc) dd A [x, y]) := by have := HKK.out; rw [hks] at this; exact this
      obtain ⟨b', o', k1, n1, g1, A1, l1, c1, k2, n2, g2, A2, l2, c2, rfl, hbb, hev1, hev2, e0, e1, e2, e3, f0, f1, f2, f3⟩ := kid2 HK2.out
      have E0 : Hid (EVs wc [[.int .i64 k1, .int .i64 n1, .string g1, .slice A1 l1 c1], [.int .i64 k2, .int .i64 n2, .string g2, .slice A2 l2 c2]] t.kids) := by unfold Hid; rw [hks]; exact ((EVs.nil _).cons rfl hev2).cons rfl hev1
      have RK0 := Lib.hid (row8 hbb e0 e1 e2 e3 f0 f1 f2 f3)
      clear hbb hev1 hev2 e0 e1 e2 e3 f0 f1 f2 f3 HK2
      obtain ⟨a0, a1, a2, a3⟩ := blkE_cells Sc.out.ba
      have BA := Lib.hid (Blk.alloc_ wc 25 [.int .i64 k, .int .i64 m, .string s, .slice (some ⟨b', o', none⟩) 2 cc])
      have hal : Below wc.heap.size wc (wc.alloc (.cells #[.int .i64 k, .int .i64 m, .string s, .slice (some ⟨b', o', none⟩) 2 cc] 25)) := (Below.refl _ _).alloc (Nat.le_refl _) _
      have S3 := Lib.hid (Sc.out.next hal)
      have HB3 : Hid (Below w.heap.size w (wc.alloc (.cells #[.int .i64 k, .int .i64 m, .string s, .slice (some ⟨b', o', none⟩) 2 cc] 25))) := HBc.out.trans (hal.mono HBc.out.size)
      have HA3 := Lib.hid hal
      clear hal
      go_upto_region 7 with (fail)
      change Hid (Blk (wc.alloc (.cells #[.int .i64 k, .int .i64 m, .string s, .slice (some ⟨b', o', none⟩) 2 cc] 25)) wc.heap.size 25 [.int .i64 k, .int .i64 m, .string s, .slice (some ⟨b', o', none⟩) 2 cc]) at BA
      generalize wc.alloc (.cells #[.int .i64 k, .int .i64 m, .string s, .slice (some ⟨b', o', none⟩) 2 cc] 25) = w4 at *
      generalize hxa : wc.heap.size = xa at *
      clear a0 a1 a2 a3
      obtain ⟨a0, a1, a2, a3⟩ := blkE_cells S3.out.ba
      have hmk := World.ownsRow_made (base := w4.heap.size) (e := 25) (size := 4) w4 #[] 0 (Nat.le_refl _) (by unfold maxLen; omega) rfl
      have HMK := Lib.hid hmk
      clear hmk
      replace a3 := cell_next (W' := w4.alloc (.cells #[] 25)) a3 ((Below.refl _ _).alloc (Nat.le_refl _) _)
      have RK := Lib.hid ((RK0.out.below HA3.out).below ((Below.refl xa w4).alloc (Nat.le_of_lt BA.out.lt) (.cells #[] 25)))
      clear RK0
      go_wp2_with (at_builtin; refine wpList_append_own _ rfl _ _ 23 rfl w4.heap.size 25 i0 (.agg #[.int .i64 0, .int .i64 0, .string ByteArray.empty, .slice none 0 0]) 4 56 Tryd.underlying23 hi hz0 hz1 hz2 rfl (by decide) _ _ _ rfl HMK.out ⟨b', o', none⟩ 2 cc [.int .i64 k1, .int .i64 n1, .string g1, .slice A1 l1 c1, .int .i64 k2, .int .i64 n2, .string g2, .slice A2 l2 c2] rfl rfl (row_add2 RK.out) ?k2 ?k3 ?k4 ?k5 ?_)
      case k2 => intro u hu; simp at hu; rcases hu with rfl | rfl | rfl | rfl | rfl | rfl | rfl | rfl <;> rfl
      case k3 => unfold maxLen; omega
      case k4 => omega
      case k5 => simp
      intro v5 w5 hown5 hgrow5 _
      have B5 : Below w4.heap.size w4 w5 := ((Below.refl _ _).alloc (Nat.le_refl _) _).grown hgrow5 (by simp) (fun k hk => by have := (HMK.out.lt k (by first | exact hk | simpa using hk)).1; omega)
      try simp only [Nat.zero_add, List.nil_append] at hown5
      have HO5 := Lib.hid hown5
      have HB5 := Lib.hid B5
      have hs5 := B5.size
      have HL4 := Lib.hid (Blk.alloc_ w5 25 [.int .i64 1, .int .i64 0, .string ⟨#[]⟩, .slice none 0 0])
      clear hown5 hgrow5 HMK a0 a1 a2 a3 B5
      go_wp2_with (at_builtin; refine wpList_append_own _ rfl _ _ 23 rfl w4.heap.size 25 i0 (.agg #[.int .i64 0, .int .i64 0, .string ByteArray.empty, .slice none 0 0]) 4 56 Tryd.underlying23 hi hz0 hz1 hz2 rfl (by decide) _ _ _ rfl (HO5.out.alloc _) ⟨w5.heap.size, 0, none⟩ 1 1 [.int .i64 1, .int .i64 0, .string ⟨#[]⟩, .slice none 0 0] rfl rfl ?c1 ?c2 ?c3 ?c4 ?c5 ?_)
      case c1 => exact row_add2 HL4.out.row
      case c2 => intro u hu; simp at hu; rcases hu with rfl | rfl | rfl | rfl <;> rfl
      case c3 => unfold maxLen; omega
      case c4 => omega
      case c5 => simp; omega
      intro v6 w6 hown6 hgrow6 _
      have B6 : Below w4.heap.size w4 w6 := (HB5.out.alloc hs5 _).grown hgrow6 (by simp; omega) (fun k hk => (HO5.out.lt k (by first | exact hk | simpa using hk)).1)
      have hxl : xa < w4.heap.size := BA.out.lt
      have OW7 : (w6.setCell ⟨xa, 3, none⟩ v6).ownsRow w4.heap.size 25 4 v6 3 ([[.int .i64 k1, .int .i64 n1, .string g1, .slice A1 l1 c1], [.int .i64 k2, .int .i64 n2, .string g2, .slice A2 l2 c2]].flatten ++ [.int .i64 1, .int .i64 0, .string ⟨#[]⟩, .slice none 0 0]) := own_keep (by simpa using hown6) ((Keep.refl xa w6).set 3 v6) (by omega)
      obtain ⟨A6, c6, rfl, hc6, hm6, hr6⟩ := own_row2 OW7
      have BA6 := BA.out.below B6 BA.out.lt
      have BA7 := Lib.hid (BA6.put 3 (.slice A6 3 c6))
      have b0 := BA6.cell 3
      have y0 := BA6.frozen 3
      simp only [List.getElem?_cons_zero, List.getElem?_cons_succ] at b0
      have hB7 : Below wc.heap.size wc (w6.setCell ⟨xa, 3, none⟩ (.slice A6 3 c6)) := by
        rw [hxa]
        exact (HA3.out.trans (B6.mono (by omega))).setCell (Nat.le_refl _) _
      have S7 := Lib.hid (Sc.out.next hB7)
      have HB7 : Hid (Below w.heap.size w (w6.setCell ⟨xa, 3, none⟩ (.slice A6 3 c6))) := HBc.out.trans (hB7.mono HBc.out.size)
      have hE7 := EVs.snoc (E0.out.below hB7) (ds := [.int .i64 1, .int .i64 0, .string ⟨#[]⟩, .slice none 0 0]) rfl (isEN_leaf 0 _ 1 0 ⟨#[]⟩ (by unfold maxLen; decide)).ev
      have hk7 : t.kids.length = 2 := by rw [hks]; rfl
      have XA7 : Hid (CopS xa k m s A6 3 c6 (.mk k m s.data.toList (t.kids ++ [.mk 1 0 [] []])) (w6.setCell ⟨xa, 3, none⟩ (.slice A6 3 c6))) := ⟨BA7.out, isEV_made hE7 (by simpa using hr6) (by simp [hk7]) hc6 hm6 k m s (by have := PP.out.2.2.1; rw [this, mkB_size]; have := wgt_eq t; have := HWS.out; unfold maxLen; omega)⟩
      clear OW7 hc6 hm6 hr6 BA6 BA7 hB7 hE7 B6 hown6 hgrow6 HL4 HO5 HB5 hs5 BA HA3 HB3 S3 E0 Sc HBc
      go_upto_region 8 with (fail)
      generalize w6.setCell ⟨xa, 3, none⟩ (.slice A6 3 c6) = w7 at *
      clear b0 y0
      have ht := PP.out
      have htx : s.data.toList = t.txt := by rw [ht.2.2.1, mkB_data]
      have hsl : s.size ≤ 500 := by rw [ht.2.2.1, mkB_size]; have := wgt_eq t; have := HWS.out; omega
      have OKA : Hid (exprOk (.mk k m s.data.toList (t.kids ++ [.mk 1 0 [] []])) = false) := by unfold Hid; rw [htx, ht.1, ht.2.1]; exact exprOk_more OK.out _
      have WA : Hid (wgt (.mk k m s.data.toList (t.kids ++ [.mk 1 0 [] []])) ≤ 1048576) := by
        have := wgt_eq t; have := HWS.out
        unfold Hid; rw [htx]; simp only [wgt, wgts_app, wgts, List.length_nil]; omega
      have hbend : ∀ (k' n' : Int) (s' : ByteArray), s'.size ≤ 500 → wgt (.mk k' n' s'.data.toList t.kids) ≤ 1048576 := by
        intro k' n' s' h
        have h1 := wgt_bend t k' n' s'.data.toList
        have h2 := HWS.out
        have h3 : s'.data.toList.length = s'.size := Array.length_toList
        omega
      have BD := Lib.hid hbend
      have HSZ := Lib.hid hsl
      clear ht htx hsl hbend
      obtain ⟨a0, a1, a2, a3⟩ := blkE_cells S7.out.ba
      go_upto_region 10 with (fail)
      have hal : Below w7.heap.size w7 (w7.alloc (.cells #[.int .i64 5, .int .i64 m, .string s, .slice (some ⟨b', o', none⟩) 2 cc] 25)) := (Below.refl _ _).alloc (Nat.le_refl _) _
      have S8 := Lib.hid (S7.out.next hal)
      have XA8 := Lib.hid (XA7.out.next hal)
      have X58 : Hid (CopS w7.heap.size 5 m s (some ⟨b', o', none⟩) 2 cc (.mk 5 m s.data.toList t.kids) (w7.alloc (.cells #[.int .i64 5, .int .i64 m, .string s, .slice (some ⟨b', o', none⟩) 2 cc] 25))) := ⟨Blk.alloc_ w7 25 [.int .i64 5, .int .i64 m, .string s, .slice (some ⟨b', o', none⟩) 2 cc], (S7.out.ka.below hal).bend 5 m s (by have := HSZ.out; unfold maxLen; omega)⟩
      have HB8 : Hid (Below w.heap.size w (w7.alloc (.cells #[.int .i64 5, .int .i64 m, .string s, .slice (some ⟨b', o', none⟩) 2 cc] 25))) := HB7.out.trans (hal.mono HB7.out.size)
      clear hal S7 XA7 HB7 a0 a1 a2 a3
      generalize w7.alloc (.cells #[.int .i64 5, .int .i64 m, .string s, .slice (some ⟨b', o', none⟩) 2 cc] 25) = w8 at *
      generalize w7.heap.size = x5 at *
      obtain ⟨a0, a1, a2, a3⟩ := blkE_cells S8.out.ba
      go_upto_region 12 with (fail)
      have hal : Below w8.heap.size w8 (w8.alloc (.cells #[.int .i64 k, .int .i64 (-1), .string s, .slice (some ⟨b', o', none⟩) 2 cc] 25)) := (Below.refl _ _).alloc (Nat.le_refl _) _
      have S9 := Lib.hid (S8.out.next hal)
      have XA9 := Lib.hid (XA8.out.next hal)
      have X59 := Lib.hid (X58.out.next hal)
      have X69 : Hid (CopS w8.heap.size k (-1) s (some ⟨b', o', none⟩) 2 cc (.mk k (-1) s.data.toList t.kids) (w8.alloc (.cells #[.int .i64 k, .int .i64 (-1), .string s, .slice (some ⟨b', o', none⟩) 2 cc] 25))) := ⟨Blk.alloc_ w8 25 [.int .i64 k, .int .i64 (-1), .string s, .slice (some ⟨b', o', none⟩) 2 cc], (S8.out.ka.below hal).bend k (-1) s (by have := HSZ.out; unfold maxLen; omega)⟩
      have HB9 : Hid (Below w.heap.size w (w8.alloc (.cells #[.int .i64 k, .int .i64 (-1), .string s, .slice (some ⟨b', o', none⟩) 2 cc] 25))) := HB8.out.trans (hal.mono HB8.out.size)
      clear hal S8 XA8 X58 HB8 a0 a1 a2 a3
      generalize w8.alloc (.cells #[.int .i64 k, .int .i64 (-1), .string s, .slice (some ⟨b', o', none⟩) 2 cc] 25) = w9 at *
      generalize w8.heap.size = x6 at *
      obtain ⟨a0, a1, a2, a3⟩ := blkE_cells S9.out.ba
      go_upto_region 14 with (fail)
      have hal : Below w9.heap.size w9 (w9.alloc (.cells #[.int .i64 k, .int .i64 m, .string ⟨#[108, 101, 116]⟩, .slice (some ⟨b', o', none⟩) 2 cc] 25)) := (Below.refl _ _).alloc (Nat.le_refl _) _
      have XAx := Lib.hid (XA9.out.next hal)
      have X5x := Lib.hid (X59.out.next hal)
      have X6x := Lib.hid (X69.out.next hal)
      have X7x : Hid (CopS w9.heap.size k m ⟨#[108, 101, 116]⟩ (some ⟨b', o', none⟩) 2 cc (.mk k m [108, 101, 116] t.kids) (w9.alloc (.cells #[.int .i64 k, .int .i64 m, .string ⟨#[108, 101, 116]⟩, .slice (some ⟨b', o', none⟩) 2 cc] 25))) := ⟨Blk.alloc_ w9 25 [.int .i64 k, .int .i64 m, .string ⟨#[108, 101, 116]⟩, .slice (some ⟨b', o', none⟩) 2 cc], (S9.out.ka.below hal).bend k m ⟨#[108, 101, 116]⟩ (by unfold maxLen; decide)⟩
      have HBx : Hid (Below w.heap.size w (w9.alloc (.cells #[.int .i64 k, .int .i64 m, .string ⟨#[108, 101, 116]⟩, .slice (some ⟨b', o', none⟩) 2 cc] 25))) := HB9.out.trans (hal.mono HB9.out.size)
      clear hal S9 XA9 X59 X69 HB9 a0 a1 a2 a3
      generalize w9.alloc (.cells #[.int .i64 k, .int .i64 m, .string ⟨#[108, 101, 116]⟩, .slice (some ⟨b', o', none⟩) 2 cc] 25) = wx at *
      generalize w9.heap.size = x7 at *
      obtain ⟨a0, a1, a2, a3⟩ := blkE_cells XAx.out.ba
      go_wp2_with fail
      refine (implExprOk _ _ _ _ _ _ _ wx XAx.out.ka WA.out (HT.out.keep HBx.out)).mono ?_
      rw [OKA.out]
      rintro e wy ⟨rfl, hb⟩
      have X5y := Lib.hid (X5x.out.next hb)
      have X6y := Lib.hid (X6x.out.next hb)
      have X7y := Lib.hid (X7x.out.next hb)
      have HBy : Hid (Below w.heap.size w wy) := HBx.out.trans (hb.mono HBx.out.size)
      clear hb XAx X5x X6x X7x HBx a0 a1 a2 a3
      obtain ⟨a0, a1, a2, a3⟩ := blkE_cells X5y.out.ba
      go_wp2_with fail
      refine (implExprOk _ _ _ _ _ _ _ wy X5y.out.ka (BD.out _ _ _ HSZ.out) (HT.out.keep HBy.out)).mono ?_
      rw [exprOk_five]
      rintro e wz ⟨rfl, hb⟩
      have X6z := Lib.hid (X6y.out.next hb)
      have X7z := Lib.hid (X7y.out.next hb)
      have HBz : Hid (Below w.heap.size w wz) := HBy.out.trans (hb.mono HBy.out.size)
      clear hb X5y X6y X7y HBy a0 a1 a2 a3
      obtain ⟨a0, a1, a2, a3⟩ := blkE_cells X6z.out.ba
      go_wp2_with fail
      refine (implExprOk _ _ _ _ _ _ _ wz X6z.out.ka (BD.out _ _ _ HSZ.out) (HT.out.keep HBz.out)).mono ?_
      rw [exprOk_neg]
      rintro e wt ⟨rfl, hb⟩
      have X7t := Lib.hid (X7z.out.next hb)
      have HBt : Hid (Below w.heap.size w wt) := HBz.out.trans (hb.mono HBz.out.size)
      clear hb X6z X7z HBz a0 a1 a2 a3
      obtain ⟨a0, a1, a2, a3⟩ := blkE_cells X7t.out.ba
      go_wp2_with fail
      refine (implExprOk _ _ _ _ _ _ _ wt X7t.out.ka (BD.out k m ⟨#[108, 101, 116]⟩ (by decide)) (HT.out.keep HBt.out)).mono ?_
      rw [exprOk_let]
      rintro e wv ⟨rfl, hb⟩
      have HBv : Hid (Below w.heap.size w wv) := HBt.out.trans (hb.mono HBt.out.size)
      clear hb X7t HBt a0 a1 a2 a3
      go_wp2_with fail
      go_ret
      exact ⟨rfl, HBv.out⟩
    · obtain ⟨q1, q2, q3, q4⟩ := PP.out
      rw [hks] at q4
      obtain rfl : l = 1 := by simpa using q4
      clear q1 q2 q3 q4
      have HK2 : Hid (Kids wc (Low wc) dd A [x]) := by have := HKK.out; rw [hks] at this; exact this
      obtain ⟨b', o', k1, n1, g1, A1, l1, c1, rfl, hbb, hev1, e0, e1, e2, e3⟩ := kid1 HK2.out
      have E0 : Hid (EVs wc [[.int .i64 k1, .int .i64 n1, .string g1, .slice A1 l1 c1]] t.kids) := by unfold Hid; rw [hks]; exact (EVs.nil _).cons rfl hev1
      have RK0 := Lib.hid (row4 hbb e0 e1 e2 e3)
      clear hbb hev1 e0 e1 e2 e3 HK2
      obtain ⟨a0, a1, a2, a3⟩ := blkE_cells Sc.out.ba
      have BA := Lib.hid (Blk.alloc_ wc 25 [.int .i64 k, .int .i64 m, .string s, .slice (some ⟨b', o', none⟩) 1 cc])
      have hal : Below wc.heap.size wc (wc.alloc (.cells #[.int .i64 k, .int .i64 m, .string s, .slice (some ⟨b', o', none⟩) 1 cc] 25)) := (Below.refl _ _).alloc (Nat.le_refl _) _
      have S3 := Lib.hid (Sc.out.next hal)
      have HB3 : Hid (Below w.heap.size w (wc.alloc (.cells #[.int .i64 k, .int .i64 m, .string s, .slice (some ⟨b', o', none⟩) 1 cc] 25))) := HBc.out.trans (hal.mono HBc.out.size)
      have HA3 := Lib.hid hal
      clear hal
      go_upto_region 7 with (fail)
      change Hid (Blk (wc.alloc (.cells #[.int .i64 k, .int .i64 m, .string s, .slice (some ⟨b', o', none⟩) 1 cc] 25)) wc.heap.size 25 [.int .i64 k, .int .i64 m, .string s, .slice (some ⟨b', o', none⟩) 1 cc]) at BA
      generalize wc.alloc (.cells #[.int .i64 k, .int .i64 m, .string s, .slice (some ⟨b', o', none⟩) 1 cc] 25) = w4 at *
      generalize hxa : wc.heap.size = xa at *
      clear a0 a1 a2 a3
      obtain ⟨a0, a1, a2, a3⟩ := blkE_cells S3.out.ba
      have hmk := World.ownsRow_made (base := w4.heap.size) (e := 25) (size := 4) w4 #[] 0 (Nat.le_refl _) (by unfold maxLen; omega) rfl
      have HMK := Lib.hid hmk
      clear hmk
      replace a3 := cell_next (W' := w4.alloc (.cells #[] 25)) a3 ((Below.refl _ _).alloc (Nat.le_refl _) _)
      have RK := Lib.hid ((RK0.out.below HA3.out).below ((Below.refl xa w4).alloc (Nat.le_of_lt BA.out.lt) (.cells #[] 25)))
      clear RK0
      go_wp2_with (at_builtin; refine wpList_append_own _ rfl _ _ 23 rfl w4.heap.size 25 i0 (.agg #[.int .i64 0, .int .i64 0, .string ByteArray.empty, .slice none 0 0]) 4 56 Tryd.underlying23 hi hz0 hz1 hz2 rfl (by decide) _ _ _ rfl HMK.out ⟨b', o', none⟩ 1 cc [.int .i64 k1, .int .i64 n1, .string g1, .slice A1 l1 c1] rfl rfl (row_add2 RK.out) ?k2 ?k3 ?k4 ?k5 ?_)
      case k2 => intro u hu; simp at hu; rcases hu with rfl | rfl | rfl | rfl <;> rfl
      case k3 => unfold maxLen; omega
      case k4 => omega
      case k5 => simp
      intro v5 w5 hown5 hgrow5 _
      have B5 : Below w4.heap.size w4 w5 := ((Below.refl _ _).alloc (Nat.le_refl _) _).grown hgrow5 (by simp) (fun k hk => by have := (HMK.out.lt k (by first | exact hk | simpa using hk)).1; omega)
      try simp only [Nat.zero_add, List.nil_append] at hown5
      have HO5 := Lib.hid hown5
      have HB5 := Lib.hid B5
      have hs5 := B5.size
      have HL4 := Lib.hid (Blk.alloc_ w5 25 [.int .i64 1, .int .i64 0, .string ⟨#[]⟩, .slice none 0 0])
      clear hown5 hgrow5 HMK a0 a1 a2 a3 B5
      go_wp2_with (at_builtin; refine wpList_append_own _ rfl _ _ 23 rfl w4.heap.size 25 i0 (.agg #[.int .i64 0, .int .i64 0, .string ByteArray.empty, .slice none 0 0]) 4 56 Tryd.underlying23 hi hz0 hz1 hz2 rfl (by decide) _ _ _ rfl (HO5.out.alloc _) ⟨w5.heap.size, 0, none⟩ 1 1 [.int .i64 1, .int .i64 0, .string ⟨#[]⟩, .slice none 0 0] rfl rfl ?c1 ?c2 ?c3 ?c4 ?c5 ?_)
      case c1 => exact row_add2 HL4.out.row
      case c2 => intro u hu; simp at hu; rcases hu with rfl | rfl | rfl | rfl <;> rfl
      case c3 => unfold maxLen; omega
      case c4 => omega
      case c5 => simp; omega
      intro v6 w6 hown6 hgrow6 _
      have B6 : Below w4.heap.size w4 w6 := (HB5.out.alloc hs5 _).grown hgrow6 (by simp; omega) (fun k hk => (HO5.out.lt k (by first | exact hk | simpa using hk)).1)
      have hxl : xa < w4.heap.size := BA.out.lt
      have OW7 : (w6.setCell ⟨xa, 3, none⟩ v6).ownsRow w4.heap.size 25 4 v6 2 ([[.int .i64 k1, .int .i64 n1, .string g1, .slice A1 l1 c1]].flatten ++ [.int .i64 1, .int .i64 0, .string ⟨#[]⟩, .slice none 0 0]) := own_keep (by simpa using hown6) ((Keep.refl xa w6).set 3 v6) (by omega)
      obtain ⟨A6, c6, rfl, hc6, hm6, hr6⟩ := own_row2 OW7
      have BA6 := BA.out.below B6 BA.out.lt
      have BA7 := Lib.hid (BA6.put 3 (.slice A6 2 c6))
      have b0 := BA6.cell 3
      have y0 := BA6.frozen 3
      simp only [List.getElem?_cons_zero, List.getElem?_cons_succ] at b0
      have hB7 : Below wc.heap.size wc (w6.setCell ⟨xa, 3, none⟩ (.slice A6 2 c6)) := by
        rw [hxa]
        exact (HA3.out.trans (B6.mono (by omega))).setCell (Nat.le_refl _) _
      have S7 := Lib.hid (Sc.out.next hB7)
      have HB7 : Hid (Below w.heap.size w (w6.setCell ⟨xa, 3, none⟩ (.slice A6 2 c6))) := HBc.out.trans (hB7.mono HBc.out.size)
      have hE7 := EVs.snoc (E0.out.below hB7) (ds := [.int .i64 1, .int .i64 0, .string ⟨#[]⟩, .slice none 0 0]) rfl (isEN_leaf 0 _ 1 0 ⟨#[]⟩ (by unfold maxLen; decide)).ev
      have hk7 : t.kids.length = 1 := by rw [hks]; rfl
      have XA7 : Hid (CopS xa k m s A6 2 c6 (.mk k m s.data.toList (t.kids ++ [.mk 1 0 [] []])) (w6.setCell ⟨xa, 3, none⟩ (.slice A6 2 c6))) := ⟨BA7.out, isEV_made hE7 (by simpa using hr6) (by simp [hk7]) hc6 hm6 k m s (by have := PP.out.2.2.1; rw [this, mkB_size]; have := wgt_eq t; have := HWS.out; unfold maxLen; omega)⟩
      clear OW7 hc6 hm6 hr6 BA6 BA7 hB7 hE7 B6 hown6 hgrow6 HL4 HO5 HB5 hs5 BA HA3 HB3 S3 E0 Sc HBc
      go_upto_region 8 with (fail)
      generalize w6.setCell ⟨xa, 3, none⟩ (.slice A6 2 c6) = w7 at *
      clear b0 y0
      have ht := PP.out
      have htx : s.data.toList = t.txt := by rw [ht.2.2.1, mkB_data]
      have hsl : s.size ≤ 500 := by rw [ht.2.2.1, mkB_size]; have := wgt_eq t; have := HWS.out; omega
      have OKA : Hid (exprOk (.mk k m s.data.toList (t.kids ++ [.mk 1 0 [] []])) = false) := by unfold Hid; rw [htx, ht.1, ht.2.1]; exact exprOk_more OK.out _
      have WA : Hid (wgt (.mk k m s.data.toList (t.kids ++ [.mk 1 0 [] []])) ≤ 1048576) := by
        have := wgt_eq t; have := HWS.out
        unfold Hid; rw [htx]; simp only [wgt, wgts_app, wgts, List.length_nil]; omega
      have hbend : ∀ (k' n' : Int) (s' : ByteArray), s'.size ≤ 500 → wgt (.mk k' n' s'.data.toList t.kids) ≤ 1048576 := by
        intro k' n' s' h
        have h1 := wgt_bend t k' n' s'.data.toList
        have h2 := HWS.out
        have h3 : s'.data.toList.length = s'.size := Array.length_toList
        omega
      have BD := Lib.hid hbend
      have HSZ := Lib.hid hsl
      clear ht htx hsl hbend
      obtain ⟨a0, a1, a2, a3⟩ := blkE_cells S7.out.ba
      go_upto_region 10 with (fail)
      have hal : Below w7.heap.size w7 (w7.alloc (.cells #[.int .i64 5, .int .i64 m, .string s, .slice (some ⟨b', o', none⟩) 1 cc] 25)) := (Below.refl _ _).alloc (Nat.le_refl _) _
      have S8 := Lib.hid (S7.out.next hal)
      have XA8 := Lib.hid (XA7.out.next hal)
      have X58 : Hid (CopS w7.heap.size 5 m s (some ⟨b', o', none⟩) 1 cc (.mk 5 m s.data.toList t.kids) (w7.alloc (.cells #[.int .i64 5, .int .i64 m, .string s, .slice (some ⟨b', o', none⟩) 1 cc] 25))) := ⟨Blk.alloc_ w7 25 [.int .i64 5, .int .i64 m, .string s, .slice (some ⟨b', o', none⟩) 1 cc], (S7.out.ka.below hal).bend 5 m s (by have := HSZ.out; unfold maxLen; omega)⟩
      have HB8 : Hid (Below w.heap.size w (w7.alloc (.cells #[.int .i64 5, .int .i64 m, .string s, .slice (some ⟨b', o', none⟩) 1 cc] 25))) := HB7.out.trans (hal.mono HB7.out.size)
      clear hal S7 XA7 HB7 a0 a1 a2 a3
      generalize w7.alloc (.cells #[.int .i64 5, .int .i64 m, .string s, .slice (some ⟨b', o', none⟩) 1 cc] 25) = w8 at *
      generalize w7.heap.size = x5 at *
      obtain ⟨a0, a1, a2, a3⟩ := blkE_cells S8.out.ba
      go_upto_region 12 with (fail)
      have hal : Below w8.heap.size w8 (w8.alloc (.cells #[.int .i64 k, .int .i64 (-1), .string s, .slice (some ⟨b', o', none⟩) 1 cc] 25)) := (Below.refl _ _).alloc (Nat.le_refl _) _
      have S9 := Lib.hid (S8.out.next hal)
      have XA9 := Lib.hid (XA8.out.next hal)
      have X59 := Lib.hid (X58.out.next hal)
      have X69 : Hid (CopS w8.heap.size k (-1) s (some ⟨b', o', none⟩) 1 cc (.mk k (-1) s.data.toList t.kids) (w8.alloc (.cells #[.int .i64 k, .int .i64 (-1), .string s, .slice (some ⟨b', o', none⟩) 1 cc] 25))) := ⟨Blk.alloc_ w8 25 [.int .i64 k, .int .i64 (-1), .string s, .slice (some ⟨b', o', none⟩) 1 cc], (S8.out.ka.below hal).bend k (-1) s (by have := HSZ.out; unfold maxLen; omega)⟩
      have HB9 : Hid (Below w.heap.size w (w8.alloc (.cells #[.int .i64 k, .int .i64 (-1), .string s, .slice (some ⟨b', o', none⟩) 1 cc] 25))) := HB8.out.trans (hal.mono HB8.out.size)
      clear hal S8 XA8 X58 HB8 a0 a1 a2 a3
      generalize w8.alloc (.cells #[.int .i64 k, .int .i64 (-1), .string s, .slice (some ⟨b', o', none⟩) 1 cc] 25) = w9 at *
      generalize w8.heap.size = x6 at *
      obtain ⟨a0, a1, a2, a3⟩ := blkE_cells S9.out.ba
      go_upto_region 14 with (fail)
      have hal : Below w9.heap.size w9 (w9.alloc (.cells #[.int .i64 k, .int .i64 m, .string ⟨#[108, 101, 116]⟩, .slice (some ⟨b', o', none⟩) 1 cc] 25)) := (Below.refl _ _).alloc (Nat.le_refl _) _
      have XAx := Lib.hid (XA9.out.next hal)
      have X5x := Lib.hid (X59.out.next hal)
      have X6x := Lib.hid (X69.out.next hal)
      have X7x : Hid (CopS w9.heap.size k m ⟨#[108, 101, 116]⟩ (some ⟨b', o', none⟩) 1 cc (.mk k m [108, 101, 116] t.kids) (w9.alloc (.cells #[.int .i64 k, .int .i64 m, .string ⟨#[108, 101, 116]⟩, .slice (some ⟨b', o', none⟩) 1 cc] 25))) := ⟨Blk.alloc_ w9 25 [.int .i64 k, .int .i64 m, .string ⟨#[108, 101, 116]⟩, .slice (some ⟨b', o', none⟩) 1 cc], (S9.out.ka.below hal).bend k m ⟨#[108, 101, 116]⟩ (by unfold maxLen; decide)⟩
      have HBx : Hid (Below w.heap.size w (w9.alloc (.cells #[.int .i64 k, .int .i64 m, .string ⟨#[108, 101, 116]⟩, .slice (some ⟨b', o', none⟩) 1 cc] 25))) := HB9.out.trans (hal.mono HB9.out.size)
      clear hal S9 XA9 X59 X69 HB9 a0 a1 a2 a3
      generalize w9.alloc (.cells #[.int .i64 k, .int .i64 m, .string ⟨#[108, 101, 116]⟩, .slice (some ⟨b', o', none⟩) 1 cc] 25) = wx at *
      generalize w9.heap.size = x7 at *
      obtain ⟨a0, a1, a2, a3⟩ := blkE_cells XAx.out.ba
      go_wp2_with fail
      refine (implExprOk _ _ _ _ _ _ _ wx XAx.out.ka WA.out (HT.out.keep HBx.out)).mono ?_
      rw [OKA.out]
      rintro e wy ⟨rfl, hb⟩
      have X5y := Lib.hid (X5x.out.next hb)
      have X6y := Lib.hid (X6x.out.next hb)
      have X7y := Lib.hid (X7x.out.next hb)
      have HBy : Hid (Below w.heap.size w wy) := HBx.out.trans (hb.mono HBx.out.size)
      clear hb XAx X5x X6x X7x HBx a0 a1 a2 a3
      obtain ⟨a0, a1, a2, a3⟩ := blkE_cells X5y.out.ba
      go_wp2_with fail
      refine (implExprOk _ _ _ _ _ _ _ wy X5y.out.ka (BD.out _ _ _ HSZ.out) (HT.out.keep HBy.out)).mono ?_
      rw [exprOk_five]
      rintro e wz ⟨rfl, hb⟩
      have X6z := Lib.hid (X6y.out.next hb)
      have X7z := Lib.hid (X7y.out.next hb)
      have HBz : Hid (Below w.heap.size w wz) := HBy.out.trans (hb.mono HBy.out.size)
      clear hb X5y X6y X7y HBy a0 a1 a2 a3
      obtain ⟨a0, a1, a2, a3⟩ := blkE_cells X6z.out.ba
      go_wp2_with fail
      refine (implExprOk _ _ _ _ _ _ _ wz X6z.out.ka (BD.out _ _ _ HSZ.out) (HT.out.keep HBz.out)).mono ?_
      rw [exprOk_neg]
      rintro e wt ⟨rfl, hb⟩
      have X7t := Lib.hid (X7z.out.next hb)
      have HBt : Hid (Below w.heap.size w wt) := HBz.out.trans (hb.mono HBz.out.size)
      clear hb X6z X7z HBz a0 a1 a2 a3
      obtain ⟨a0, a1, a2, a3⟩ := blkE_cells X7t.out.ba
      go_wp2_with fail
      refine (implExprOk _ _ _ _ _ _ _ wt X7t.out.ka (BD.out k m ⟨#[108, 101, 116]⟩ (by decide)) (HT.out.keep HBt.out)).mono ?_
      rw [exprOk_let]
      rintro e wv ⟨rfl, hb⟩
      have HBv : Hid (Below w.heap.size w wv) := HBt.out.trans (hb.mono HBt.out.size)
      clear hb X7t HBt a0 a1 a2 a3
      go_wp2_with fail
      go_ret
      exact ⟨rfl, HBv.out⟩
end Go.Proofs.YtfjmjlpobbjjdaaDoor
