/- EB: the texts EvT EvI EvC EvD in one. -/
import Derived.Test.YtfjmjlpobbjjdaaDoorEA
import Derived.Test.YtfjmjlpobbjjdaaDoorEOkL

namespace Go.Proofs.YtfjmjlpobbjjdaaDoor
open Go.RowKit Ilp
set_option linter.unusedVariables false
set_option linter.unusedSimpArgs false

/-- Names, and what goes with each. -/
structure Env (W : World) (An : Option Addr) (nn : Nat) (ns : List ByteArray) (At : Option Addr) (vs : List Value) : Prop where
  rn : Row W W.heap.size An (strB ns)
  rt : Row W W.heap.size At vs
  ln : ns.length = nn
  lt : vs.length = nn
  hn : (nn : Int) ≤ 1048576
theorem Env.below {W W' : World} {An : Option Addr} {nn : Nat} {ns : List ByteArray} {At : Option Addr} {vs : List Value} (h : Env W An nn ns At vs) (hb : Below W.heap.size W W') : Env W' An nn ns At vs :=
  ⟨(h.rn.below hb).more hb.size, (h.rt.below hb).more hb.size, h.ln, h.lt, h.hn⟩
theorem kid2 {W : World} {d : Nat} {A : Option Addr} {x y : Ex} (h : Kids W (Low W) d A [x, y]) : ∃ (b o : Nat) (k n : Int) (g : ByteArray) (A' : Option Addr) (l c : Nat) (k2 n2 : Int) (g2 : ByteArray) (A2 : Option Addr) (l2 c2 : Nat), A = some ⟨b, o, none⟩ ∧ b < W.heap.size ∧ IsEV W [.int .i64 k, .int .i64 n, .string g, .slice A' l c] x ∧ IsEV W [.int .i64 k2, .int .i64 n2, .string g2, .slice A2 l2 c2] y ∧
    W.cell? ⟨b, o, none⟩ = some (.int .i64 k) ∧ W.cell? ⟨b, o + 1, none⟩ = some (.int .i64 n) ∧ W.cell? ⟨b, o + 2, none⟩ = some (.string g) ∧ W.cell? ⟨b, o + 3, none⟩ = some (.slice A' l c) ∧
    W.cell? ⟨b, o + 4, none⟩ = some (.int .i64 k2) ∧ W.cell? ⟨b, o + 4 + 1, none⟩ = some (.int .i64 n2) ∧ W.cell? ⟨b, o + 4 + 2, none⟩ = some (.string g2) ∧ W.cell? ⟨b, o + 4 + 3, none⟩ = some (.slice A2 l2 c2) := by
  obtain ⟨b, o, k, n, g, A', l, c, rfl, hb, hev, e0, e1, e2, e3⟩ := IsEV.kid h (i := 0) (by simp)
  obtain ⟨b2, o2, k2, n2, g2, A2, l2, c2, e, hb2, hev2, f0, f1, f2, f3⟩ := IsEV.kid h (i := 1) (by simp)
  simp only [Option.some.injEq, Addr.mk.injEq, and_true] at e
  obtain ⟨rfl, rfl⟩ := e
  simp only [Nat.zero_mul, Nat.add_zero, Nat.one_mul] at e0 e1 e2 e3 f0 f1 f2 f3
  exact ⟨b, o, k, n, g, A', l, c, k2, n2, g2, A2, l2, c2, rfl, hb, hev, hev2, e0, e1, e2, e3, f0, f1, f2, f3⟩
theorem kid1 {W : World} {d : Nat} {A : Option Addr} {x : Ex} (h : Kids W (Low W) d A [x]) : ∃ (b o : Nat) (k n : Int) (g : ByteArray) (A' : Option Addr) (l c : Nat), A = some ⟨b, o, none⟩ ∧ b < W.heap.size ∧ IsEV W [.int .i64 k, .int .i64 n, .string g, .slice A' l c] x ∧
    W.cell? ⟨b, o, none⟩ = some (.int .i64 k) ∧ W.cell? ⟨b, o + 1, none⟩ = some (.int .i64 n) ∧ W.cell? ⟨b, o + 2, none⟩ = some (.string g) ∧ W.cell? ⟨b, o + 3, none⟩ = some (.slice A' l c) := by
  obtain ⟨b, o, k, n, g, A', l, c, rfl, hb, hev, e0, e1, e2, e3⟩ := IsEV.kid h (i := 0) (by simp)
  simp only [Nat.zero_mul, Nat.add_zero] at e0 e1 e2 e3
  exact ⟨b, o, k, n, g, A', l, c, rfl, hb, hev, e0, e1, e2, e3⟩
theorem mkB_is (R : List UInt8) (s : List UInt8) : ((mkB R).toList == s) = decide (R = s) := by
  rw [ByteArray.toList_eq, mkB_data, Bool.eq_iff_iff, beq_iff_eq, decide_eq_true_eq]

/-- One of two parts, in its box; names, and what goes with each. -/
structure TwoS (W0 : World) (X : Nat) (k n : Int) (g : ByteArray) (b o c : Nat) (k1 n1 : Int) (g1 : ByteArray) (A1 : Option Addr) (l1 c1 : Nat) (k2 n2 : Int) (g2 : ByteArray) (A2 : Option Addr) (l2 c2 : Nat) (x y : Ex) (An : Option Addr) (nn : Nat) (ns : List ByteArray) (At : Option Addr) (vs : List Value) (W : World) : Prop where
  ba : Blk W X 25 [.int .i64 k, .int .i64 n, .string g, .slice (some ⟨b, o, none⟩) 2 c]
  cs : (W.cell? ⟨b, o, none⟩ = some (.int .i64 k1) ∧ W.cell? ⟨b, o + 1, none⟩ = some (.int .i64 n1) ∧ W.cell? ⟨b, o + 2, none⟩ = some (.string g1) ∧ W.cell? ⟨b, o + 3, none⟩ = some (.slice A1 l1 c1)) ∧
    (W.cell? ⟨b, o + 4, none⟩ = some (.int .i64 k2) ∧ W.cell? ⟨b, o + 4 + 1, none⟩ = some (.int .i64 n2) ∧ W.cell? ⟨b, o + 4 + 2, none⟩ = some (.string g2) ∧ W.cell? ⟨b, o + 4 + 3, none⟩ = some (.slice A2 l2 c2))
  v1 : IsEV W [.int .i64 k1, .int .i64 n1, .string g1, .slice A1 l1 c1] x
  v2 : IsEV W [.int .i64 k2, .int .i64 n2, .string g2, .slice A2 l2 c2] y
  en : Env W An nn ns At vs
  be : Below W0.heap.size W0 W
section
variable {W0 : World} {X : Nat} {k n : Int} {g : ByteArray} {b o c : Nat} {k1 n1 : Int} {g1 : ByteArray} {A1 : Option Addr} {l1 c1 : Nat} {k2 n2 : Int} {g2 : ByteArray} {A2 : Option Addr} {l2 c2 : Nat} {x y : Ex} {An : Option Addr} {nn : Nat} {ns : List ByteArray} {At : Option Addr} {vs : List Value} {W W' : World}
theorem cell_next {p : Addr} {v : Value} (h : W.cell? p = some v) (hb : Below W.heap.size W W') : W'.cell? p = some v := (hb.cell (cell_lt h)).trans h
theorem TwoS.next (h : TwoS W0 X k n g b o c k1 n1 g1 A1 l1 c1 k2 n2 g2 A2 l2 c2 x y An nn ns At vs W) (hb : Below W.heap.size W W') : TwoS W0 X k n g b o c k1 n1 g1 A1 l1 c1 k2 n2 g2 A2 l2 c2 x y An nn ns At vs W' := by
  obtain ⟨ba, ⟨⟨a0, a1, a2, a3⟩, d0, d1, d2, d3⟩, v1, v2, en, be⟩ := h
  exact ⟨ba.below hb ba.lt, ⟨⟨cell_next a0 hb, cell_next a1 hb, cell_next a2 hb, cell_next a3 hb⟩, cell_next d0 hb, cell_next d1 hb, cell_next d2 hb, cell_next d3 hb⟩, v1.below hb, v2.below hb, en.below hb, be.trans (hb.mono be.size)⟩
theorem TwoS.box (h : TwoS W0 X k n g b o c k1 n1 g1 A1 l1 c1 k2 n2 g2 A2 l2 c2 x y An nn ns At vs W) : W.cell? ⟨X, 0, none⟩ = some (.int .i64 k) ∧ W.cell? ⟨X, 1, none⟩ = some (.int .i64 n) ∧ W.cell? ⟨X, 2, none⟩ = some (.string g) ∧ W.cell? ⟨X, 3, none⟩ = some (.slice (some ⟨b, o, none⟩) 2 c) := blkE_cells h.ba
end
/-- One of one part, in its box. -/
structure OneS (W0 : World) (X : Nat) (k n : Int) (g : ByteArray) (b o c : Nat) (k1 n1 : Int) (g1 : ByteArray) (A1 : Option Addr) (l1 c1 : Nat) (x : Ex) (An : Option Addr) (nn : Nat) (ns : List ByteArray) (At : Option Addr) (vs : List Value) (W : World) : Prop where
  ba : Blk W X 25 [.int .i64 k, .int .i64 n, .string g, .slice (some ⟨b, o, none⟩) 1 c]
  cs : W.cell? ⟨b, o, none⟩ = some (.int .i64 k1) ∧ W.cell? ⟨b, o + 1, none⟩ = some (.int .i64 n1) ∧ W.cell? ⟨b, o + 2, none⟩ = some (.string g1) ∧ W.cell? ⟨b, o + 3, none⟩ = some (.slice A1 l1 c1)
  v1 : IsEV W [.int .i64 k1, .int .i64 n1, .string g1, .slice A1 l1 c1] x
  en : Env W An nn ns At vs
  be : Below W0.heap.size W0 W
section
variable {W0 : World} {X : Nat} {k n : Int} {g : ByteArray} {b o c : Nat} {k1 n1 : Int} {g1 : ByteArray} {A1 : Option Addr} {l1 c1 : Nat} {x : Ex} {An : Option Addr} {nn : Nat} {ns : List ByteArray} {At : Option Addr} {vs : List Value} {W W' : World}
theorem OneS.next (h : OneS W0 X k n g b o c k1 n1 g1 A1 l1 c1 x An nn ns At vs W) (hb : Below W.heap.size W W') : OneS W0 X k n g b o c k1 n1 g1 A1 l1 c1 x An nn ns At vs W' := by
  obtain ⟨ba, ⟨a0, a1, a2, a3⟩, v1, en, be⟩ := h
  exact ⟨ba.below hb ba.lt, ⟨cell_next a0 hb, cell_next a1 hb, cell_next a2 hb, cell_next a3 hb⟩, v1.below hb, en.below hb, be.trans (hb.mono be.size)⟩
theorem OneS.box (h : OneS W0 X k n g b o c k1 n1 g1 A1 l1 c1 x An nn ns At vs W) : W.cell? ⟨X, 0, none⟩ = some (.int .i64 k) ∧ W.cell? ⟨X, 1, none⟩ = some (.int .i64 n) ∧ W.cell? ⟨X, 2, none⟩ = some (.string g) ∧ W.cell? ⟨X, 3, none⟩ = some (.slice (some ⟨b, o, none⟩) 1 c) := blkE_cells h.ba
end

def TypQ (d : Nat) : Prop := ∀ (k n : Int) (g : ByteArray) (A : Option Addr) (l c : Nat) (t : Ex) (u : Tm) (An : Option Addr) (nn cn : Nat) (ns : List ByteArray) (At : Option Addr) (ct : Nat) (ts : List ByteArray) (W : World),
  IsEV W [.int .i64 k, .int .i64 n, .string g, .slice A l c] t → ofEx d t = some u → Env W An nn ns At (strB ts) →
  Calls Tryd.prog 68 #[.agg #[.int .i64 k, .int .i64 n, .string g, .slice A l c], .slice An nn cn, .slice At nn ct] W fun e w' => e = .returned (.string (mkB (u.type (lstL ns) (lstL ts)))) ∧ Below W.heap.size W w'
set_option maxHeartbeats 4000000 in
set_option maxRecDepth 20000 in
theorem specTypeOf (d : Nat) : TypQ d := by
  induction d with
  | zero => intro k n g A l c t u An nn cn ns At ct ts W h hu hE; cases hu
  | succ d ih =>
    intro k n g A l c t u An nn cn ns At ct ts W h hu hE
    obtain ⟨q1, q2, q3, q4, h5, h6, h7, dd, hk⟩ := h.parts
    have IH := Lib.hid ih
    have hb0 : Below W.heap.size W (W.alloc (.cells #[.int .i64 k, .int .i64 n, .string g, .slice A l c] 25)) := by go_grown
    have HA := Lib.hid (Blk.alloc_ W 25 [.int .i64 k, .int .i64 n, .string g, .slice A l c])
    have HE := Lib.hid (hE.below hb0)
    have HK := Lib.hid (hk.below hb0)
    have HB0 := Lib.hid hb0
    have hnn : (nn : Int) ≤ 1048576 := hE.hn
    clear h hk hE hb0 ih h5 h6 h7
    rcases ofEx_cases hu with ⟨hk1, hs, hks, h0, h1, rfl⟩ | ⟨hk1, h0, hks, rfl⟩ | ⟨hk1, h0, x, y, o, v1, v2, hks, hx, hy, rfl, hs⟩ | ⟨hk1, h0, x, b, v, hks, hx, rfl, hs⟩
    · rw [hk1] at q1; subst q1
      have HR : Hid (mkB (Tm.type (lstL ns) (lstL ts) (.num t.num.toNat)) = mkB wInt) := by unfold Hid Tm.type; rfl
      clear q2 q3 q4 hu hk1 hs hks h0 h1
      go_enter Tryd.func68, Tryd.ntmps68
      go_wp2_with fail
      go_ret
      exact ⟨by rw [HR.out]; rfl, HB0.out⟩
    · rw [hk1] at q1; subst q1
      have hgd : g.data.toList = t.txt := by rw [q3, mkB_data]
      rcases lastI_cases ns g with ⟨hL, hl0⟩ | ⟨j, hj, hL, hl0⟩
      · have HR : Hid (mkB (Tm.type (lstL ns) (lstL ts) (.name t.txt)) = mkB []) := by unfold Hid Tm.type; rw [← hgd, hl0]
        have HF := Lib.hid (fun w hr => specFind An nn cn ns g w hr HE.out.ln (by omega))
        rw [hL] at HF
        clear q2 q3 q4 hu hk1 hks h0 hgd hL hl0
        go_enter Tryd.func68, Tryd.ntmps68
        go_wp2_with fail
        refine (HF.out _ HE.out.rn).mono ?_
        rintro e w1 ⟨rfl, rfl⟩
        go_wp2_with fail
        go_ret
        exact ⟨by rw [HR.out]; rfl, HB0.out⟩
      · have HLT := HE.out.lt
        have HLN := HE.out.ln
        have hjt : j < ts.length := by rw [strB_length] at HLT; omega
        obtain ⟨b, o, rfl, hbb, hc⟩ := HE.out.rt.at_ (i := j) (by rw [strB_length]; exact hjt)
        obtain ⟨x, ex⟩ : ∃ x, x = ts[j] := ⟨_, rfl⟩
        have hc1 : (W.alloc (.cells #[.int .i64 2, .int .i64 n, .string g, .slice A l c] 25)).cell? ⟨b, o + j, none⟩ = some (.string x) := by rw [hc, ex]; simp [strB]
        have HR : Hid (mkB (Tm.type (lstL ns) (lstL ts) (.name t.txt)) = x) := by
          unfold Hid Tm.type; rw [← hgd, hl0, ex]
          simp only [lstL, List.getD_eq_getElem?_getD, List.getElem?_map, List.getElem?_eq_getElem hjt, Option.map_some, Option.getD_some]
          exact data_mkB _
        have HF := Lib.hid (fun w hr => specFind An nn cn ns g w hr HE.out.ln (by omega))
        rw [hL] at HF
        have hj0 : (0 : Int) ≤ (j : Int) := by omega
        have hj1 : (j : Int) < (nn : Int) := by omega
        clear q2 q3 q4 hu hk1 hks h0 hgd hL hl0 HLT HLN hjt hc ex hj
        go_enter Tryd.func68, Tryd.ntmps68
        go_wp2_with fail
        refine (HF.out _ HE.out.rn).mono ?_
        rintro e w1 ⟨rfl, rfl⟩
        go_wp2_with fail
        go_ret
        exact ⟨by rw [HR.out]; rfl, HB0.out⟩
    · rw [hk1] at q1; subst q1
      have HL2 := hks ▸ q4
      have HK2 : Hid (Kids _ (Low _) dd A [x, y]) := hks ▸ HK
      have hgo : (g.toList == [60]) = decide (o = .lt) := by
        rw [q3, mkB_is, hs]; cases o <;> decide
      obtain rfl : l = 2 := by simpa using HL2
      obtain ⟨b, o', k1, n1, g1, A1, l1, c1, k2, n2, g2, A2, l2, c2, rfl, hbb, hev1, hev2, e0, e1, e2, e3, f0, f1, f2, f3⟩ := kid2 HK2.out
      have S0 : Hid (TwoS W W.heap.size 3 n g b o' c k1 n1 g1 A1 l1 c1 k2 n2 g2 A2 l2 c2 x y An nn ns At (strB ts) _) := ⟨HA.out, ⟨⟨e0, e1, e2, e3⟩, f0, f1, f2, f3⟩, hev1, hev2, HE.out, HB0.out⟩
      have C1 := Lib.hid (fun W h1 h2 => IH.out k1 n1 g1 A1 l1 c1 x v1 An nn cn ns At ct ts W h1 hx h2)
      have C2 := Lib.hid (fun W h1 h2 => IH.out k2 n2 g2 A2 l2 c2 y v2 An nn cn ns At ct ts W h1 hy h2)
      have s1 := mkB_is (v1.type (lstL ns) (lstL ts)) [105, 110, 116]
      have s2 := mkB_is (v2.type (lstL ns) (lstL ts)) [105, 110, 116]
      rw [show Tm.type (lstL ns) (lstL ts) (.two o v1 v2) = (if v1.type (lstL ns) (lstL ts) = wInt ∧ v2.type (lstL ns) (lstL ts) = wInt then (if o = .lt then wBool else wInt) else []) by rfl]
      clear IH HK HK2 HL2 hev1 hev2 hu h0 hks hx hy hs q2 q3 q4 hk1 HA HE HB0 hbb e0 e1 e2 e3 f0 f1 f2 f3
      generalize v1.type (lstL ns) (lstL ts) = T1 at *
      generalize v2.type (lstL ns) (lstL ts) = T2 at *
      generalize hgr : mkB T1 = R1 at *
      generalize hgr2 : mkB T2 = R2 at *
      have hr1 : (R1.toList == [105, 110, 116]) = decide (T1 = wInt) := s1
      have hr2 : (R2.toList == [105, 110, 116]) = decide (T2 = wInt) := s2
      clear s1 s2 hgr hgr2
      by_cases z1 : T1 = wInt
      · have q1 : (R1.toList == [105, 110, 116]) = true := by rw [hr1]; simp [z1]
        by_cases z2 : T2 = wInt
        · have q2 : (R2.toList == [105, 110, 116]) = true := by rw [hr2]; simp [z2]
          rw [if_pos ⟨z1, z2⟩]
          clear hr1 hr2 z1 z2
          by_cases ho : o = .lt
          · have hg1 : (g.toList == [60]) = true := by rw [hgo]; simp [ho]
            rw [if_pos ho]
            clear hgo ho
            go_enter Tryd.func68, Tryd.ntmps68
            go_upto_region 13 with (fail)
            generalize W.alloc (.cells #[.int .i64 3, .int .i64 n, .string g, .slice (some ⟨b, o', none⟩) 2 c] 25) = w0 at *
            have a3 := S0.out.box.2.2.2
            obtain ⟨e0, e1, e2, e3⟩ := S0.out.cs.1
            go_wp2_with fail
            refine (C1.out _ S0.out.v1 S0.out.en).mono ?_
            rintro e w1 ⟨rfl, hb1⟩
            have S1 := Lib.hid (S0.out.next hb1)
            clear hb1 a3 e0 e1 e2 e3
            have a3 := S1.out.box.2.2.2
            obtain ⟨e0, e1, e2, e3⟩ := S1.out.cs.2
            go_wp2_with fail
            refine (C2.out _ S1.out.v2 S1.out.en).mono ?_
            rintro e w2 ⟨rfl, hb2⟩
            have S2 := Lib.hid (S1.out.next hb2)
            clear hb2 a3 e0 e1 e2 e3
            have a2 := S2.out.box.2.2.1
            have HB2 := Lib.hid S2.out.be
            go_wp2_with fail
            go_ret
            exact ⟨rfl, HB2.out⟩
          · have hg1 : (g.toList == [60]) = false := by rw [hgo]; simp [ho]
            rw [if_neg ho]
            clear hgo ho
            go_enter Tryd.func68, Tryd.ntmps68
            go_upto_region 13 with (fail)
            generalize W.alloc (.cells #[.int .i64 3, .int .i64 n, .string g, .slice (some ⟨b, o', none⟩) 2 c] 25) = w0 at *
            have a3 := S0.out.box.2.2.2
            obtain ⟨e0, e1, e2, e3⟩ := S0.out.cs.1
            go_wp2_with fail
            refine (C1.out _ S0.out.v1 S0.out.en).mono ?_
            rintro e w1 ⟨rfl, hb1⟩
            have S1 := Lib.hid (S0.out.next hb1)
            clear hb1 a3 e0 e1 e2 e3
            have a3 := S1.out.box.2.2.2
            obtain ⟨e0, e1, e2, e3⟩ := S1.out.cs.2
            go_wp2_with fail
            refine (C2.out _ S1.out.v2 S1.out.en).mono ?_
            rintro e w2 ⟨rfl, hb2⟩
            have S2 := Lib.hid (S1.out.next hb2)
            clear hb2 a3 e0 e1 e2 e3
            have a2 := S2.out.box.2.2.1
            have HB2 := Lib.hid S2.out.be
            go_wp2_with fail
            go_ret
            exact ⟨rfl, HB2.out⟩
        · have q2 : (R2.toList == [105, 110, 116]) = false := by rw [hr2]; simp [z2]
          rw [if_neg (fun h => z2 h.2)]
          clear hr1 hr2 z1 z2 hgo
          go_enter Tryd.func68, Tryd.ntmps68
          go_upto_region 13 with (fail)
          generalize W.alloc (.cells #[.int .i64 3, .int .i64 n, .string g, .slice (some ⟨b, o', none⟩) 2 c] 25) = w0 at *
          have a3 := S0.out.box.2.2.2
          obtain ⟨e0, e1, e2, e3⟩ := S0.out.cs.1
          go_wp2_with fail
          refine (C1.out _ S0.out.v1 S0.out.en).mono ?_
          rintro e w1 ⟨rfl, hb1⟩
          have S1 := Lib.hid (S0.out.next hb1)
          clear hb1 a3 e0 e1 e2 e3
          have a3 := S1.out.box.2.2.2
          obtain ⟨e0, e1, e2, e3⟩ := S1.out.cs.2
          go_wp2_with fail
          refine (C2.out _ S1.out.v2 S1.out.en).mono ?_
          rintro e w2 ⟨rfl, hb2⟩
          have S2 := Lib.hid (S1.out.next hb2)
          clear hb2 a3 e0 e1 e2 e3
          have HB2 := Lib.hid S2.out.be
          go_wp2_with fail
          go_ret
          exact ⟨rfl, HB2.out⟩
      · have q1 : (R1.toList == [105, 110, 116]) = false := by rw [hr1]; simp [z1]
        rw [if_neg (fun h => z1 h.1)]
        clear hr1 hr2 z1 hgo
        go_enter Tryd.func68, Tryd.ntmps68
        go_upto_region 13 with (fail)
        generalize W.alloc (.cells #[.int .i64 3, .int .i64 n, .string g, .slice (some ⟨b, o', none⟩) 2 c] 25) = w0 at *
        have a3 := S0.out.box.2.2.2
        obtain ⟨e0, e1, e2, e3⟩ := S0.out.cs.1
        go_wp2_with fail
        refine (C1.out _ S0.out.v1 S0.out.en).mono ?_
        rintro e w1 ⟨rfl, hb1⟩
        have S1 := Lib.hid (S0.out.next hb1)
        clear hb1 a3 e0 e1 e2 e3
        have HB1 := Lib.hid S1.out.be
        go_wp2_with fail
        go_ret
        exact ⟨rfl, HB1.out⟩
    · rw [hk1] at q1; subst q1
      have HL2 := hks ▸ q4
      have HK2 : Hid (Kids _ (Low _) dd A [x]) := hks ▸ HK
      obtain rfl : l = 1 := by simpa using HL2
      obtain ⟨b', o', k1, n1, g1, A1, l1, c1, rfl, hbb, hev1, e0, e1, e2, e3⟩ := kid1 HK2.out
      have S0 : Hid (OneS W W.heap.size 4 n g b' o' c k1 n1 g1 A1 l1 c1 x An nn ns At (strB ts) _) := ⟨HA.out, ⟨e0, e1, e2, e3⟩, hev1, HE.out, HB0.out⟩
      have C1 := Lib.hid (fun W h1 h2 => IH.out k1 n1 g1 A1 l1 c1 x v An nn cn ns At ct ts W h1 hx h2)
      have hr1 := mkB_is (v.type (lstL ns) (lstL ts)) []
      have HG : Hid (mkB (tyText b) = g) := by unfold Hid; rw [q3, hs]
      rw [show Tm.type (lstL ns) (lstL ts) (.cast b v) = (if v.type (lstL ns) (lstL ts) = [] then [] else tyText b) by rfl]
      clear IH HK HK2 HL2 hev1 hu h0 hks hx hs q2 q3 q4 hk1 HA HE HB0 hbb e0 e1 e2 e3
      generalize v.type (lstL ns) (lstL ts) = T1 at *
      generalize hgr : mkB T1 = R1 at *
      clear hgr
      by_cases z1 : T1 = []
      · have q1 : (R1.toList == []) = true := by rw [hr1]; simp [z1]
        rw [if_pos z1]
        clear hr1 z1 HG
        go_enter Tryd.func68, Tryd.ntmps68
        go_upto_region 10 with (fail)
        generalize W.alloc (.cells #[.int .i64 4, .int .i64 n, .string g, .slice (some ⟨b', o', none⟩) 1 c] 25) = w0 at *
        have a3 := S0.out.box.2.2.2
        obtain ⟨e0, e1, e2, e3⟩ := S0.out.cs
        go_wp2_with fail
        refine (C1.out _ S0.out.v1 S0.out.en).mono ?_
        rintro e w1 ⟨rfl, hb1⟩
        have S1 := Lib.hid (S0.out.next hb1)
        have HB1 := Lib.hid S1.out.be
        clear hb1 a3 e0 e1 e2 e3
        go_wp2_with fail
        go_ret
        exact ⟨rfl, HB1.out⟩
      · have q1 : (R1.toList == []) = false := by rw [hr1]; simp [z1]
        rw [if_neg z1]
        clear hr1 z1
        go_enter Tryd.func68, Tryd.ntmps68
        go_upto_region 10 with (fail)
        generalize W.alloc (.cells #[.int .i64 4, .int .i64 n, .string g, .slice (some ⟨b', o', none⟩) 1 c] 25) = w0 at *
        have a3 := S0.out.box.2.2.2
        obtain ⟨e0, e1, e2, e3⟩ := S0.out.cs
        go_wp2_with fail
        refine (C1.out _ S0.out.v1 S0.out.en).mono ?_
        rintro e w1 ⟨rfl, hb1⟩
        have S1 := Lib.hid (S0.out.next hb1)
        have HB1 := Lib.hid S1.out.be
        have a2 := S1.out.box.2.2.1
        clear hb1 a3 e0 e1 e2 e3
        go_wp2_with fail
        go_ret
        exact ⟨by rw [HG.out]; rfl, HB1.out⟩
end Go.Proofs.YtfjmjlpobbjjdaaDoor

namespace Go.Proofs.YtfjmjlpobbjjdaaDoor
open Go.RowKit Ilp
set_option linter.unusedVariables false
set_option linter.unusedSimpArgs false

def TypI (d : Nat) : Prop := ∀ (k n : Int) (g : ByteArray) (A : Option Addr) (l c : Nat) (t : Ex) (u : Tm) (An : Option Addr) (nn cn : Nat) (ns : List ByteArray) (At : Option Addr) (ct : Nat) (ts : List ByteArray) (W : World),
  IsEV W [.int .i64 k, .int .i64 n, .string g, .slice A l c] t → ofEx d t = some u → Env W An nn ns At (strB ts) →
  Calls Tryd.prog 53 #[.agg #[.int .i64 k, .int .i64 n, .string g, .slice A l c], .slice An nn cn, .slice At nn ct] W fun e w' => e = .returned (.string (mkB (u.type (lstL ns) (lstL ts)))) ∧ Below W.heap.size W w'
set_option maxHeartbeats 4000000 in
set_option maxRecDepth 20000 in
theorem implTyped (d : Nat) : TypI d := by
  induction d with
  | zero => intro k n g A l c t u An nn cn ns At ct ts W h hu hE; cases hu
  | succ d ih =>
    intro k n g A l c t u An nn cn ns At ct ts W h hu hE
    obtain ⟨q1, q2, q3, q4, h5, h6, h7, dd, hk⟩ := h.parts
    have IH := Lib.hid ih
    have hb0 : Below W.heap.size W (W.alloc (.cells #[.int .i64 k, .int .i64 n, .string g, .slice A l c] 25)) := by go_grown
    have HA := Lib.hid (Blk.alloc_ W 25 [.int .i64 k, .int .i64 n, .string g, .slice A l c])
    have HE := Lib.hid (hE.below hb0)
    have HK := Lib.hid (hk.below hb0)
    have HB0 := Lib.hid hb0
    have hnn : (nn : Int) ≤ 1048576 := hE.hn
    clear h hk hE hb0 ih h5 h6 h7
    rcases ofEx_cases hu with ⟨hk1, hs, hks, h0, h1, rfl⟩ | ⟨hk1, h0, hks, rfl⟩ | ⟨hk1, h0, x, y, o, v1, v2, hks, hx, hy, rfl, hs⟩ | ⟨hk1, h0, x, b, v, hks, hx, rfl, hs⟩
    · rw [hk1] at q1; subst q1
      have HR : Hid (mkB (Tm.type (lstL ns) (lstL ts) (.num t.num.toNat)) = mkB wInt) := by unfold Hid Tm.type; rfl
      clear q2 q3 q4 hu hk1 hs hks h0 h1
      go_enter Tryd.func53, Tryd.ntmps53
      go_wp2_with fail
      go_ret
      exact ⟨by rw [HR.out]; rfl, HB0.out⟩
    · rw [hk1] at q1; subst q1
      have hgd : g.data.toList = t.txt := by rw [q3, mkB_data]
      rcases lastI_cases ns g with ⟨hL, hl0⟩ | ⟨j, hj, hL, hl0⟩
      · have HR : Hid (mkB (Tm.type (lstL ns) (lstL ts) (.name t.txt)) = mkB []) := by unfold Hid Tm.type; rw [← hgd, hl0]
        have HF := Lib.hid (fun w hr => implLast An nn cn ns g w hr HE.out.ln (by omega))
        rw [hL] at HF
        clear q2 q3 q4 hu hk1 hks h0 hgd hL hl0
        go_enter Tryd.func53, Tryd.ntmps53
        go_wp2_with fail
        refine (HF.out _ HE.out.rn).mono ?_
        rintro e w1 ⟨rfl, hb1⟩
        have HB1 : Hid (Below W.heap.size W w1) := HB0.out.trans (hb1.mono HB0.out.size)
        clear hb1
        go_wp2_with fail
        go_ret
        exact ⟨by rw [HR.out]; rfl, HB1.out⟩
      · have HLT := HE.out.lt
        have HLN := HE.out.ln
        have hjt : j < ts.length := by rw [strB_length] at HLT; omega
        obtain ⟨b, o, rfl, hbb, hc⟩ := HE.out.rt.at_ (i := j) (by rw [strB_length]; exact hjt)
        obtain ⟨x, ex⟩ : ∃ x, x = ts[j] := ⟨_, rfl⟩
        have hc1 : (W.alloc (.cells #[.int .i64 2, .int .i64 n, .string g, .slice A l c] 25)).cell? ⟨b, o + j, none⟩ = some (.string x) := by rw [hc, ex]; simp [strB]
        have HR : Hid (mkB (Tm.type (lstL ns) (lstL ts) (.name t.txt)) = x) := by
          unfold Hid Tm.type; rw [← hgd, hl0, ex]
          simp only [lstL, List.getD_eq_getElem?_getD, List.getElem?_map, List.getElem?_eq_getElem hjt, Option.map_some, Option.getD_some]
          exact data_mkB _
        have HF := Lib.hid (fun w hr => implLast An nn cn ns g w hr HE.out.ln (by omega))
        rw [hL] at HF
        have hj0 : (0 : Int) ≤ (j : Int) := by omega
        have hj1 : (j : Int) < (nn : Int) := by omega
        clear q2 q3 q4 hu hk1 hks h0 hgd hL hl0 HLT HLN hjt hc ex hj
        go_enter Tryd.func53, Tryd.ntmps53
        go_wp2_with fail
        refine (HF.out _ HE.out.rn).mono ?_
        rintro e w1 ⟨rfl, hb1⟩
        have HB1 : Hid (Below W.heap.size W w1) := HB0.out.trans (hb1.mono HB0.out.size)
        have hc2 := cell_next hc1 hb1
        clear hb1 hc1
        go_wp2_with fail
        go_ret
        exact ⟨by rw [HR.out]; rfl, HB1.out⟩
    · rw [hk1] at q1; subst q1
      have HL2 := hks ▸ q4
      have HK2 : Hid (Kids _ (Low _) dd A [x, y]) := hks ▸ HK
      have hgo : (g.toList == [60]) = decide (o = .lt) := by
        rw [q3, mkB_is, hs]; cases o <;> decide
      obtain rfl : l = 2 := by simpa using HL2
      obtain ⟨b, o', k1, n1, g1, A1, l1, c1, k2, n2, g2, A2, l2, c2, rfl, hbb, hev1, hev2, e0, e1, e2, e3, f0, f1, f2, f3⟩ := kid2 HK2.out
      have S0 : Hid (TwoS W W.heap.size 3 n g b o' c k1 n1 g1 A1 l1 c1 k2 n2 g2 A2 l2 c2 x y An nn ns At (strB ts) _) := ⟨HA.out, ⟨⟨e0, e1, e2, e3⟩, f0, f1, f2, f3⟩, hev1, hev2, HE.out, HB0.out⟩
      have C1 := Lib.hid (fun W h1 h2 => IH.out k1 n1 g1 A1 l1 c1 x v1 An nn cn ns At ct ts W h1 hx h2)
      have C2 := Lib.hid (fun W h1 h2 => IH.out k2 n2 g2 A2 l2 c2 y v2 An nn cn ns At ct ts W h1 hy h2)
      have s1 := mkB_is (v1.type (lstL ns) (lstL ts)) [105, 110, 116]
      have s2 := mkB_is (v2.type (lstL ns) (lstL ts)) [105, 110, 116]
      rw [show Tm.type (lstL ns) (lstL ts) (.two o v1 v2) = (if v1.type (lstL ns) (lstL ts) = wInt ∧ v2.type (lstL ns) (lstL ts) = wInt then (if o = .lt then wBool else wInt) else []) by rfl]
      clear IH HK HK2 HL2 hev1 hev2 hu h0 hks hx hy hs q2 q3 q4 hk1 HA HE HB0 hbb e0 e1 e2 e3 f0 f1 f2 f3
      generalize v1.type (lstL ns) (lstL ts) = T1 at *
      generalize v2.type (lstL ns) (lstL ts) = T2 at *
      generalize hgr : mkB T1 = R1 at *
      generalize hgr2 : mkB T2 = R2 at *
      have hr1 : (R1.toList == [105, 110, 116]) = decide (T1 = wInt) := s1
      have hr2 : (R2.toList == [105, 110, 116]) = decide (T2 = wInt) := s2
      clear s1 s2 hgr hgr2
      by_cases z1 : T1 = wInt
      · have q1 : (R1.toList == [105, 110, 116]) = true := by rw [hr1]; simp [z1]
        by_cases z2 : T2 = wInt
        · have q2 : (R2.toList == [105, 110, 116]) = true := by rw [hr2]; simp [z2]
          rw [if_pos ⟨z1, z2⟩]
          clear hr1 hr2 z1 z2
          by_cases ho : o = .lt
          · have hg1 : (g.toList == [60]) = true := by rw [hgo]; simp [ho]
            rw [if_pos ho]
            clear hgo ho
            go_enter Tryd.func53, Tryd.ntmps53
            go_upto_region 13 with (fail)
            generalize W.alloc (.cells #[.int .i64 3, .int .i64 n, .string g, .slice (some ⟨b, o', none⟩) 2 c] 25) = w0 at *
            have a3 := S0.out.box.2.2.2
            obtain ⟨e0, e1, e2, e3⟩ := S0.out.cs.1
            go_wp2_with fail
            refine (C1.out _ S0.out.v1 S0.out.en).mono ?_
            rintro e w1 ⟨rfl, hb1⟩
            have S1 := Lib.hid (S0.out.next hb1)
            clear hb1 a3 e0 e1 e2 e3
            have a3 := S1.out.box.2.2.2
            obtain ⟨e0, e1, e2, e3⟩ := S1.out.cs.2
            go_wp2_with fail
            refine (C2.out _ S1.out.v2 S1.out.en).mono ?_
            rintro e w2 ⟨rfl, hb2⟩
            have S2 := Lib.hid (S1.out.next hb2)
            clear hb2 a3 e0 e1 e2 e3
            have a2 := S2.out.box.2.2.1
            have HB2 := Lib.hid S2.out.be
            go_wp2_with fail
            go_ret
            exact ⟨rfl, HB2.out⟩
          · have hg1 : (g.toList == [60]) = false := by rw [hgo]; simp [ho]
            rw [if_neg ho]
            clear hgo ho
            go_enter Tryd.func53, Tryd.ntmps53
            go_upto_region 13 with (fail)
            generalize W.alloc (.cells #[.int .i64 3, .int .i64 n, .string g, .slice (some ⟨b, o', none⟩) 2 c] 25) = w0 at *
            have a3 := S0.out.box.2.2.2
            obtain ⟨e0, e1, e2, e3⟩ := S0.out.cs.1
            go_wp2_with fail
            refine (C1.out _ S0.out.v1 S0.out.en).mono ?_
            rintro e w1 ⟨rfl, hb1⟩
            have S1 := Lib.hid (S0.out.next hb1)
            clear hb1 a3 e0 e1 e2 e3
            have a3 := S1.out.box.2.2.2
            obtain ⟨e0, e1, e2, e3⟩ := S1.out.cs.2
            go_wp2_with fail
            refine (C2.out _ S1.out.v2 S1.out.en).mono ?_
            rintro e w2 ⟨rfl, hb2⟩
            have S2 := Lib.hid (S1.out.next hb2)
            clear hb2 a3 e0 e1 e2 e3
            have a2 := S2.out.box.2.2.1
            have HB2 := Lib.hid S2.out.be
            go_wp2_with fail
            go_ret
            exact ⟨rfl, HB2.out⟩
        · have q2 : (R2.toList == [105, 110, 116]) = false := by rw [hr2]; simp [z2]
          rw [if_neg (fun h => z2 h.2)]
          clear hr1 hr2 z1 z2 hgo
          go_enter Tryd.func53, Tryd.ntmps53
          go_upto_region 13 with (fail)
          generalize W.alloc (.cells #[.int .i64 3, .int .i64 n, .string g, .slice (some ⟨b, o', none⟩) 2 c] 25) = w0 at *
          have a3 := S0.out.box.2.2.2
          obtain ⟨e0, e1, e2, e3⟩ := S0.out.cs.1
          go_wp2_with fail
          refine (C1.out _ S0.out.v1 S0.out.en).mono ?_
          rintro e w1 ⟨rfl, hb1⟩
          have S1 := Lib.hid (S0.out.next hb1)
          clear hb1 a3 e0 e1 e2 e3
          have a3 := S1.out.box.2.2.2
          obtain ⟨e0, e1, e2, e3⟩ := S1.out.cs.2
          go_wp2_with fail
          refine (C2.out _ S1.out.v2 S1.out.en).mono ?_
          rintro e w2 ⟨rfl, hb2⟩
          have S2 := Lib.hid (S1.out.next hb2)
          clear hb2 a3 e0 e1 e2 e3
          have HB2 := Lib.hid S2.out.be
          go_wp2_with fail
          go_ret
          exact ⟨rfl, HB2.out⟩
      · have q1 : (R1.toList == [105, 110, 116]) = false := by rw [hr1]; simp [z1]
        rw [if_neg (fun h => z1 h.1)]
        clear hr1 hr2 z1 hgo
        go_enter Tryd.func53, Tryd.ntmps53
        go_upto_region 13 with (fail)
        generalize W.alloc (.cells #[.int .i64 3, .int .i64 n, .string g, .slice (some ⟨b, o', none⟩) 2 c] 25) = w0 at *
        have a3 := S0.out.box.2.2.2
        obtain ⟨e0, e1, e2, e3⟩ := S0.out.cs.1
        go_wp2_with fail
        refine (C1.out _ S0.out.v1 S0.out.en).mono ?_
        rintro e w1 ⟨rfl, hb1⟩
        have S1 := Lib.hid (S0.out.next hb1)
        clear hb1 a3 e0 e1 e2 e3
        have HB1 := Lib.hid S1.out.be
        go_wp2_with fail
        go_ret
        exact ⟨rfl, HB1.out⟩
    · rw [hk1] at q1; subst q1
      have HL2 := hks ▸ q4
      have HK2 : Hid (Kids _ (Low _) dd A [x]) := hks ▸ HK
      obtain rfl : l = 1 := by simpa using HL2
      obtain ⟨b', o', k1, n1, g1, A1, l1, c1, rfl, hbb, hev1, e0, e1, e2, e3⟩ := kid1 HK2.out
      have S0 : Hid (OneS W W.heap.size 4 n g b' o' c k1 n1 g1 A1 l1 c1 x An nn ns At (strB ts) _) := ⟨HA.out, ⟨e0, e1, e2, e3⟩, hev1, HE.out, HB0.out⟩
      have C1 := Lib.hid (fun W h1 h2 => IH.out k1 n1 g1 A1 l1 c1 x v An nn cn ns At ct ts W h1 hx h2)
      have hr1 := mkB_is (v.type (lstL ns) (lstL ts)) []
      have HG : Hid (mkB (tyText b) = g) := by unfold Hid; rw [q3, hs]
      rw [show Tm.type (lstL ns) (lstL ts) (.cast b v) = (if v.type (lstL ns) (lstL ts) = [] then [] else tyText b) by rfl]
      clear IH HK HK2 HL2 hev1 hu h0 hks hx hs q2 q3 q4 hk1 HA HE HB0 hbb e0 e1 e2 e3
      generalize v.type (lstL ns) (lstL ts) = T1 at *
      generalize hgr : mkB T1 = R1 at *
      clear hgr
      by_cases z1 : T1 = []
      · have q1 : (R1.toList == []) = true := by rw [hr1]; simp [z1]
        rw [if_pos z1]
        clear hr1 z1 HG
        go_enter Tryd.func53, Tryd.ntmps53
        go_upto_region 10 with (fail)
        generalize W.alloc (.cells #[.int .i64 4, .int .i64 n, .string g, .slice (some ⟨b', o', none⟩) 1 c] 25) = w0 at *
        have a3 := S0.out.box.2.2.2
        obtain ⟨e0, e1, e2, e3⟩ := S0.out.cs
        go_wp2_with fail
        refine (C1.out _ S0.out.v1 S0.out.en).mono ?_
        rintro e w1 ⟨rfl, hb1⟩
        have S1 := Lib.hid (S0.out.next hb1)
        have HB1 := Lib.hid S1.out.be
        clear hb1 a3 e0 e1 e2 e3
        go_wp2_with fail
        go_ret
        exact ⟨rfl, HB1.out⟩
      · have q1 : (R1.toList == []) = false := by rw [hr1]; simp [z1]
        rw [if_neg z1]
        clear hr1 z1
        go_enter Tryd.func53, Tryd.ntmps53
        go_upto_region 10 with (fail)
        generalize W.alloc (.cells #[.int .i64 4, .int .i64 n, .string g, .slice (some ⟨b', o', none⟩) 1 c] 25) = w0 at *
        have a3 := S0.out.box.2.2.2
        obtain ⟨e0, e1, e2, e3⟩ := S0.out.cs
        go_wp2_with fail
        refine (C1.out _ S0.out.v1 S0.out.en).mono ?_
        rintro e w1 ⟨rfl, hb1⟩
        have S1 := Lib.hid (S0.out.next hb1)
        have HB1 := Lib.hid S1.out.be
        have a2 := S1.out.box.2.2.1
        clear hb1 a3 e0 e1 e2 e3
        go_wp2_with fail
        go_ret
        exact ⟨by rw [HG.out]; rfl, HB1.out⟩
end Go.Proofs.YtfjmjlpobbjjdaaDoor

namespace Go.Proofs.YtfjmjlpobbjjdaaDoor
open Go.RowKit Ilp
set_option linter.unusedVariables false
set_option linter.unusedSimpArgs false

set_option maxRecDepth 20000 in
theorem cloType (s : ByteArray) (w : World) :
    Calls Tryd.prog 51 #[.string s] w fun e w' => e = .returned (.bool (!isType s.data.toList)) ∧ w = w' := by
  have HC := Lib.hid (implType s w)
  generalize isType s.data.toList = b at *
  go_enter Tryd.func51, Tryd.ntmps51
  go_wp2_with fail
  refine HC.out.mono ?_
  rintro e w1 ⟨rfl, rfl⟩
  go_wp2_with fail
  go_ret
  exact ⟨by simp, rfl⟩
def allTy (ts : List ByteArray) : Bool := (lstL ts).all isType
theorem allTy_drop {ts : List ByteArray} {j : Nat} (h : j < ts.length) : allTy (ts.drop j) = (isType ts[j].data.toList && allTy (ts.drop (j + 1))) := by
  unfold allTy lstL; rw [List.drop_eq_getElem_cons h, List.map_cons, List.all_cons]
set_option maxHeartbeats 1000000 in
set_option maxRecDepth 20000 in
theorem idxType (A : Option Addr) (n c : Nat) (ts : List ByteArray) (w : World) (hr : Row w w.heap.size A (strB ts)) (hl : Hid (ts.length = n)) (hn : (n : Int) ≤ 1048576) :
    Calls Tryd.prog 79 #[.slice A n c, .func (.func 51) #[] #[]] w fun e w' => ∃ r : Int, e = .returned (.int .i64 r) ∧ (!decide (0 ≤ r)) = allTy ts ∧ -1 ≤ r ∧ r ≤ 1048576 ∧ w = w' := by
  go_enter Tryd.func79, Tryd.ntmps79
  go_wp2_with fail
  go_loop [8] (fun v => ∃ j : Nat, v = .int .i64 (j : Int) ∧ j ≤ n ∧ Hid (allTy ts = allTy (ts.drop j))) (fun v => n - (intOf v).toNat)
  case atStart => exact ⟨0, rfl, Nat.zero_le _, rfl⟩
  case round =>
    obtain ⟨j, rfl, hj, he⟩ := hrel
    by_cases hlt : j < n
    · have hx : j < ts.length := by rw [hl.out]; exact hlt
      obtain ⟨b, o, rfl, hbb, hc⟩ := hr.at_ (i := j) (by rw [strB_length]; exact hx)
      have HD := Lib.hid (allTy_drop hx)
      obtain ⟨x, ex⟩ : ∃ x, x = ts[j] := ⟨_, rfl⟩
      have hc1 : w.cell? ⟨b, o + j, none⟩ = some (.string x) := by rw [hc, ex]; simp [strB]
      rw [← ex] at HD
      have HC := Lib.hid (cloType x w)
      have h0 : (0 : Int) ≤ (j : Int) := by omega
      have h1 : (j : Int) < (n : Int) := by omega
      clear hc ex hx
      generalize isType x.data.toList = bx at *
      cases bx with
      | true =>
        have HN : Hid (allTy ts = allTy (ts.drop (j + 1))) := by unfold Hid; rw [he.out, HD.out]; rfl
        go_wp2_with fail
        refine HC.out.mono ?_
        rintro e w1 ⟨rfl, rfl⟩
        go_wp2_with fail
        go_round
        case rel => exact ⟨j + 1, by go_num, by omega, HN⟩
        case measure => simp [intOf]; omega
      | false =>
        have HN : Hid (allTy ts = false) := by unfold Hid; rw [he.out, HD.out]; rfl
        go_wp2_with fail
        refine HC.out.mono ?_
        rintro e w1 ⟨rfl, rfl⟩
        go_wp2_with fail
        go_ret
        exact ⟨_, rfl, by rw [HN.out]; simp, by omega, by omega, rfl⟩
    · obtain rfl : j = n := by omega
      have HN : Hid (allTy ts = true) := by unfold Hid; rw [he.out, List.drop_eq_nil_of_le (by have := hl.out; omega)]; rfl
      go_wp2_with fail
      go_ret
      exact ⟨_, rfl, by rw [HN.out]; rfl, by omega, by omega, rfl⟩
set_option maxRecDepth 20000 in
theorem conType (A : Option Addr) (n c : Nat) (ts : List ByteArray) (w : World) (hr : Row w w.heap.size A (strB ts)) (hl : Hid (ts.length = n)) (hn : (n : Int) ≤ 1048576) :
    Calls Tryd.prog 50 #[.slice A n c, .func (.func 51) #[] #[]] w fun e w' => e = .returned (.bool (!allTy ts)) ∧ w = w' := by
  have HC := Lib.hid (idxType A n c ts w hr hl hn)
  clear hr
  go_enter Tryd.func50, Tryd.ntmps50
  go_wp2_with fail
  refine HC.out.mono ?_
  rintro e w1 ⟨r, rfl, hr1, hr2, hr3, rfl⟩
  have HR : Hid (decide (0 ≤ r) = !allTy ts) := by unfold Hid; rw [← hr1]; simp
  clear hr1
  go_wp2_with fail
  go_ret
  exact ⟨by rw [← HR.out]; rfl, rfl⟩

theorem tyE_none {ns ts : List ByteArray} {t : Ex} (h : exprOk t = false) : tyE (lstL ns) (lstL ts) t = [] := by unfold tyE; rw [exOk_none h]
theorem tyE_len {ns ts : List ByteArray} {t : Ex} (h : ns.length ≠ ts.length) : tyE (lstL ns) (lstL ts) t = [] := by
  unfold tyE
  split
  · rw [if_neg]; rw [lstL_length, lstL_length]; exact fun e => h e.1
  · rfl
theorem tyE_bad {ns ts : List ByteArray} {t : Ex} (h : allTy ts = false) : tyE (lstL ns) (lstL ts) t = [] := by
  unfold tyE
  split
  · rw [if_neg]; unfold allTy at h; rw [h]; simp
  · rfl
theorem tyE_some {ns ts : List ByteArray} {t : Ex} {u : Tm} (hu : exTm t = some u) (hl : ns.length = ts.length) (h : allTy ts = true) : tyE (lstL ns) (lstL ts) t = u.type (lstL ns) (lstL ts) := by
  unfold tyE
  rw [hu]; simp only
  rw [if_pos]; rw [lstL_length, lstL_length]; exact ⟨hl, h⟩
/-- Its box; names, and what goes with each. -/
structure BoxS (W0 : World) (k n : Int) (g : ByteArray) (A : Option Addr) (l c : Nat) (t : Ex) (An : Option Addr) (ns : List ByteArray) (At : Option Addr) (vs : List Value) (W : World) : Prop where
  ba : Blk W W0.heap.size 25 [.int .i64 k, .int .i64 n, .string g, .slice A l c]
  ka : IsEV W [.int .i64 k, .int .i64 n, .string g, .slice A l c] t
  rn : Row W W.heap.size An (strB ns)
  rt : Row W W.heap.size At vs
  be : Below W0.heap.size W0 W
section
variable {W0 : World} {k n : Int} {g : ByteArray} {A : Option Addr} {l c : Nat} {t : Ex} {An : Option Addr} {ns : List ByteArray} {At : Option Addr} {vs : List Value} {W W' : World}
theorem BoxS.next (h : BoxS W0 k n g A l c t An ns At vs W) (hb : Below W.heap.size W W') : BoxS W0 k n g A l c t An ns At vs W' :=
  ⟨h.ba.below hb h.ba.lt, h.ka.below hb, (h.rn.below hb).more hb.size, (h.rt.below hb).more hb.size, h.be.trans (hb.mono h.be.size)⟩
theorem boxS_start {W : World} (h : IsEV W [.int .i64 k, .int .i64 n, .string g, .slice A l c] t) (hn : Row W W.heap.size An (strB ns)) (ht : Row W W.heap.size At vs) : BoxS W k n g A l c t An ns At vs (W.alloc (.cells #[.int .i64 k, .int .i64 n, .string g, .slice A l c] 25)) := by
  have hb0 : Below W.heap.size W (W.alloc (.cells #[.int .i64 k, .int .i64 n, .string g, .slice A l c] 25)) := by go_grown
  exact ⟨Blk.alloc_ W _ [.int .i64 k, .int .i64 n, .string g, .slice A l c], h.below hb0, (hn.below hb0).more hb0.size, (ht.below hb0).more hb0.size, hb0⟩
end

set_option maxHeartbeats 4000000 in
set_option maxRecDepth 20000 in
theorem specExprType (k n : Int) (g : ByteArray) (A : Option Addr) (l c : Nat) (t : Ex) (An : Option Addr) (nn cn : Nat) (ns : List ByteArray) (At : Option Addr) (mt ct : Nat) (ts : List ByteArray) (W : World)
    (h : IsEV W [.int .i64 k, .int .i64 n, .string g, .slice A l c] t) (hw : wgt t ≤ 1048576) (hn : Row W W.heap.size An (strB ns)) (ht : Row W W.heap.size At (strB ts)) (ln : Hid (ns.length = nn)) (lt : Hid (ts.length = mt)) (hnn : (nn : Int) ≤ 1048576) (hmt : (mt : Int) ≤ 1048576) :
    Calls Tryd.prog 36 #[.agg #[.int .i64 k, .int .i64 n, .string g, .slice A l c], .slice An nn cn, .slice At mt ct] W fun e w' => e = .returned (.string (mkB (tyE (lstL ns) (lstL ts) t))) ∧ Below W.heap.size W w' := by
  have S0 := Lib.hid (boxS_start h hn ht)
  have HO := Lib.hid (fun w h => specExprOk k n g A l c t w h hw)
  clear h hn ht
  cases hok : exprOk t with
  | false =>
    rw [tyE_none hok]
    rw [hok] at HO
    go_enter Tryd.func36, Tryd.ntmps36
    go_upto_region 1 with (fail)
    generalize W.alloc (.cells #[.int .i64 k, .int .i64 n, .string g, .slice A l c] 25) = w0 at *
    obtain ⟨a0, a1, a2, a3⟩ := blkE_cells S0.out.ba
    go_wp2_with fail
    refine (HO.out w0 S0.out.ka).mono ?_
    rintro e w1 ⟨rfl, hb1⟩
    have HB1 := Lib.hid (S0.out.next hb1).be
    clear hb1 a0 a1 a2 a3
    go_wp2_with fail
    go_ret
    exact ⟨rfl, HB1.out⟩
  | true =>
    obtain ⟨u, hu, hu5⟩ := exOk_some hok
    rw [hok] at HO
    by_cases hnm : nn = mt
    · subst hnm
      have TY := Lib.hid (fun W h1 h2 => specTypeOf 5 k n g A l c t u An nn cn ns At ct ts W h1 hu5 h2)
      cases hat : allTy ts with
      | false =>
        have HAT := Lib.hid hat
        rw [tyE_bad hat]
        clear hat hok
        go_enter Tryd.func36, Tryd.ntmps36
        go_upto_region 1 with (fail)
        generalize W.alloc (.cells #[.int .i64 k, .int .i64 n, .string g, .slice A l c] 25) = w0 at *
        obtain ⟨a0, a1, a2, a3⟩ := blkE_cells S0.out.ba
        go_wp2_with fail
        refine (HO.out w0 S0.out.ka).mono ?_
        rintro e w1 ⟨rfl, hb1⟩
        have S1 := Lib.hid (S0.out.next hb1)
        clear hb1 a0 a1 a2 a3
        go_wp2_with fail
        go_loop [7] (fun v => ∃ j : Nat, v = .int .i64 (j : Int) ∧ j ≤ nn ∧ Hid (allTy ts = allTy (ts.drop j))) (fun v => nn - (intOf v).toNat)
        case atStart => exact ⟨0, rfl, Nat.zero_le _, rfl⟩
        case round =>
          obtain ⟨j, rfl, hj, he⟩ := hrel
          by_cases hlt : j < nn
          · have hx : j < ts.length := by rw [lt.out]; exact hlt
            obtain ⟨b, o, rfl, hbb, hc⟩ := S1.out.rt.at_ (i := j) (by rw [strB_length]; exact hx)
            have HD := Lib.hid (allTy_drop hx)
            obtain ⟨x, ex⟩ : ∃ x, x = ts[j] := ⟨_, rfl⟩
            have hc1 : w1.cell? ⟨b, o + j, none⟩ = some (.string x) := by rw [hc, ex]; simp [strB]
            rw [← ex] at HD
            have HC := Lib.hid (specType x w1)
            have HB1 := Lib.hid S1.out.be
            have h0 : (0 : Int) ≤ (j : Int) := by omega
            have h1 : (j : Int) < (nn : Int) := by omega
            clear hc ex hx
            generalize isType x.data.toList = bx at *
            cases bx with
            | true =>
              have HN : Hid (allTy ts = allTy (ts.drop (j + 1))) := by unfold Hid; rw [he.out, HD.out]; rfl
              go_wp2_with fail
              refine HC.out.mono ?_
              rintro e w2 ⟨rfl, rfl⟩
              go_wp2_with fail
              go_round
              case rel => exact ⟨j + 1, by go_num, by omega, HN⟩
              case measure => simp [intOf]; omega
            | false =>
              go_wp2_with fail
              refine HC.out.mono ?_
              rintro e w2 ⟨rfl, rfl⟩
              go_wp2_with fail
              go_ret
              exact ⟨rfl, HB1.out⟩
          · obtain rfl : j = nn := by omega
            have := he.out
            rw [HAT.out, List.drop_eq_nil_of_le (by have := lt.out; omega)] at this
            cases this
      | true =>
        have HAT := Lib.hid hat
        rw [tyE_some hu (by have := ln.out; have := lt.out; omega) hat]
        clear hat hok
        generalize mkB (u.type (lstL ns) (lstL ts)) = R at *
        go_enter Tryd.func36, Tryd.ntmps36
        go_upto_region 1 with (fail)
        generalize W.alloc (.cells #[.int .i64 k, .int .i64 n, .string g, .slice A l c] 25) = w0 at *
        obtain ⟨a0, a1, a2, a3⟩ := blkE_cells S0.out.ba
        go_wp2_with fail
        refine (HO.out w0 S0.out.ka).mono ?_
        rintro e w1 ⟨rfl, hb1⟩
        have S1 := Lib.hid (S0.out.next hb1)
        clear hb1 a0 a1 a2 a3
        go_wp2_with fail
        go_loop [7] (fun v => ∃ j : Nat, v = .int .i64 (j : Int) ∧ j ≤ nn ∧ Hid (allTy ts = allTy (ts.drop j))) (fun v => nn - (intOf v).toNat)
        case atStart => exact ⟨0, rfl, Nat.zero_le _, rfl⟩
        case round =>
          obtain ⟨j, rfl, hj, he⟩ := hrel
          by_cases hlt : j < nn
          · have hx : j < ts.length := by rw [lt.out]; exact hlt
            obtain ⟨b, o, rfl, hbb, hc⟩ := S1.out.rt.at_ (i := j) (by rw [strB_length]; exact hx)
            have HD := Lib.hid (allTy_drop hx)
            obtain ⟨x, ex⟩ : ∃ x, x = ts[j] := ⟨_, rfl⟩
            have hc1 : w1.cell? ⟨b, o + j, none⟩ = some (.string x) := by rw [hc, ex]; simp [strB]
            rw [← ex] at HD
            have HC := Lib.hid (specType x w1)
            have h0 : (0 : Int) ≤ (j : Int) := by omega
            have h1 : (j : Int) < (nn : Int) := by omega
            clear hc ex hx
            have hbx : isType x.data.toList = true ∧ Hid (allTy ts = allTy (ts.drop (j + 1))) := by
              have h2 := he.out
              rw [HAT.out, HD.out] at h2
              have h3 := (Bool.and_eq_true _ _).mp h2.symm
              exact ⟨h3.1, by unfold Hid; rw [HAT.out, h3.2]⟩
            obtain ⟨hbx, HN⟩ := hbx
            rw [hbx] at HC
            clear hbx
            go_wp2_with fail
            refine HC.out.mono ?_
            rintro e w2 ⟨rfl, rfl⟩
            go_wp2_with fail
            go_round
            case rel => exact ⟨j + 1, by go_num, by omega, HN⟩
            case measure => simp [intOf]; omega
          · obtain rfl : j = nn := by omega
            obtain ⟨a0, a1, a2, a3⟩ := blkE_cells S1.out.ba
            go_wp2_with fail
            refine (TY.out w1 S1.out.ka ⟨S1.out.rn, S1.out.rt, ln.out, by rw [strB_length]; exact lt.out, hnn⟩).mono ?_
            rintro e w2 ⟨rfl, hb2⟩
            have HB2 := Lib.hid (S1.out.next hb2).be
            clear hb2 a0 a1 a2 a3
            go_wp2_with fail
            go_ret
            exact ⟨rfl, HB2.out⟩
    · rw [tyE_len (by have := ln.out; have := lt.out; omega)]
      have hnm2 : ((nn : Int) != (mt : Int)) = true := by rw [bne_iff_ne]; omega
      clear hnm hok
      go_enter Tryd.func36, Tryd.ntmps36
      go_upto_region 1 with (fail)
      generalize W.alloc (.cells #[.int .i64 k, .int .i64 n, .string g, .slice A l c] 25) = w0 at *
      obtain ⟨a0, a1, a2, a3⟩ := blkE_cells S0.out.ba
      go_wp2_with fail
      refine (HO.out w0 S0.out.ka).mono ?_
      rintro e w1 ⟨rfl, hb1⟩
      have HB1 := Lib.hid (S0.out.next hb1).be
      clear hb1 a0 a1 a2 a3
      go_wp2_with fail
      go_ret
      exact ⟨rfl, HB1.out⟩
end Go.Proofs.YtfjmjlpobbjjdaaDoor

namespace Go.Proofs.YtfjmjlpobbjjdaaDoor
open Go.RowKit Ilp
set_option linter.unusedVariables false

set_option maxHeartbeats 4000000 in
set_option maxRecDepth 20000 in
theorem implExprType (k n : Int) (g : ByteArray) (A : Option Addr) (l c : Nat) (t : Ex) (An : Option Addr) (nn cn : Nat) (ns : List ByteArray) (At : Option Addr) (mt ct : Nat) (ts : List ByteArray) (W : World)
    (h : IsEV W [.int .i64 k, .int .i64 n, .string g, .slice A l c] t) (hw : wgt t ≤ 1048576) (hn : Row W W.heap.size An (strB ns)) (ht : Row W W.heap.size At (strB ts)) (ln : Hid (ns.length = nn)) (lt : Hid (ts.length = mt)) (hnn : (nn : Int) ≤ 1048576) (hmt : (mt : Int) ≤ 1048576) (hT : Tabs W) :
    Calls Tryd.prog 17 #[.agg #[.int .i64 k, .int .i64 n, .string g, .slice A l c], .slice An nn cn, .slice At mt ct] W fun e w' => e = .returned (.string (mkB (tyE (lstL ns) (lstL ts) t))) ∧ Below W.heap.size W w' := by
  have S0 := Lib.hid (boxS_start h hn ht)
  have HO := Lib.hid (fun w h hT => implExprOk k n g A l c t w h hw hT)
  have HT := Lib.hid hT
  clear h hn ht hT
  cases hok : exprOk t with
  | false =>
    rw [tyE_none hok]
    rw [hok] at HO
    go_enter Tryd.func17, Tryd.ntmps17
    go_upto_region 1 with (fail)
    generalize W.alloc (.cells #[.int .i64 k, .int .i64 n, .string g, .slice A l c] 25) = w0 at *
    obtain ⟨a0, a1, a2, a3⟩ := blkE_cells S0.out.ba
    go_wp2_with fail
    refine (HO.out w0 S0.out.ka (HT.out.keep S0.out.be)).mono ?_
    rintro e w1 ⟨rfl, hb1⟩
    have S1 := Lib.hid (S0.out.next hb1)
    have HB1 := Lib.hid S1.out.be
    clear hb1 a0 a1 a2 a3
    go_wp2_with fail
    go_ret
    exact ⟨rfl, HB1.out⟩
  | true =>
    obtain ⟨u, hu, hu5⟩ := exOk_some hok
    rw [hok] at HO
    by_cases hnm : nn = mt
    · subst hnm
      have TY := Lib.hid (fun W h1 h2 => implTyped 5 k n g A l c t u An nn cn ns At ct ts W h1 hu5 h2)
      have CO := Lib.hid (fun W hr => conType At nn ct ts W hr lt hnn)
      cases hat : allTy ts with
      | false =>
        rw [tyE_bad hat]
        rw [hat] at CO
        clear hat hok
        go_enter Tryd.func17, Tryd.ntmps17
        go_upto_region 1 with (fail)
        generalize W.alloc (.cells #[.int .i64 k, .int .i64 n, .string g, .slice A l c] 25) = w0 at *
        obtain ⟨a0, a1, a2, a3⟩ := blkE_cells S0.out.ba
        go_wp2_with fail
        refine (HO.out w0 S0.out.ka (HT.out.keep S0.out.be)).mono ?_
        rintro e w1 ⟨rfl, hb1⟩
        have S1 := Lib.hid (S0.out.next hb1)
        have HB1 := Lib.hid S1.out.be
        clear hb1 a0 a1 a2 a3
        go_wp2_with fail
        refine (CO.out w1 S1.out.rt).mono ?_
        rintro e w2 ⟨rfl, rfl⟩
        go_wp2_with fail
        go_ret
        exact ⟨rfl, HB1.out⟩
      | true =>
        rw [tyE_some hu (by have := ln.out; have := lt.out; omega) hat]
        rw [hat] at CO
        clear hat hok
        generalize mkB (u.type (lstL ns) (lstL ts)) = R at *
        go_enter Tryd.func17, Tryd.ntmps17
        go_upto_region 1 with (fail)
        generalize W.alloc (.cells #[.int .i64 k, .int .i64 n, .string g, .slice A l c] 25) = w0 at *
        obtain ⟨a0, a1, a2, a3⟩ := blkE_cells S0.out.ba
        go_wp2_with fail
        refine (HO.out w0 S0.out.ka (HT.out.keep S0.out.be)).mono ?_
        rintro e w1 ⟨rfl, hb1⟩
        have S1 := Lib.hid (S0.out.next hb1)
        have HB1 := Lib.hid S1.out.be
        clear hb1 a0 a1 a2 a3
        go_wp2_with fail
        refine (CO.out w1 S1.out.rt).mono ?_
        rintro e w2 ⟨rfl, rfl⟩
        obtain ⟨a0, a1, a2, a3⟩ := blkE_cells S1.out.ba
        go_wp2_with fail
        refine (TY.out w1 S1.out.ka ⟨S1.out.rn, S1.out.rt, ln.out, by rw [strB_length]; exact lt.out, hnn⟩).mono ?_
        rintro e w2 ⟨rfl, hb2⟩
        have HB2 := Lib.hid (S1.out.next hb2).be
        clear hb2 a0 a1 a2 a3
        go_wp2_with fail
        go_ret
        exact ⟨rfl, HB2.out⟩
    · rw [tyE_len (by have := ln.out; have := lt.out; omega)]
      have hnm2 : ((nn : Int) != (mt : Int)) = true := by rw [bne_iff_ne]; omega
      clear hnm hok
      go_enter Tryd.func17, Tryd.ntmps17
      go_upto_region 1 with (fail)
      generalize W.alloc (.cells #[.int .i64 k, .int .i64 n, .string g, .slice A l c] 25) = w0 at *
      obtain ⟨a0, a1, a2, a3⟩ := blkE_cells S0.out.ba
      go_wp2_with fail
      refine (HO.out w0 S0.out.ka (HT.out.keep S0.out.be)).mono ?_
      rintro e w1 ⟨rfl, hb1⟩
      have S1 := Lib.hid (S0.out.next hb1)
      have HB1 := Lib.hid S1.out.be
      clear hb1 a0 a1 a2 a3
      go_wp2_with fail
      go_ret
      exact ⟨rfl, HB1.out⟩
end Go.Proofs.YtfjmjlpobbjjdaaDoor
