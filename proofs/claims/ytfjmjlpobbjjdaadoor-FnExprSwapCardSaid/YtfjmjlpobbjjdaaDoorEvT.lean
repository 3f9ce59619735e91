/- Walks of the reference: types. -/
import Derived.Test.YtfjmjlpobbjjdaaDoorEvM
import Derived.Test.YtfjmjlpobbjjdaaDoorEOkL
namespace Go.Proofs.YtfjmjlpobbjjdaaDoor
open Go.RowKit Ilp
set_option linter.unusedVariables false
set_option linter.unusedSimpArgs false

/-- Names, and what goes with each. -/
structure Env (W : World) (An : Option Addr) (nn : Nat) (ns : List ByteArray) (At : Option Addr) (vs : List Value) : Prop where
  rn : Row W W.heap.size An (strB ns)
  rt : Row W W.heap.size At vs
  ln : ns.length = nn
  lt : vs.length = nn
  hn : (nn : Int) ≤ 1048576
theorem Env.below {W W' : World} {An : Option Addr} {nn : Nat} {ns : List ByteArray} {At : Option Addr} {vs : List Value} (h : Env W An nn ns At vs) (hb : Below W.heap.size W W') : Env W' An nn ns At vs :=
  ⟨(h.rn.below hb).more hb.size, (h.rt.below hb).more hb.size, h.ln, h.lt, h.hn⟩
theorem kid2 {W : World} {d : Nat} {A : Option Addr} {x y : Ex} (h : Kids W (Low W) d A [x, y]) : ∃ (b o : Nat) (k n : Int) (g : ByteArray) (A' : Option Addr) (l c : Nat) (k2 n2 : Int) (g2 : ByteArray) (A2 : Option Addr) (l2 c2 : Nat), A = some ⟨b, o, none⟩ ∧ b < W.heap.size ∧ IsEV W [.int .i64 k, .int .i64 n, .string g, .slice A' l c] x ∧ IsEV W [.int .i64 k2, .int .i64 n2, .string g2, .slice A2 l2 c2] y ∧
    W.cell? ⟨b, o, none⟩ = some (.int .i64 k) ∧ W.cell? ⟨b, o + 1, none⟩ = some (.int .i64 n) ∧ W.cell? ⟨b, o + 2, none⟩ = some (.string g) ∧ W.cell? ⟨b, o + 3, none⟩ = some (.slice A' l c) ∧
    W.cell? ⟨b, o + 4, none⟩ = some (.int .i64 k2) ∧ W.cell? ⟨b, o + 4 + 1, none⟩ = some (.int .i64 n2) ∧ W.cell? ⟨b, o + 4 + 2, none⟩ = some (.string g2) ∧ W.cell? ⟨b, o + 4 + 3, none⟩ = some (.slice A2 l2 c2) := by
  obtain ⟨b, o, k, n, g, A', l, c, rfl, hb, hev, e0, e1, e2, e3⟩ := IsEV.kid h (i := 0) (by simp)
  obtain ⟨b2, o2, k2, n2, g2, A2, l2, c2, e, hb2, hev2, f0, f1, f2, f3⟩ := IsEV.kid h (i := 1) (by simp)
  simp only [Option.some.injEq, Addr.mk.injEq, and_true] at e
  obtain ⟨rfl, rfl⟩ := e
  simp only [Nat.zero_mul, Nat.add_zero, Nat.one_mul] at e0 e1 e2 e3 f0 f1 f2 f3
  exact ⟨b, o, k, n, g, A', l, c, k2, n2, g2, A2, l2, c2, rfl, hb, hev, hev2, e0, e1, e2, e3, f0, f1, f2, f3⟩
theorem kid1 {W : World} {d : Nat} {A : Option Addr} {x : Ex} (h : Kids W (Low W) d A [x]) : ∃ (b o : Nat) (k n : Int) (g : ByteArray) (A' : Option Addr) (l c : Nat), A = some ⟨b, o, none⟩ ∧ b < W.heap.size ∧ IsEV W [.int .i64 k, .int .i64 n, .string g, .slice A' l c] x ∧
    W.cell? ⟨b, o, none⟩ = some (.int .i64 k) ∧ W.cell? ⟨b, o + 1, none⟩ = some (.int .i64 n) ∧ W.cell? ⟨b, o + 2, none⟩ = some (.string g) ∧ W.cell? ⟨b, o + 3, none⟩ = some (.slice A' l c) := by
  obtain ⟨b, o, k, n, g, A', l, c, rfl, hb, hev, e0, e1, e2, e3⟩ := IsEV.kid h (i := 0) (by simp)
  simp only [Nat.zero_mul, Nat.add_zero] at e0 e1 e2 e3
  exact ⟨b, o, k, n, g, A', l, c, rfl, hb, hev, e0, e1, e2, e3⟩
theorem mkB_is (R : List UInt8) (s : List UInt8) : ((mkB R).toList == s) = decide (R = s) := by
  rw [ByteArray.toList_eq, mkB_data, Bool.eq_iff_iff, beq_iff_eq, decide_eq_true_eq]

/-- One of two parts, in its box; names, and what goes with each. -/
structure TwoS (W0 : World) (X : Nat) (k n : Int) (g : ByteArray) (b o c : Nat) (k1 n1 : Int) (g1 : ByteArray) (A1 : Option Addr) (l1 c1 : Nat) (k2 n2 : Int) (g2 : ByteArray) (A2 : Option Addr) (l2 c2 : Nat) (x y : Ex) (An : Option Addr) (nn : Nat) (ns : List ByteArray) (At : Option Addr) (vs : List Value) (W : World) : Prop where
  ba : Blk W X 25 [.int .i64 k, .int .i64 n, .string g, .slice (some ⟨b, o, none⟩) 2 c]
  cs : (W.cell? ⟨b, o, none⟩ = some (.int .i64 k1) ∧ W.cell? ⟨b, o + 1, none⟩ = some (.int .i64 n1) ∧ W.cell? ⟨b, o + 2, none⟩ = some (.string g1) ∧ W.cell? ⟨b, o + 3, none⟩ = some (.slice A1 l1 c1)) ∧
    (W.cell? ⟨b, o + 4, none⟩ = some (.int .i64 k2) ∧ W.cell? ⟨b, o + 4 + 1, none⟩ = some (.int .i64 n2) ∧ W.cell? ⟨b, o + 4 + 2, none⟩ = some (.string g2) ∧ W.cell? ⟨b, o + 4 + 3, none⟩ = some (.slice A2 l2 c2))
  v1 : IsEV W [.int .i64 k1, .int .i64 n1, .string g1, .slice A1 l1 c1] x
  v2 : IsEV W [.int .i64 k2, .int .i64 n2, .string g2, .slice A2 l2 c2] y
  en : Env W An nn ns At vs
  be : Below W0.heap.size W0 W
section
variable {W0 : World} {X : Nat} {k n : Int} {g : ByteArray} {b o c : Nat} {k1 n1 : Int} {g1 : ByteArray} {A1 : Option Addr} {l1 c1 : Nat} {k2 n2 : Int} {g2 : ByteArray} {A2 : Option Addr} {l2 c2 : Nat} {x y : Ex} {An : Option Addr} {nn : Nat} {ns : List ByteArray} {At : Option Addr} {vs : List Value} {W W' : World}
theorem cell_next {p : Addr} {v : Value} (h : W.cell? p = some v) (hb : Below W.heap.size W W') : W'.cell? p = some v := (hb.cell (cell_lt h)).trans h
theorem TwoS.next (h : TwoS W0 X k n g b o c k1 n1 g1 A1 l1 c1 k2 n2 g2 A2 l2 c2 x y An nn ns At vs W) (hb : Below W.heap.size W W') : TwoS W0 X k n g b o c k1 n1 g1 A1 l1 c1 k2 n2 g2 A2 l2 c2 x y An nn ns At vs W' := by
  obtain ⟨ba, ⟨⟨a0, a1, a2, a3⟩, d0, d1, d2, d3⟩, v1, v2, en, be⟩ := h
  exact ⟨ba.below hb ba.lt, ⟨⟨cell_next a0 hb, cell_next a1 hb, cell_next a2 hb, cell_next a3 hb⟩, cell_next d0 hb, cell_next d1 hb, cell_next d2 hb, cell_next d3 hb⟩, v1.below hb, v2.below hb, en.below hb, be.trans (hb.mono be.size)⟩
theorem TwoS.box (h : TwoS W0 X k n g b o c k1 n1 g1 A1 l1 c1 k2 n2 g2 A2 l2 c2 x y An nn ns At vs W) : W.cell? ⟨X, 0, none⟩ = some (.int .i64 k) ∧ W.cell? ⟨X, 1, none⟩ = some (.int .i64 n) ∧ W.cell? ⟨X, 2, none⟩ = some (.string g) ∧ W.cell? ⟨X, 3, none⟩ = some (.slice (some ⟨b, o, none⟩) 2 c) := blkE_cells h.ba
end
/-- One of one part, in its box. -/
structure OneS (W0 : World) (X : Nat) (k n : Int) (g : ByteArray) (b o c : Nat) (k1 n1 : Int) (g1 : ByteArray) (A1 : Option Addr) (l1 c1 : Nat) (x : Ex) (An : Option Addr) (nn : Nat) (ns : List ByteArray) (At : Option Addr) (vs : List Value) (W : World) : Prop where
  ba : Blk W X 25 [.int .i64 k, .int .i64 n, .string g, .slice (some ⟨b, o, none⟩) 1 c]
  cs : W.cell? ⟨b, o, none⟩ = some (.int .i64 k1) ∧ W.cell? ⟨b, o + 1, none⟩ = some (.int .i64 n1) ∧ W.cell? ⟨b, o + 2, none⟩ = some (.string g1) ∧ W.cell? ⟨b, o + 3, none⟩ = some (.slice A1 l1 c1)
  v1 : IsEV W [.int .i64 k1, .int .i64 n1, .string g1, .slice A1 l1 c1] x
  en : Env W An nn ns At vs
  be : Below W0.heap.size W0 W
section
variable {W0 : World} {X : Nat} {k n : Int} {g : ByteArray} {b o c : Nat} {k1 n1 : Int} {g1 : ByteArray} {A1 : Option Addr} {l1 c1 : Nat} {x : Ex} {An : Option Addr} {nn : Nat} {ns : List ByteArray} {At : Option Addr} {vs : List Value} {W W' : World}
theorem OneS.next (h : OneS W0 X k n g b o c k1 n1 g1 A1 l1 c1 x An nn ns At vs W) (hb : Below W.heap.size W W') : OneS W0 X k n g b o c k1 n1 g1 A1 l1 c1 x An nn ns At vs W' := by
  obtain ⟨ba, ⟨a0, a1, a2, a3⟩, v1, en, be⟩ := h
  exact ⟨ba.below hb ba.lt, ⟨cell_next a0 hb, cell_next a1 hb, cell_next a2 hb, cell_next a3 hb⟩, v1.below hb, en.below hb, be.trans (hb.mono be.size)⟩
theorem OneS.box (h : OneS W0 X k n g b o c k1 n1 g1 A1 l1 c1 x An nn ns At vs W) : W.cell? ⟨X, 0, none⟩ = some (.int .i64 k) ∧ W.cell? ⟨X, 1, none⟩ = some (.int .i64 n) ∧ W.cell? ⟨X, 2, none⟩ = some (.string g) ∧ W.cell? ⟨X, 3, none⟩ = some (.slice (some ⟨b, o, none⟩) 1 c) := blkE_cells h.ba
end

def TypQ (d : Nat) : Prop := ∀ (k n : Int) (g : ByteArray) (A : Option Addr) (l c : Nat) (t : Ex) (u : Tm) (An : Option Addr) (nn cn : Nat) (ns : List ByteArray) (At : Option Addr) (ct : Nat) (ts : List ByteArray) (W : World),
  IsEV W [.int .i64 k, .int .i64 n, .string g, .slice A l c] t → ofEx d t = some u → Env W An nn ns At (strB ts) →
  Calls Tryd.prog 68 #[.agg #[.int .i64 k, .int .i64 n, .string g, .slice A l c], .slice An nn cn, .slice At nn ct] W fun e w' => e = .returned (.string (mkB (u.type (lstL ns) (lstL ts)))) ∧ Below W.heap.size W w'
set_option maxHeartbeats 4000000 in
set_option maxRecDepth 20000 in
theorem specTypeOf (d : Nat) : TypQ d := by
  induction d with
  | zero => intro k n g A l c t u An nn cn ns At ct ts W h hu hE; cases hu
  | succ d ih =>
    intro k n g A l c t u An nn cn ns At ct ts W h hu hE
    obtain ⟨q1, q2, q3, q4, h5, h6, h7, dd, hk⟩ := h.parts
    have IH := Lib.hid ih
    have hb0 : Below W.heap.size W (W.alloc (.cells #[.int .i64 k, .int .i64 n, .string g, .slice A l c] 25)) := by go_grown
    have HA := Lib.hid (Blk.alloc_ W 25 [.int .i64 k, .int .i64 n, .string g, .slice A l c])
    have HE := Lib.hid (hE.below hb0)
    have HK := Lib.hid (hk.below hb0)
    have HB0 := Lib.hid hb0
    have hnn : (nn : Int) ≤ 1048576 := hE.hn
    clear h hk hE hb0 ih h5 h6 h7
    rcases ofEx_cases hu with ⟨hk1, hs, hks, h0, h1, rfl⟩ | ⟨hk1, h0, hks, rfl⟩ | ⟨hk1, h0, x, y, o, v1, v2, hks, hx, hy, rfl, hs⟩ | ⟨hk1, h0, x, b, v, hks, hx, rfl, hs⟩
    · rw [hk1] at q1; subst q1
      have HR : Hid (mkB (Tm.type (lstL ns) (lstL ts) (.num t.num.toNat)) = mkB wInt) := by unfold Hid Tm.type; rfl
      clear q2 q3 q4 hu hk1 hs hks h0 h1
      go_enter Tryd.func68, Tryd.ntmps68
      go_wp2_with fail
      go_ret
      exact ⟨by rw [HR.out]; rfl, HB0.out⟩
    · rw [hk1] at q1; subst q1
      have hgd : g.data.toList = t.txt := by rw [q3, mkB_data]
      rcases lastI_cases ns g with ⟨hL, hl0⟩ | ⟨j, hj, hL, hl0⟩
      · have HR : Hid (mkB (Tm.type (lstL ns) (lstL ts) (.name t.txt)) = mkB []) := by unfold Hid Tm.type; rw [← hgd, hl0]
        have HF := Lib.hid (fun w hr => specFind An nn cn ns g w hr HE.out.ln (by omega))
        rw [hL] at HF
        clear q2 q3 q4 hu hk1 hks h0 hgd hL hl0
        go_enter Tryd.func68, Tryd.ntmps68
        go_wp2_with fail
        refine (HF.out _ HE.out.rn).mono ?_
        rintro e w1 ⟨rfl, rfl⟩
        go_wp2_with fail
        go_ret
        exact ⟨by rw [HR.out]; rfl, HB0.out⟩
      · have HLT := HE.out.lt
        have HLN := HE.out.ln
        have hjt : j < ts.length := by rw [strB_length] at HLT; omega
        obtain ⟨b, o, rfl, hbb, hc⟩ := HE.out.rt.at_ (i := j) (by rw [strB_length]; exact hjt)
        obtain ⟨x, ex⟩ : ∃ x, x = ts[j] := ⟨_, rfl⟩
        have hc1 : (W.alloc (.cells #[.int .i64 2, .int .i64 n, .string g, .slice A l c] 25)).cell? ⟨b, o + j, none⟩ = some (.string x) := by rw [hc, ex]; simp [strB]
        have HR : Hid (mkB (Tm.type (lstL ns) (lstL ts) (.name t.txt)) = x) := by
          unfold Hid Tm.type; rw [← hgd, hl0, ex]
          simp only [lstL, List.getD_eq_getElem?_getD, List.getElem?_map, List.getElem?_eq_getElem hjt, Option.map_some, Option.getD_some]
          exact data_mkB _
        have HF := Lib.hid (fun w hr => specFind An nn cn ns g w hr HE.out.ln (by omega))
        rw [hL] at HF
        have hj0 : (0 : Int) ≤ (j : Int) := by omega
        have hj1 : (j : Int) < (nn : Int) := by omega
        clear q2 q3 q4 hu hk1 hks h0 hgd hL hl0 HLT HLN hjt hc ex hj
        go_enter Tryd.func68, Tryd.ntmps68
        go_wp2_with fail
        refine (HF.out _ HE.out.rn).mono ?_
        rintro e w1 ⟨rfl, rfl⟩
        go_wp2_with fail
        go_ret
        exact ⟨by rw [HR.out]; rfl, HB0.out⟩
    · rw [hk1] at q1; subst q1
      have HL2 := hks ▸ q4
      have HK2 : Hid (Kids _ (Low _) dd A [x, y]) := hks ▸ HK
      have hgo : (g.toList == [60]) = decide (o = .lt) := by
        rw [q3, mkB_is, hs]; cases o <;> decide
      obtain rfl : l = 2 := by simpa using HL2
      obtain ⟨b, o', k1, n1, g1, A1, l1, c1, k2, n2, g2, A2, l2, c2, rfl, hbb, hev1, hev2, e0, e1, e2, e3, f0, f1, f2, f3⟩ := kid2 HK2.out
      have S0 : Hid (TwoS W W.heap.size 3 n g b o' c k1 n1 g1 A1 l1 c1 k2 n2 g2 A2 l2 c2 x y An nn ns At (strB ts) _) := ⟨HA.out, ⟨⟨e0, e1, e2, e3⟩, f0, f1, f2, f3⟩, hev1, hev2, HE.out, HB0.out⟩
      have C1 := Lib.hid (fun W h1 h2 => IH.out k1 n1 g1 A1 l1 c1 x v1 An nn cn ns At ct ts W h1 hx h2)
      have C2 := Lib.hid (fun W h1 h2 => IH.out k2 n2 g2 A2 l2 c2 y v2 An nn cn ns At ct ts W h1 hy h2)
      have s1 := mkB_is (v1.type (lstL ns) (lstL ts)) [105, 110, 116]
      have s2 := mkB_is (v2.type (lstL ns) (lstL ts)) [105, 110, 116]
      rw [show Tm.type (lstL ns) (lstL ts) (.two o v1 v2) = (if v1.type (lstL ns) (lstL ts) = wInt ∧ v2.type (lstL ns) (lstL ts) = wInt then (if o = .lt then wBool else wInt) else []) by rfl]
      clear IH HK HK2 HL2 hev1 hev2 hu h0 hks hx hy hs q2 q3 q4 hk1 HA HE HB0 hbb e0 e1 e2 e3 f0 f1 f2 f3
      generalize v1.type (lstL ns) (lstL ts) = T1 at *
      generalize v2.type (lstL ns) (lstL ts) = T2 at *
      generalize hgr : mkB T1 = R1 at *
      generalize hgr2 : mkB T2 = R2 at *
      have hr1 : (R1.toList == [105, 110, 116]) = decide (T1 = wInt) := s1
      have hr2 : (R2.toList == [105, 110, 116]) = decide (T2 = wInt) := s2
      clear s1 s2 hgr hgr2
      by_cases z1 : T1 = wInt
      · have q1 : (R1.toList == [105, 110, 116]) = true := by rw [hr1]; simp [z1]
        by_cases z2 : T2 = wInt
        · have q2 : (R2.toList == [105, 110, 116]) = true := by rw [hr2]; simp [z2]
          rw [if_pos ⟨z1, z2⟩]
          clear hr1 hr2 z1 z2
          by_cases ho : o = .lt
          · have hg1 : (g.toList == [60]) = true := by rw [hgo]; simp [ho]
            rw [if_pos ho]
            clear hgo ho
            go_enter Tryd.func68, Tryd.ntmps68
            go_upto_region 13 with (fail)
            generalize W.alloc (.cells #[.int .i64 3, .int .i64 n, .string g, .slice (some ⟨b, o', none⟩) 2 c] 25) = w0 at *
            have a3 := S0.out.box.2.2.2
            obtain ⟨e0, e1, e2, e3⟩ := S0.out.cs.1
            go_wp2_with fail
            refine (C1.out _ S0.out.v1 S0.out.en).mono ?_
            rintro e w1 ⟨rfl, hb1⟩
            have S1 := Lib.hid (S0.out.next hb1)
            clear hb1 a3 e0 e1 e2 e3
            have a3 := S1.out.box.2.2.2
            obtain ⟨e0, e1, e2, e3⟩ := S1.out.cs.2
            go_wp2_with fail
            refine (C2.out _ S1.out.v2 S1.out.en).mono ?_
            rintro e w2 ⟨rfl, hb2⟩
            have S2 := Lib.hid (S1.out.next hb2)
            clear hb2 a3 e0 e1 e2 e3
            have a2 := S2.out.box.2.2.1
            have HB2 := Lib.hid S2.out.be
            go_wp2_with fail
            go_ret
            exact ⟨rfl, HB2.out⟩
          · have hg1 : (g.toList == [60]) = false := by rw [hgo]; simp [ho]
            rw [if_neg ho]
            clear hgo ho
            go_enter Tryd.func68, Tryd.ntmps68
            go_upto_region 13 with (fail)
            generalize W.alloc (.cells #[.int .i64 3, .int .i64 n, .string g, .slice (some ⟨b, o', none⟩) 2 c] 25) = w0 at *
            have a3 := S0.out.box.2.2.2
            obtain ⟨e0, e1, e2, e3⟩ := S0.out.cs.1
            go_wp2_with fail
            refine (C1.out _ S0.out.v1 S0.out.en).mono ?_
            rintro e w1 ⟨rfl, hb1⟩
            have S1 := Lib.hid (S0.out.next hb1)
            clear hb1 a3 e0 e1 e2 e3
            have a3 := S1.out.box.2.2.2
            obtain ⟨e0, e1, e2, e3⟩ := S1.out.cs.2
            go_wp2_with fail
            refine (C2.out _ S1.out.v2 S1.out.en).mono ?_
            rintro e w2 ⟨rfl, hb2⟩
            have S2 := Lib.hid (S1.out.next hb2)
            clear hb2 a3 e0 e1 e2 e3
            have a2 := S2.out.box.2.2.1
            have HB2 := Lib.hid S2.out.be
            go_wp2_with fail
            go_ret
            exact ⟨rfl, HB2.out⟩
        · have q2 : (R2.toList == [105, 110, 116]) = false := by rw [hr2]; simp [z2]
          rw [if_neg (fun h => z2 h.2)]
          clear hr1 hr2 z1 z2 hgo
          go_enter Tryd.func68, Tryd.ntmps68
          go_upto_region 13 with (fail)
          generalize W.alloc (.cells #[.int .i64 3, .int .i64 n, .string g, .slice (some ⟨b, o', none⟩) 2 c] 25) = w0 at *
          have a3 := S0.out.box.2.2.2
          obtain ⟨e0, e1, e2, e3⟩ := S0.out.cs.1
          go_wp2_with fail
          refine (C1.out _ S0.out.v1 S0.out.en).mono ?_
          rintro e w1 ⟨rfl, hb1⟩
          have S1 := Lib.hid (S0.out.next hb1)
          clear hb1 a3 e0 e1 e2 e3
          have a3 := S1.out.box.2.2.2
          obtain ⟨e0, e1, e2, e3⟩ := S1.out.cs.2
          go_wp2_with fail
          refine (C2.out _ S1.out.v2 S1.out.en).mono ?_
          rintro e w2 ⟨rfl, hb2⟩
          have S2 := Lib.hid (S1.out.next hb2)
          clear hb2 a3 e0 e1 e2 e3
          have HB2 := Lib.hid S2.out.be
          go_wp2_with fail
          go_ret
          exact ⟨rfl, HB2.out⟩
      · have q1 : (R1.toList == [105, 110, 116]) = false := by rw [hr1]; simp [z1]
        rw [if_neg (fun h => z1 h.1)]
        clear hr1 hr2 z1 hgo
        go_enter Tryd.func68, Tryd.ntmps68
        go_upto_region 13 with (fail)
        generalize W.alloc (.cells #[.int .i64 3, .int .i64 n, .string g, .slice (some ⟨b, o', none⟩) 2 c] 25) = w0 at *
        have a3 := S0.out.box.2.2.2
        obtain ⟨e0, e1, e2, e3⟩ := S0.out.cs.1
        go_wp2_with fail
        refine (C1.out _ S0.out.v1 S0.out.en).mono ?_
        rintro e w1 ⟨rfl, hb1⟩
        have S1 := Lib.hid (S0.out.next hb1)
        clear hb1 a3 e0 e1 e2 e3
        have HB1 := Lib.hid S1.out.be
        go_wp2_with fail
        go_ret
        exact ⟨rfl, HB1.out⟩
    · rw [hk1] at q1; subst q1
      have HL2 := hks ▸ q4
      have HK2 : Hid (Kids _ (Low _) dd A [x]) := hks ▸ HK
      obtain rfl : l = 1 := by simpa using HL2
      obtain ⟨b', o', k1, n1, g1, A1, l1, c1, rfl, hbb, hev1, e0, e1, e2, e3⟩ := kid1 HK2.out
      have S0 : Hid (OneS W W.heap.size 4 n g b' o' c k1 n1 g1 A1 l1 c1 x An nn ns At (strB ts) _) := ⟨HA.out, ⟨e0, e1, e2, e3⟩, hev1, HE.out, HB0.out⟩
      have C1 := Lib.hid (fun W h1 h2 => IH.out k1 n1 g1 A1 l1 c1 x v An nn cn ns At ct ts W h1 hx h2)
      have hr1 := mkB_is (v.type (lstL ns) (lstL ts)) []
      have HG : Hid (mkB (tyText b) = g) := by unfold Hid; rw [q3, hs]
      rw [show Tm.type (lstL ns) (lstL ts) (.cast b v) = (if v.type (lstL ns) (lstL ts) = [] then [] else tyText b) by rfl]
      clear IH HK HK2 HL2 hev1 hu h0 hks hx hs q2 q3 q4 hk1 HA HE HB0 hbb e0 e1 e2 e3
      generalize v.type (lstL ns) (lstL ts) = T1 at *
      generalize hgr : mkB T1 = R1 at *
      clear hgr
      by_cases z1 : T1 = []
      · have q1 : (R1.toList == []) = true := by rw [hr1]; simp [z1]
        rw [if_pos z1]
        clear hr1 z1 HG
        go_enter Tryd.func68, Tryd.ntmps68
        go_upto_region 10 with (fail)
        generalize W.alloc (.cells #[.int .i64 4, .int .i64 n, .string g, .slice (some ⟨b', o', none⟩) 1 c] 25) = w0 at *
        have a3 := S0.out.box.2.2.2
        obtain ⟨e0, e1, e2, e3⟩ := S0.out.cs
        go_wp2_with fail
        refine (C1.out _ S0.out.v1 S0.out.en).mono ?_
        rintro e w1 ⟨rfl, hb1⟩
        have S1 := Lib.hid (S0.out.next hb1)
        have HB1 := Lib.hid S1.out.be
        clear hb1 a3 e0 e1 e2 e3
        go_wp2_with fail
        go_ret
        exact ⟨rfl, HB1.out⟩
      · have q1 : (R1.toList == []) = false := by rw [hr1]; simp [z1]
        rw [if_neg z1]
        clear hr1 z1
        go_enter Tryd.func68, Tryd.ntmps68
        go_upto_region 10 with (fail)
        generalize W.alloc (.cells #[.int .i64 4, .int .i64 n, .string g, .slice (some ⟨b', o', none⟩) 1 c] 25) = w0 at *
        have a3 := S0.out.box.2.2.2
        obtain ⟨e0, e1, e2, e3⟩ := S0.out.cs
        go_wp2_with fail
        refine (C1.out _ S0.out.v1 S0.out.en).mono ?_
        rintro e w1 ⟨rfl, hb1⟩
        have S1 := Lib.hid (S0.out.next hb1)
        have HB1 := Lib.hid S1.out.be
        have a2 := S1.out.box.2.2.1
        clear hb1 a3 e0 e1 e2 e3
        go_wp2_with fail
        go_ret
        exact ⟨by rw [HG.out]; rfl, HB1.out⟩
end Go.Proofs.YtfjmjlpobbjjdaaDoor
