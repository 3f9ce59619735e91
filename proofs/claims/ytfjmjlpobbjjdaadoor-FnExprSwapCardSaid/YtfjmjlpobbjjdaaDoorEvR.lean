/- Walks of the program: what an expression comes to. -/
import Derived.Test.YtfjmjlpobbjjdaaDoorEvO
namespace Go.Proofs.YtfjmjlpobbjjdaaDoor
open Go.RowKit Ilp
set_option linter.unusedVariables false
set_option linter.unusedSimpArgs false

def OfI (d : Nat) : Prop := ∀ (k n : Int) (g : ByteArray) (A : Option Addr) (l c : Nat) (t : Ex) (u : Tm) (An : Option Addr) (nn cn : Nat) (ns : List ByteArray) (At : Option Addr) (ct : Nat) (xs : List Int) (W : World),
  IsEV W [.int .i64 k, .int .i64 n, .string g, .slice A l c] t → ofEx d t = some u → Env W An nn ns At (ints xs) →
  Calls Tryd.prog 48 #[.agg #[.int .i64 k, .int .i64 n, .string g, .slice A l c], .slice An nn cn, .slice At nn ct] W (OfR (u.of (lstL ns) xs) W)
set_option maxHeartbeats 8000000 in
set_option maxRecDepth 20000 in
theorem implOf (d : Nat) : OfI d := by
  induction d with
  | zero => intro k n g A l c t u An nn cn ns At ct xs W h hu hE; cases hu
  | succ d ih =>
    intro k n g A l c t u An nn cn ns At ct xs W h hu hE
    obtain ⟨q1, q2, q3, q4, h5, h6, h7, dd, hk⟩ := h.parts
    have IH := Lib.hid ih
    have hb0 : Below W.heap.size W (W.alloc (.cells #[.int .i64 k, .int .i64 n, .string g, .slice A l c] 25)) := by go_grown
    have HA := Lib.hid (Blk.alloc_ W 25 [.int .i64 k, .int .i64 n, .string g, .slice A l c])
    have HE := Lib.hid (hE.below hb0)
    have HK := Lib.hid (hk.below hb0)
    have HB0 := Lib.hid hb0
    have hnn : (nn : Int) ≤ 1048576 := hE.hn
    clear h hk hE hb0 ih h5 h6 h7
    rcases ofEx_cases hu with ⟨hk1, hs, hks, h0, h1, rfl⟩ | ⟨hk1, h0, hks, rfl⟩ | ⟨hk1, h0, x, y, o, v1, v2, hks, hx, hy, rfl, hs⟩ | ⟨hk1, h0, x, b, v, hks, hx, rfl, hs⟩
    · rw [hk1] at q1; subst q1
      have hnt : Hid (Tm.of (lstL ns) xs (.num t.num.toNat) = some n) := by unfold Hid Tm.of; rw [q2]; congr 1; omega
      rw [hnt.out]
      clear q2 q3 q4 hu hk1 hs hks h0 h1 hnt
      go_enter Tryd.func48, Tryd.ntmps48
      go_wp2_with fail
      go_ret2
      exact ⟨rfl, HB0.out⟩
    · rw [hk1] at q1; subst q1
      have hgd : g.data.toList = t.txt := by rw [q3, mkB_data]
      rcases lastI_cases ns g with ⟨hL, hl0⟩ | ⟨j, hj, hL, hl0⟩
      · have HR : Hid (Tm.of (lstL ns) xs (.name t.txt) = none) := by unfold Hid Tm.of; rw [← hgd, hl0]
        have HF := Lib.hid (fun w hr => implLast An nn cn ns g w hr HE.out.ln (by omega))
        rw [hL] at HF
        rw [HR.out]
        clear q2 q3 q4 hu hk1 hks h0 hgd hL hl0 HR
        go_enter Tryd.func48, Tryd.ntmps48
        go_wp2_with fail
        refine (HF.out _ HE.out.rn).mono ?_
        rintro e w1 ⟨rfl, hb1⟩
        have HB1 : Hid (Below W.heap.size W w1) := HB0.out.trans (hb1.mono HB0.out.size)
        clear hb1
        go_wp2_with fail
        go_ret2
        exact ⟨rfl, HB1.out⟩
      · have HLT := HE.out.lt
        have HLN := HE.out.ln
        have hjt : j < xs.length := by rw [ints_length] at HLT; omega
        obtain ⟨b, o, rfl, hbb, hc⟩ := HE.out.rt.at_ (i := j) (by rw [ints_length]; exact hjt)
        obtain ⟨x, ex⟩ : ∃ x, x = xs[j] := ⟨_, rfl⟩
        have hc1 : (W.alloc (.cells #[.int .i64 2, .int .i64 n, .string g, .slice A l c] 25)).cell? ⟨b, o + j, none⟩ = some (.int .i64 x) := by rw [hc, ex]; simp [ints]
        have HR : Hid (Tm.of (lstL ns) xs (.name t.txt) = some (clamp x)) := by
          unfold Hid Tm.of; rw [← hgd, hl0, ex]
          simp only [List.getD_eq_getElem?_getD, List.getElem?_eq_getElem hjt, Option.getD_some]
        have HF := Lib.hid (fun w hr => implLast An nn cn ns g w hr HE.out.ln (by omega))
        rw [hL] at HF
        rw [HR.out]
        have HC := Lib.hid (fun w => implCut x w)
        have hj0 : (0 : Int) ≤ (j : Int) := by omega
        have hj1 : (j : Int) < (nn : Int) := by omega
        clear q2 q3 q4 hu hk1 hks h0 hgd hL hl0 HLT HLN hjt hc ex hj HR
        generalize clamp x = cx at *
        go_enter Tryd.func48, Tryd.ntmps48
        go_wp2_with fail
        refine (HF.out _ HE.out.rn).mono ?_
        rintro e w1 ⟨rfl, hb1⟩
        have HB1 : Hid (Below W.heap.size W w1) := HB0.out.trans (hb1.mono HB0.out.size)
        have hc2 := cell_next hc1 hb1
        clear hc1
        clear hb1
        go_wp2_with fail
        refine (HC.out _).mono ?_
        rintro e w2 ⟨rfl, rfl⟩
        go_wp2_with fail
        go_ret2
        exact ⟨rfl, HB1.out⟩
    · rw [hk1] at q1; subst q1
      have HL2 := hks ▸ q4
      have HK2 : Hid (Kids _ (Low _) dd A [x, y]) := hks ▸ HK
      have HG : Hid (g = mkB (opText o)) := by unfold Hid; rw [q3, hs]
      obtain rfl : l = 2 := by simpa using HL2
      obtain ⟨b, o', k1, n1, g1, A1, l1, c1, k2, n2, g2, A2, l2, c2, rfl, hbb, hev1, hev2, e0, e1, e2, e3, f0, f1, f2, f3⟩ := kid2 HK2.out
      have S0 : Hid (TwoS W W.heap.size 3 n g b o' c k1 n1 g1 A1 l1 c1 k2 n2 g2 A2 l2 c2 x y An nn ns At (ints xs) _) := ⟨HA.out, ⟨⟨e0, e1, e2, e3⟩, f0, f1, f2, f3⟩, hev1, hev2, HE.out, HB0.out⟩
      have C1 := Lib.hid (fun W h1 h2 => IH.out k1 n1 g1 A1 l1 c1 x v1 An nn cn ns At ct xs W h1 hx h2)
      have C2 := Lib.hid (fun W h1 h2 => IH.out k2 n2 g2 A2 l2 c2 y v2 An nn cn ns At ct xs W h1 hy h2)
      have bd1 := Lib.hid (fun r h => Tm.of_le (names := lstL ns) (nums := xs) (ofEx_some _ _ _ hx).2.2 (r := r) h)
      have bd2 := Lib.hid (fun r h => Tm.of_le (names := lstL ns) (nums := xs) (ofEx_some _ _ _ hy).2.2 (r := r) h)
      rw [of_two]
      clear IH HK HK2 HL2 hev1 hev2 hu h0 hks hx hy hs q2 q3 q4 hk1 HA HE HB0 hbb e0 e1 e2 e3 f0 f1 f2 f3
      generalize v1.of (lstL ns) xs = r1 at *
      generalize v2.of (lstL ns) xs = r2 at *
      cases r1 with
      | none =>
        change Calls _ _ _ W (OfR none W)
        cases r2 with
        | none =>
          clear bd1 bd2
          go_enter Tryd.func48, Tryd.ntmps48
          go_upto_region 11 with (fail)
          generalize W.alloc (.cells #[.int .i64 3, .int .i64 n, .string g, .slice (some ⟨b, o', none⟩) 2 c] 25) = w0 at *
          have a3 := S0.out.box.2.2.2
          obtain ⟨e0, e1, e2, e3⟩ := S0.out.cs.1
          go_wp2_with fail
          refine (C1.out _ S0.out.v1 S0.out.en).mono ?_
          rintro e w1 ⟨he, hb1⟩
          change e = .returned (.tuple #[.int .i64 0, .bool false]) at he
          subst he
          have S1 := Lib.hid (S0.out.next hb1)
          clear hb1 a3 e0 e1 e2 e3
          have a3 := S1.out.box.2.2.2
          obtain ⟨e0, e1, e2, e3⟩ := S1.out.cs.2
          go_wp2_with fail
          refine (C2.out _ S1.out.v2 S1.out.en).mono ?_
          rintro e w2 ⟨he, hb2⟩
          change e = .returned (.tuple #[.int .i64 0, .bool false]) at he
          subst he
          have S2 := Lib.hid (S1.out.next hb2)
          have HB2 := Lib.hid S2.out.be
          clear hb2 a3 e0 e1 e2 e3
          go_wp2_with fail
          go_ret2
          exact ⟨rfl, HB2.out⟩
        | some a2 =>
          clear bd1 bd2
          go_enter Tryd.func48, Tryd.ntmps48
          go_upto_region 11 with (fail)
          generalize W.alloc (.cells #[.int .i64 3, .int .i64 n, .string g, .slice (some ⟨b, o', none⟩) 2 c] 25) = w0 at *
          have a3 := S0.out.box.2.2.2
          obtain ⟨e0, e1, e2, e3⟩ := S0.out.cs.1
          go_wp2_with fail
          refine (C1.out _ S0.out.v1 S0.out.en).mono ?_
          rintro e w1 ⟨he, hb1⟩
          change e = .returned (.tuple #[.int .i64 0, .bool false]) at he
          subst he
          have S1 := Lib.hid (S0.out.next hb1)
          clear hb1 a3 e0 e1 e2 e3
          have a3 := S1.out.box.2.2.2
          obtain ⟨e0, e1, e2, e3⟩ := S1.out.cs.2
          go_wp2_with fail
          refine (C2.out _ S1.out.v2 S1.out.en).mono ?_
          rintro e w2 ⟨he, hb2⟩
          change e = .returned (.tuple #[.int .i64 a2, .bool true]) at he
          subst he
          have S2 := Lib.hid (S1.out.next hb2)
          have HB2 := Lib.hid S2.out.be
          clear hb2 a3 e0 e1 e2 e3
          go_wp2_with fail
          go_ret2
          exact ⟨rfl, HB2.out⟩
      | some a1 =>
        cases r2 with
        | none =>
          change Calls _ _ _ W (OfR none W)
          clear bd1 bd2
          go_enter Tryd.func48, Tryd.ntmps48
          go_upto_region 11 with (fail)
          generalize W.alloc (.cells #[.int .i64 3, .int .i64 n, .string g, .slice (some ⟨b, o', none⟩) 2 c] 25) = w0 at *
          have a3 := S0.out.box.2.2.2
          obtain ⟨e0, e1, e2, e3⟩ := S0.out.cs.1
          go_wp2_with fail
          refine (C1.out _ S0.out.v1 S0.out.en).mono ?_
          rintro e w1 ⟨he, hb1⟩
          change e = .returned (.tuple #[.int .i64 a1, .bool true]) at he
          subst he
          have S1 := Lib.hid (S0.out.next hb1)
          clear hb1 a3 e0 e1 e2 e3
          have a3 := S1.out.box.2.2.2
          obtain ⟨e0, e1, e2, e3⟩ := S1.out.cs.2
          go_wp2_with fail
          refine (C2.out _ S1.out.v2 S1.out.en).mono ?_
          rintro e w2 ⟨he, hb2⟩
          change e = .returned (.tuple #[.int .i64 0, .bool false]) at he
          subst he
          have S2 := Lib.hid (S1.out.next hb2)
          have HB2 := Lib.hid S2.out.be
          clear hb2 a3 e0 e1 e2 e3
          go_wp2_with fail
          go_ret2
          exact ⟨rfl, HB2.out⟩
        | some a2 =>
          change Calls _ _ _ W (OfR (some (twoV o a1 a2)) W)
          obtain ⟨p1, p2⟩ := bd1.out a1 rfl
          obtain ⟨p3, p4⟩ := bd2.out a2 rfl
          clear bd1 bd2
          obtain ⟨u1, u2, u3, u4⟩ := ops_is o
          rw [← HG.out] at u1 u2 u3 u4
          clear u4 HG
          cases o with
          | add =>
            simp only [decide_true, reduceCtorEq, decide_false] at u1 u2 u3
            have HC := Lib.hid (fun w => implCut (a1 + a2) w)
            change Calls _ _ _ W (OfR (some (clamp (a1 + a2))) W)
            go_enter Tryd.func48, Tryd.ntmps48
            go_upto_region 11 with (fail)
            generalize W.alloc (.cells #[.int .i64 3, .int .i64 n, .string g, .slice (some ⟨b, o', none⟩) 2 c] 25) = w0 at *
            have a3 := S0.out.box.2.2.2
            obtain ⟨e0, e1, e2, e3⟩ := S0.out.cs.1
            go_wp2_with fail
            refine (C1.out _ S0.out.v1 S0.out.en).mono ?_
            rintro e w1 ⟨he, hb1⟩
            change e = .returned (.tuple #[.int .i64 a1, .bool true]) at he
            subst he
            have S1 := Lib.hid (S0.out.next hb1)
            clear hb1 a3 e0 e1 e2 e3
            have a3 := S1.out.box.2.2.2
            obtain ⟨e0, e1, e2, e3⟩ := S1.out.cs.2
            go_wp2_with fail
            refine (C2.out _ S1.out.v2 S1.out.en).mono ?_
            rintro e w2 ⟨he, hb2⟩
            change e = .returned (.tuple #[.int .i64 a2, .bool true]) at he
            subst he
            have S2 := Lib.hid (S1.out.next hb2)
            have HB2 := Lib.hid S2.out.be
            clear hb2 a3 e0 e1 e2 e3
            have a2' := S2.out.box.2.2.1
            go_wp2_with fail
            refine (HC.out _).mono ?_
            rintro e w3 ⟨rfl, rfl⟩
            go_wp2_with fail
            go_ret2
            exact ⟨rfl, HB2.out⟩
          | sub =>
            simp only [decide_true, reduceCtorEq, decide_false] at u1 u2 u3
            have HC := Lib.hid (fun w => implCut (a1 - a2) w)
            change Calls _ _ _ W (OfR (some (clamp (a1 - a2))) W)
            go_enter Tryd.func48, Tryd.ntmps48
            go_upto_region 11 with (fail)
            generalize W.alloc (.cells #[.int .i64 3, .int .i64 n, .string g, .slice (some ⟨b, o', none⟩) 2 c] 25) = w0 at *
            have a3 := S0.out.box.2.2.2
            obtain ⟨e0, e1, e2, e3⟩ := S0.out.cs.1
            go_wp2_with fail
            refine (C1.out _ S0.out.v1 S0.out.en).mono ?_
            rintro e w1 ⟨he, hb1⟩
            change e = .returned (.tuple #[.int .i64 a1, .bool true]) at he
            subst he
            have S1 := Lib.hid (S0.out.next hb1)
            clear hb1 a3 e0 e1 e2 e3
            have a3 := S1.out.box.2.2.2
            obtain ⟨e0, e1, e2, e3⟩ := S1.out.cs.2
            go_wp2_with fail
            refine (C2.out _ S1.out.v2 S1.out.en).mono ?_
            rintro e w2 ⟨he, hb2⟩
            change e = .returned (.tuple #[.int .i64 a2, .bool true]) at he
            subst he
            have S2 := Lib.hid (S1.out.next hb2)
            have HB2 := Lib.hid S2.out.be
            clear hb2 a3 e0 e1 e2 e3
            have a2' := S2.out.box.2.2.1
            go_wp2_with fail
            refine (HC.out _).mono ?_
            rintro e w3 ⟨rfl, rfl⟩
            go_wp2_with fail
            go_ret2
            exact ⟨rfl, HB2.out⟩
          | mul =>
            simp only [decide_true, reduceCtorEq, decide_false] at u1 u2 u3
            obtain ⟨m1, m2⟩ := mul_bound ⟨p1, p2⟩ ⟨p3, p4⟩
            have HC := Lib.hid (fun w => implCut (a1 * a2) w)
            change Calls _ _ _ W (OfR (some (clamp (a1 * a2))) W)
            go_enter Tryd.func48, Tryd.ntmps48
            go_upto_region 11 with (fail)
            generalize W.alloc (.cells #[.int .i64 3, .int .i64 n, .string g, .slice (some ⟨b, o', none⟩) 2 c] 25) = w0 at *
            have a3 := S0.out.box.2.2.2
            obtain ⟨e0, e1, e2, e3⟩ := S0.out.cs.1
            go_wp2_with fail
            refine (C1.out _ S0.out.v1 S0.out.en).mono ?_
            rintro e w1 ⟨he, hb1⟩
            change e = .returned (.tuple #[.int .i64 a1, .bool true]) at he
            subst he
            have S1 := Lib.hid (S0.out.next hb1)
            clear hb1 a3 e0 e1 e2 e3
            have a3 := S1.out.box.2.2.2
            obtain ⟨e0, e1, e2, e3⟩ := S1.out.cs.2
            go_wp2_with fail
            refine (C2.out _ S1.out.v2 S1.out.en).mono ?_
            rintro e w2 ⟨he, hb2⟩
            change e = .returned (.tuple #[.int .i64 a2, .bool true]) at he
            subst he
            have S2 := Lib.hid (S1.out.next hb2)
            have HB2 := Lib.hid S2.out.be
            clear hb2 a3 e0 e1 e2 e3
            have a2' := S2.out.box.2.2.1
            go_wp2_with fail
            refine (HC.out _).mono ?_
            rintro e w3 ⟨rfl, rfl⟩
            go_wp2_with fail
            go_ret2
            exact ⟨rfl, HB2.out⟩
          | lt =>
            simp only [decide_true, reduceCtorEq, decide_false] at u1 u2 u3
            by_cases hlt : a1 < a2
            · have HV : twoV .lt a1 a2 = 1 := by unfold twoV; simp [hlt]
              rw [HV]
              clear HV
              go_enter Tryd.func48, Tryd.ntmps48
              go_upto_region 11 with (fail)
              generalize W.alloc (.cells #[.int .i64 3, .int .i64 n, .string g, .slice (some ⟨b, o', none⟩) 2 c] 25) = w0 at *
              have a3 := S0.out.box.2.2.2
              obtain ⟨e0, e1, e2, e3⟩ := S0.out.cs.1
              go_wp2_with fail
              refine (C1.out _ S0.out.v1 S0.out.en).mono ?_
              rintro e w1 ⟨he, hb1⟩
              change e = .returned (.tuple #[.int .i64 a1, .bool true]) at he
              subst he
              have S1 := Lib.hid (S0.out.next hb1)
              clear hb1 a3 e0 e1 e2 e3
              have a3 := S1.out.box.2.2.2
              obtain ⟨e0, e1, e2, e3⟩ := S1.out.cs.2
              go_wp2_with fail
              refine (C2.out _ S1.out.v2 S1.out.en).mono ?_
              rintro e w2 ⟨he, hb2⟩
              change e = .returned (.tuple #[.int .i64 a2, .bool true]) at he
              subst he
              have S2 := Lib.hid (S1.out.next hb2)
              have HB2 := Lib.hid S2.out.be
              clear hb2 a3 e0 e1 e2 e3
              have a2' := S2.out.box.2.2.1
              go_wp2_with fail
              go_ret2
              exact ⟨rfl, HB2.out⟩
            · have HV : twoV .lt a1 a2 = 0 := by unfold twoV; simp [hlt]
              rw [HV]
              clear HV
              go_enter Tryd.func48, Tryd.ntmps48
              go_upto_region 11 with (fail)
              generalize W.alloc (.cells #[.int .i64 3, .int .i64 n, .string g, .slice (some ⟨b, o', none⟩) 2 c] 25) = w0 at *
              have a3 := S0.out.box.2.2.2
              obtain ⟨e0, e1, e2, e3⟩ := S0.out.cs.1
              go_wp2_with fail
              refine (C1.out _ S0.out.v1 S0.out.en).mono ?_
              rintro e w1 ⟨he, hb1⟩
              change e = .returned (.tuple #[.int .i64 a1, .bool true]) at he
              subst he
              have S1 := Lib.hid (S0.out.next hb1)
              clear hb1 a3 e0 e1 e2 e3
              have a3 := S1.out.box.2.2.2
              obtain ⟨e0, e1, e2, e3⟩ := S1.out.cs.2
              go_wp2_with fail
              refine (C2.out _ S1.out.v2 S1.out.en).mono ?_
              rintro e w2 ⟨he, hb2⟩
              change e = .returned (.tuple #[.int .i64 a2, .bool true]) at he
              subst he
              have S2 := Lib.hid (S1.out.next hb2)
              have HB2 := Lib.hid S2.out.be
              clear hb2 a3 e0 e1 e2 e3
              have a2' := S2.out.box.2.2.1
              go_wp2_with fail
              go_ret2
              exact ⟨rfl, HB2.out⟩
    · rw [hk1] at q1; subst q1
      have HL2 := hks ▸ q4
      have HK2 : Hid (Kids _ (Low _) dd A [x]) := hks ▸ HK
      obtain rfl : l = 1 := by simpa using HL2
      obtain ⟨b', o', k1, n1, g1, A1, l1, c1, rfl, hbb, hev1, e0, e1, e2, e3⟩ := kid1 HK2.out
      have S0 : Hid (OneS W W.heap.size 4 n g b' o' c k1 n1 g1 A1 l1 c1 x An nn ns At (ints xs) _) := ⟨HA.out, ⟨e0, e1, e2, e3⟩, hev1, HE.out, HB0.out⟩
      have C1 := Lib.hid (fun W h1 h2 => IH.out k1 n1 g1 A1 l1 c1 x v An nn cn ns At ct xs W h1 hx h2)
      rw [show Tm.of (lstL ns) xs (.cast b v) = v.of (lstL ns) xs by rfl]
      clear IH HK HK2 HL2 hev1 hu h0 hks hx hs q2 q3 q4 hk1 HA HE HB0 hbb e0 e1 e2 e3
      generalize v.of (lstL ns) xs = r1 at *
      go_enter Tryd.func48, Tryd.ntmps48
      go_upto_region 10 with (fail)
      generalize W.alloc (.cells #[.int .i64 4, .int .i64 n, .string g, .slice (some ⟨b', o', none⟩) 1 c] 25) = w0 at *
      have a3 := S0.out.box.2.2.2
      obtain ⟨e0, e1, e2, e3⟩ := S0.out.cs
      go_wp2_with fail
      refine (C1.out _ S0.out.v1 S0.out.en).mono ?_
      rintro e w1 ⟨rfl, hb1⟩
      have HB1 := Lib.hid (S0.out.next hb1).be
      clear hb1 a3 e0 e1 e2 e3
      go_wp2_with fail
      go_ret2
      exact ⟨rfl, HB1.out⟩
end Go.Proofs.YtfjmjlpobbjjdaaDoor
