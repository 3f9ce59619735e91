/- EO: the texts EvO EvR EvU in one. -/
import Derived.Test.YtfjmjlpobbjjdaaDoorEB

namespace Go.Proofs.YtfjmjlpobbjjdaaDoor
open Go.RowKit Ilp
set_option linter.unusedVariables false
set_option linter.unusedSimpArgs false

theorem l1MinS (a b : Int) (w : World) : Calls Tryd.prog 102 #[.int .i64 a, .int .i64 b] w fun e w' => e = .returned (.int .i64 (min a b)) ∧ w = w' := by
  by_cases h : a < b
  · have H : Hid (min a b = a) := by unfold Hid; omega
    go_enter Tryd.func102, Tryd.ntmps102
    go_wp2_with fail
    go_ret
    exact ⟨by rw [H.out]; rfl, rfl⟩
  · have H : Hid (min a b = b) := by unfold Hid; omega
    go_enter Tryd.func102, Tryd.ntmps102
    go_wp2_with fail
    go_ret
    exact ⟨by rw [H.out]; rfl, rfl⟩
theorem l1MaxS (a b : Int) (w : World) : Calls Tryd.prog 101 #[.int .i64 a, .int .i64 b] w fun e w' => e = .returned (.int .i64 (max a b)) ∧ w = w' := by
  by_cases h : b < a
  · have H : Hid (max a b = a) := by unfold Hid; omega
    have h2 : a > b := h
    go_enter Tryd.func101, Tryd.ntmps101
    go_wp2_with fail
    go_ret
    exact ⟨by rw [H.out]; rfl, rfl⟩
  · have H : Hid (max a b = b) := by unfold Hid; omega
    have h2 : ¬ a > b := h
    go_enter Tryd.func101, Tryd.ntmps101
    go_wp2_with fail
    go_ret
    exact ⟨by rw [H.out]; rfl, rfl⟩
theorem specCut (n : Int) (w : World) : Calls Tryd.prog 77 #[.int .i64 n] w fun e w' => e = .returned (.int .i64 (clamp n)) ∧ w = w' := by
  go_enter Tryd.func77, Tryd.ntmps77
  go_wp2_with fail
  refine (l1MinS 1000000 n w).mono ?_
  rintro e w1 ⟨rfl, rfl⟩
  go_wp2_with fail
  refine (l1MaxS (-1000000) (min 1000000 n) w).mono ?_
  rintro e w1 ⟨rfl, rfl⟩
  go_wp2_with fail
  go_ret
  exact ⟨rfl, rfl⟩
theorem min_two (b : Int) : ∀ ats ty, Builtin.min_ ats ty #[.int .i64 1000000, .int .i64 b] = pure (.int .i64 (min 1000000 b)) := by
  intro ats ty
  have e : Builtin.min_ ats ty #[.int .i64 1000000, .int .i64 b] = (pure (.int .i64 (if b < 1000000 then b else 1000000)) : Sem Value) := by
    simp [Builtin.min_, Builtin.min2]
  rw [e]
  congr 2
  split <;> omega
theorem max_two (b : Int) : ∀ ats ty, Builtin.max_ ats ty #[.int .i64 (-1000000), .int .i64 b] = pure (.int .i64 (max (-1000000) b)) := by
  intro ats ty
  have e : Builtin.max_ ats ty #[.int .i64 (-1000000), .int .i64 b] = (pure (.int .i64 (if b > -1000000 then b else -1000000)) : Sem Value) := by
    simp [Builtin.max_, Builtin.max2]
  rw [e]
  congr 2
  split <;> omega
theorem implCut (n : Int) (w : World) : Calls Tryd.prog 75 #[.int .i64 n] w fun e w' => e = .returned (.int .i64 (clamp n)) ∧ w = w' := by
  have h1 := min_two n
  have h2 := max_two (min 1000000 n)
  have H : Hid (max (-1000000) (min 1000000 n) = clamp n) := rfl
  go_enter Tryd.func75, Tryd.ntmps75
  go_wp2_with fail
  go_ret
  exact ⟨rfl, rfl⟩
theorem mul_bound {a b : Int} (ha : -1000000 ≤ a ∧ a ≤ 1000000) (hb : -1000000 ≤ b ∧ b ≤ 1000000) : -1000000000000 ≤ a * b ∧ a * b ≤ 1000000000000 := by
  have h1 : a.natAbs ≤ 1000000 := by omega
  have h2 : b.natAbs ≤ 1000000 := by omega
  have h3 : (a * b).natAbs ≤ 1000000 * 1000000 := by rw [Int.natAbs_mul]; exact Nat.mul_le_mul h1 h2
  omega
/-- What two numbers come to with a mark. -/
def twoV (o : Bop) (x y : Int) : Int := match o with
  | .add => clamp (x + y)
  | .sub => clamp (x - y)
  | .mul => clamp (x * y)
  | .lt => if x < y then 1 else 0
theorem of_two (o : Bop) (a b : Tm) (ns : List (List UInt8)) (xs : List Int) : Tm.of ns xs (.two o a b) = (match a.of ns xs, b.of ns xs with
    | some x, some y => some (twoV o x y)
    | _, _ => none) := by
  cases o <;> rfl
theorem ops_is (o : Bop) : ((mkB (opText o)).toList == [43]) = decide (o = .add) ∧ ((mkB (opText o)).toList == [45]) = decide (o = .sub) ∧ ((mkB (opText o)).toList == [42]) = decide (o = .mul) ∧ ((mkB (opText o)).toList == [60]) = decide (o = .lt) := by
  refine ⟨?_, ?_, ?_, ?_⟩ <;> (rw [mkB_is]; cases o <;> decide)
set_option maxRecDepth 20000 in
theorem specTwo (o : Bop) (g : ByteArray) (hg : g = mkB (opText o)) (a b : Int) (ha : -1000000 ≤ a ∧ a ≤ 1000000) (hb : -1000000 ≤ b ∧ b ≤ 1000000) (w : World) :
    Calls Tryd.prog 78 #[.string g, .int .i64 a, .int .i64 b] w fun e w' => e = .returned (.int .i64 (twoV o a b)) ∧ w = w' := by
  obtain ⟨g1, g2, g3, g4⟩ := ops_is o
  rw [← hg] at g1 g2 g3 g4
  obtain ⟨ha1, ha2⟩ := ha
  obtain ⟨hb1, hb2⟩ := hb
  have hm := mul_bound ⟨ha1, ha2⟩ ⟨hb1, hb2⟩
  clear hg g4
  cases o with
  | add =>
    simp only [decide_true, reduceCtorEq, decide_false] at g1 g2 g3
    clear hm
    have C := Lib.hid (specCut (a + b) w)
    go_enter Tryd.func78, Tryd.ntmps78
    go_wp2_with fail
    refine C.out.mono ?_
    rintro e w1 ⟨rfl, rfl⟩
    go_wp2_with fail
    go_ret
    exact ⟨rfl, rfl⟩
  | sub =>
    simp only [decide_true, reduceCtorEq, decide_false] at g1 g2 g3
    clear hm
    have C := Lib.hid (specCut (a - b) w)
    go_enter Tryd.func78, Tryd.ntmps78
    go_wp2_with fail
    refine C.out.mono ?_
    rintro e w1 ⟨rfl, rfl⟩
    go_wp2_with fail
    go_ret
    exact ⟨rfl, rfl⟩
  | mul =>
    simp only [decide_true, reduceCtorEq, decide_false] at g1 g2 g3
    obtain ⟨hm1, hm2⟩ := hm
    have C := Lib.hid (specCut (a * b) w)
    go_enter Tryd.func78, Tryd.ntmps78
    go_wp2_with fail
    refine C.out.mono ?_
    rintro e w1 ⟨rfl, rfl⟩
    go_wp2_with fail
    go_ret
    exact ⟨rfl, rfl⟩
  | lt =>
    simp only [decide_true, reduceCtorEq, decide_false] at g1 g2 g3
    clear hm
    by_cases h : a < b
    · have H : Hid (twoV .lt a b = 1) := by unfold Hid twoV; simp [h]
      go_enter Tryd.func78, Tryd.ntmps78
      go_wp2_with fail
      go_ret
      exact ⟨by rw [H.out]; rfl, rfl⟩
    · have H : Hid (twoV .lt a b = 0) := by unfold Hid twoV; simp [h]
      go_enter Tryd.func78, Tryd.ntmps78
      go_wp2_with fail
      go_ret
      exact ⟨by rw [H.out]; rfl, rfl⟩

/-- A number, or none. -/
def OfR (r : Option Int) (w : World) (e : Ending) (w' : World) : Prop := e = .returned (.tuple #[.int .i64 (r.getD 0), .bool r.isSome]) ∧ Below w.heap.size w w'

def OfQ (d : Nat) : Prop := ∀ (k n : Int) (g : ByteArray) (A : Option Addr) (l c : Nat) (t : Ex) (u : Tm) (An : Option Addr) (nn cn : Nat) (ns : List ByteArray) (At : Option Addr) (ct : Nat) (xs : List Int) (W : World),
  IsEV W [.int .i64 k, .int .i64 n, .string g, .slice A l c] t → ofEx d t = some u → Env W An nn ns At (ints xs) →
  Calls Tryd.prog 49 #[.agg #[.int .i64 k, .int .i64 n, .string g, .slice A l c], .slice An nn cn, .slice At nn ct] W (OfR (u.of (lstL ns) xs) W)
set_option maxHeartbeats 8000000 in
set_option maxRecDepth 20000 in
theorem specOf (d : Nat) : OfQ d := by
  induction d with
  | zero => intro k n g A l c t u An nn cn ns At ct xs W h hu hE; cases hu
  | succ d ih =>
    intro k n g A l c t u An nn cn ns At ct xs W h hu hE
    obtain ⟨q1, q2, q3, q4, h5, h6, h7, dd, hk⟩ := h.parts
    have IH := Lib.hid ih
    have hb0 : Below W.heap.size W (W.alloc (.cells #[.int .i64 k, .int .i64 n, .string g, .slice A l c] 25)) := by go_grown
    have HA := Lib.hid (Blk.alloc_ W 25 [.int .i64 k, .int .i64 n, .string g, .slice A l c])
    have HE := Lib.hid (hE.below hb0)
    have HK := Lib.hid (hk.below hb0)
    have HB0 := Lib.hid hb0
    have hnn : (nn : Int) ≤ 1048576 := hE.hn
    clear h hk hE hb0 ih h5 h6 h7
    rcases ofEx_cases hu with ⟨hk1, hs, hks, h0, h1, rfl⟩ | ⟨hk1, h0, hks, rfl⟩ | ⟨hk1, h0, x, y, o, v1, v2, hks, hx, hy, rfl, hs⟩ | ⟨hk1, h0, x, b, v, hks, hx, rfl, hs⟩
    · rw [hk1] at q1; subst q1
      have hnt : Hid (Tm.of (lstL ns) xs (.num t.num.toNat) = some n) := by unfold Hid Tm.of; rw [q2]; congr 1; omega
      rw [hnt.out]
      clear q2 q3 q4 hu hk1 hs hks h0 h1 hnt
      go_enter Tryd.func49, Tryd.ntmps49
      go_wp2_with fail
      go_ret2
      exact ⟨rfl, HB0.out⟩
    · rw [hk1] at q1; subst q1
      have hgd : g.data.toList = t.txt := by rw [q3, mkB_data]
      rcases lastI_cases ns g with ⟨hL, hl0⟩ | ⟨j, hj, hL, hl0⟩
      · have HR : Hid (Tm.of (lstL ns) xs (.name t.txt) = none) := by unfold Hid Tm.of; rw [← hgd, hl0]
        have HF := Lib.hid (fun w hr => specFind An nn cn ns g w hr HE.out.ln (by omega))
        rw [hL] at HF
        rw [HR.out]
        clear q2 q3 q4 hu hk1 hks h0 hgd hL hl0 HR
        go_enter Tryd.func49, Tryd.ntmps49
        go_wp2_with fail
        refine (HF.out _ HE.out.rn).mono ?_
        rintro e w1 ⟨rfl, rfl⟩
        have HB1 := HB0
        go_wp2_with fail
        go_ret2
        exact ⟨rfl, HB1.out⟩
      · have HLT := HE.out.lt
        have HLN := HE.out.ln
        have hjt : j < xs.length := by rw [ints_length] at HLT; omega
        obtain ⟨b, o, rfl, hbb, hc⟩ := HE.out.rt.at_ (i := j) (by rw [ints_length]; exact hjt)
        obtain ⟨x, ex⟩ : ∃ x, x = xs[j] := ⟨_, rfl⟩
        have hc1 : (W.alloc (.cells #[.int .i64 2, .int .i64 n, .string g, .slice A l c] 25)).cell? ⟨b, o + j, none⟩ = some (.int .i64 x) := by rw [hc, ex]; simp [ints]
        have HR : Hid (Tm.of (lstL ns) xs (.name t.txt) = some (clamp x)) := by
          unfold Hid Tm.of; rw [← hgd, hl0, ex]
          simp only [List.getD_eq_getElem?_getD, List.getElem?_eq_getElem hjt, Option.getD_some]
        have HF := Lib.hid (fun w hr => specFind An nn cn ns g w hr HE.out.ln (by omega))
        rw [hL] at HF
        rw [HR.out]
        have HC := Lib.hid (fun w => specCut x w)
        have hj0 : (0 : Int) ≤ (j : Int) := by omega
        have hj1 : (j : Int) < (nn : Int) := by omega
        clear q2 q3 q4 hu hk1 hks h0 hgd hL hl0 HLT HLN hjt hc ex hj HR
        generalize clamp x = cx at *
        go_enter Tryd.func49, Tryd.ntmps49
        go_wp2_with fail
        refine (HF.out _ HE.out.rn).mono ?_
        rintro e w1 ⟨rfl, rfl⟩
        have HB1 := HB0
        go_wp2_with fail
        refine (HC.out _).mono ?_
        rintro e w2 ⟨rfl, rfl⟩
        go_wp2_with fail
        go_ret2
        exact ⟨rfl, HB1.out⟩
    · rw [hk1] at q1; subst q1
      have HL2 := hks ▸ q4
      have HK2 : Hid (Kids _ (Low _) dd A [x, y]) := hks ▸ HK
      have HG : Hid (g = mkB (opText o)) := by unfold Hid; rw [q3, hs]
      obtain rfl : l = 2 := by simpa using HL2
      obtain ⟨b, o', k1, n1, g1, A1, l1, c1, k2, n2, g2, A2, l2, c2, rfl, hbb, hev1, hev2, e0, e1, e2, e3, f0, f1, f2, f3⟩ := kid2 HK2.out
      have S0 : Hid (TwoS W W.heap.size 3 n g b o' c k1 n1 g1 A1 l1 c1 k2 n2 g2 A2 l2 c2 x y An nn ns At (ints xs) _) := ⟨HA.out, ⟨⟨e0, e1, e2, e3⟩, f0, f1, f2, f3⟩, hev1, hev2, HE.out, HB0.out⟩
      have C1 := Lib.hid (fun W h1 h2 => IH.out k1 n1 g1 A1 l1 c1 x v1 An nn cn ns At ct xs W h1 hx h2)
      have C2 := Lib.hid (fun W h1 h2 => IH.out k2 n2 g2 A2 l2 c2 y v2 An nn cn ns At ct xs W h1 hy h2)
      have bd1 := Lib.hid (fun r h => Tm.of_le (names := lstL ns) (nums := xs) (ofEx_some _ _ _ hx).2.2 (r := r) h)
      have bd2 := Lib.hid (fun r h => Tm.of_le (names := lstL ns) (nums := xs) (ofEx_some _ _ _ hy).2.2 (r := r) h)
      rw [of_two]
      clear IH HK HK2 HL2 hev1 hev2 hu h0 hks hx hy hs q2 q3 q4 hk1 HA HE HB0 hbb e0 e1 e2 e3 f0 f1 f2 f3
      generalize v1.of (lstL ns) xs = r1 at *
      generalize v2.of (lstL ns) xs = r2 at *
      cases r1 with
      | none =>
        change Calls _ _ _ W (OfR none W)
        cases r2 with
        | none =>
          clear bd1 bd2
          go_enter Tryd.func49, Tryd.ntmps49
          go_upto_region 11 with (fail)
          generalize W.alloc (.cells #[.int .i64 3, .int .i64 n, .string g, .slice (some ⟨b, o', none⟩) 2 c] 25) = w0 at *
          have a3 := S0.out.box.2.2.2
          obtain ⟨e0, e1, e2, e3⟩ := S0.out.cs.1
          go_wp2_with fail
          refine (C1.out _ S0.out.v1 S0.out.en).mono ?_
          rintro e w1 ⟨he, hb1⟩
          change e = .returned (.tuple #[.int .i64 0, .bool false]) at he
          subst he
          have S1 := Lib.hid (S0.out.next hb1)
          clear hb1 a3 e0 e1 e2 e3
          have a3 := S1.out.box.2.2.2
          obtain ⟨e0, e1, e2, e3⟩ := S1.out.cs.2
          go_wp2_with fail
          refine (C2.out _ S1.out.v2 S1.out.en).mono ?_
          rintro e w2 ⟨he, hb2⟩
          change e = .returned (.tuple #[.int .i64 0, .bool false]) at he
          subst he
          have S2 := Lib.hid (S1.out.next hb2)
          have HB2 := Lib.hid S2.out.be
          clear hb2 a3 e0 e1 e2 e3
          go_wp2_with fail
          go_ret2
          exact ⟨rfl, HB2.out⟩
        | some a2 =>
          clear bd1 bd2
          go_enter Tryd.func49, Tryd.ntmps49
          go_upto_region 11 with (fail)
          generalize W.alloc (.cells #[.int .i64 3, .int .i64 n, .string g, .slice (some ⟨b, o', none⟩) 2 c] 25) = w0 at *
          have a3 := S0.out.box.2.2.2
          obtain ⟨e0, e1, e2, e3⟩ := S0.out.cs.1
          go_wp2_with fail
          refine (C1.out _ S0.out.v1 S0.out.en).mono ?_
          rintro e w1 ⟨he, hb1⟩
          change e = .returned (.tuple #[.int .i64 0, .bool false]) at he
          subst he
          have S1 := Lib.hid (S0.out.next hb1)
          clear hb1 a3 e0 e1 e2 e3
          have a3 := S1.out.box.2.2.2
          obtain ⟨e0, e1, e2, e3⟩ := S1.out.cs.2
          go_wp2_with fail
          refine (C2.out _ S1.out.v2 S1.out.en).mono ?_
          rintro e w2 ⟨he, hb2⟩
          change e = .returned (.tuple #[.int .i64 a2, .bool true]) at he
          subst he
          have S2 := Lib.hid (S1.out.next hb2)
          have HB2 := Lib.hid S2.out.be
          clear hb2 a3 e0 e1 e2 e3
          go_wp2_with fail
          go_ret2
          exact ⟨rfl, HB2.out⟩
      | some a1 =>
        cases r2 with
        | none =>
          change Calls _ _ _ W (OfR none W)
          clear bd1 bd2
          go_enter Tryd.func49, Tryd.ntmps49
          go_upto_region 11 with (fail)
          generalize W.alloc (.cells #[.int .i64 3, .int .i64 n, .string g, .slice (some ⟨b, o', none⟩) 2 c] 25) = w0 at *
          have a3 := S0.out.box.2.2.2
          obtain ⟨e0, e1, e2, e3⟩ := S0.out.cs.1
          go_wp2_with fail
          refine (C1.out _ S0.out.v1 S0.out.en).mono ?_
          rintro e w1 ⟨he, hb1⟩
          change e = .returned (.tuple #[.int .i64 a1, .bool true]) at he
          subst he
          have S1 := Lib.hid (S0.out.next hb1)
          clear hb1 a3 e0 e1 e2 e3
          have a3 := S1.out.box.2.2.2
          obtain ⟨e0, e1, e2, e3⟩ := S1.out.cs.2
          go_wp2_with fail
          refine (C2.out _ S1.out.v2 S1.out.en).mono ?_
          rintro e w2 ⟨he, hb2⟩
          change e = .returned (.tuple #[.int .i64 0, .bool false]) at he
          subst he
          have S2 := Lib.hid (S1.out.next hb2)
          have HB2 := Lib.hid S2.out.be
          clear hb2 a3 e0 e1 e2 e3
          go_wp2_with fail
          go_ret2
          exact ⟨rfl, HB2.out⟩
        | some a2 =>
          change Calls _ _ _ W (OfR (some (twoV o a1 a2)) W)
          obtain ⟨p1, p2⟩ := bd1.out a1 rfl
          obtain ⟨p3, p4⟩ := bd2.out a2 rfl
          clear bd1 bd2
          have TW := Lib.hid (fun w => specTwo o g HG.out a1 a2 ⟨p1, p2⟩ ⟨p3, p4⟩ w)
          clear HG p1 p2 p3 p4
          generalize twoV o a1 a2 = rv at *
          go_enter Tryd.func49, Tryd.ntmps49
          go_upto_region 11 with (fail)
          generalize W.alloc (.cells #[.int .i64 3, .int .i64 n, .string g, .slice (some ⟨b, o', none⟩) 2 c] 25) = w0 at *
          have a3 := S0.out.box.2.2.2
          obtain ⟨e0, e1, e2, e3⟩ := S0.out.cs.1
          go_wp2_with fail
          refine (C1.out _ S0.out.v1 S0.out.en).mono ?_
          rintro e w1 ⟨he, hb1⟩
          change e = .returned (.tuple #[.int .i64 a1, .bool true]) at he
          subst he
          have S1 := Lib.hid (S0.out.next hb1)
          clear hb1 a3 e0 e1 e2 e3
          have a3 := S1.out.box.2.2.2
          obtain ⟨e0, e1, e2, e3⟩ := S1.out.cs.2
          go_wp2_with fail
          refine (C2.out _ S1.out.v2 S1.out.en).mono ?_
          rintro e w2 ⟨he, hb2⟩
          change e = .returned (.tuple #[.int .i64 a2, .bool true]) at he
          subst he
          have S2 := Lib.hid (S1.out.next hb2)
          have HB2 := Lib.hid S2.out.be
          clear hb2 a3 e0 e1 e2 e3
          have a2' := S2.out.box.2.2.1
          go_wp2_with fail
          refine (TW.out _).mono ?_
          rintro e w3 ⟨rfl, rfl⟩
          go_wp2_with fail
          go_ret2
          exact ⟨rfl, HB2.out⟩
    · rw [hk1] at q1; subst q1
      have HL2 := hks ▸ q4
      have HK2 : Hid (Kids _ (Low _) dd A [x]) := hks ▸ HK
      obtain rfl : l = 1 := by simpa using HL2
      obtain ⟨b', o', k1, n1, g1, A1, l1, c1, rfl, hbb, hev1, e0, e1, e2, e3⟩ := kid1 HK2.out
      have S0 : Hid (OneS W W.heap.size 4 n g b' o' c k1 n1 g1 A1 l1 c1 x An nn ns At (ints xs) _) := ⟨HA.out, ⟨e0, e1, e2, e3⟩, hev1, HE.out, HB0.out⟩
      have C1 := Lib.hid (fun W h1 h2 => IH.out k1 n1 g1 A1 l1 c1 x v An nn cn ns At ct xs W h1 hx h2)
      rw [show Tm.of (lstL ns) xs (.cast b v) = v.of (lstL ns) xs by rfl]
      clear IH HK HK2 HL2 hev1 hu h0 hks hx hs q2 q3 q4 hk1 HA HE HB0 hbb e0 e1 e2 e3
      generalize v.of (lstL ns) xs = r1 at *
      go_enter Tryd.func49, Tryd.ntmps49
      go_upto_region 10 with (fail)
      generalize W.alloc (.cells #[.int .i64 4, .int .i64 n, .string g, .slice (some ⟨b', o', none⟩) 1 c] 25) = w0 at *
      have a3 := S0.out.box.2.2.2
      obtain ⟨e0, e1, e2, e3⟩ := S0.out.cs
      go_wp2_with fail
      refine (C1.out _ S0.out.v1 S0.out.en).mono ?_
      rintro e w1 ⟨rfl, hb1⟩
      have HB1 := Lib.hid (S0.out.next hb1).be
      clear hb1 a3 e0 e1 e2 e3
      go_wp2_with fail
      go_ret2
      exact ⟨rfl, HB1.out⟩
end Go.Proofs.YtfjmjlpobbjjdaaDoor

namespace Go.Proofs.YtfjmjlpobbjjdaaDoor
open Go.RowKit Ilp
set_option linter.unusedVariables false
set_option linter.unusedSimpArgs false

def OfI (d : Nat) : Prop := ∀ (k n : Int) (g : ByteArray) (A : Option Addr) (l c : Nat) (t : Ex) (u : Tm) (An : Option Addr) (nn cn : Nat) (ns : List ByteArray) (At : Option Addr) (ct : Nat) (xs : List Int) (W : World),
  IsEV W [.int .i64 k, .int .i64 n, .string g, .slice A l c] t → ofEx d t = some u → Env W An nn ns At (ints xs) →
  Calls Tryd.prog 48 #[.agg #[.int .i64 k, .int .i64 n, .string g, .slice A l c], .slice An nn cn, .slice At nn ct] W (OfR (u.of (lstL ns) xs) W)
set_option maxHeartbeats 8000000 in
set_option maxRecDepth 20000 in
theorem implOf (d : Nat) : OfI d := by
  induction d with
  | zero => intro k n g A l c t u An nn cn ns At ct xs W h hu hE; cases hu
  | succ d ih =>
    intro k n g A l c t u An nn cn ns At ct xs W h hu hE
    obtain ⟨q1, q2, q3, q4, h5, h6, h7, dd, hk⟩ := h.parts
    have IH := Lib.hid ih
    have hb0 : Below W.heap.size W (W.alloc (.cells #[.int .i64 k, .int .i64 n, .string g, .slice A l c] 25)) := by go_grown
    have HA := Lib.hid (Blk.alloc_ W 25 [.int .i64 k, .int .i64 n, .string g, .slice A l c])
    have HE := Lib.hid (hE.below hb0)
    have HK := Lib.hid (hk.below hb0)
    have HB0 := Lib.hid hb0
    have hnn : (nn : Int) ≤ 1048576 := hE.hn
    clear h hk hE hb0 ih h5 h6 h7
    rcases ofEx_cases hu with ⟨hk1, hs, hks, h0, h1, rfl⟩ | ⟨hk1, h0, hks, rfl⟩ | ⟨hk1, h0, x, y, o, v1, v2, hks, hx, hy, rfl, hs⟩ | ⟨hk1, h0, x, b, v, hks, hx, rfl, hs⟩
    · rw [hk1] at q1; subst q1
      have hnt : Hid (Tm.of (lstL ns) xs (.num t.num.toNat) = some n) := by unfold Hid Tm.of; rw [q2]; congr 1; omega
      rw [hnt.out]
      clear q2 q3 q4 hu hk1 hs hks h0 h1 hnt
      go_enter Tryd.func48, Tryd.ntmps48
      go_wp2_with fail
      go_ret2
      exact ⟨rfl, HB0.out⟩
    · rw [hk1] at q1; subst q1
      have hgd : g.data.toList = t.txt := by rw [q3, mkB_data]
      rcases lastI_cases ns g with ⟨hL, hl0⟩ | ⟨j, hj, hL, hl0⟩
      · have HR : Hid (Tm.of (lstL ns) xs (.name t.txt) = none) := by unfold Hid Tm.of; rw [← hgd, hl0]
        have HF := Lib.hid (fun w hr => implLast An nn cn ns g w hr HE.out.ln (by omega))
        rw [hL] at HF
        rw [HR.out]
        clear q2 q3 q4 hu hk1 hks h0 hgd hL hl0 HR
        go_enter Tryd.func48, Tryd.ntmps48
        go_wp2_with fail
        refine (HF.out _ HE.out.rn).mono ?_
        rintro e w1 ⟨rfl, hb1⟩
        have HB1 : Hid (Below W.heap.size W w1) := HB0.out.trans (hb1.mono HB0.out.size)
        clear hb1
        go_wp2_with fail
        go_ret2
        exact ⟨rfl, HB1.out⟩
      · have HLT := HE.out.lt
        have HLN := HE.out.ln
        have hjt : j < xs.length := by rw [ints_length] at HLT; omega
        obtain ⟨b, o, rfl, hbb, hc⟩ := HE.out.rt.at_ (i := j) (by rw [ints_length]; exact hjt)
        obtain ⟨x, ex⟩ : ∃ x, x = xs[j] := ⟨_, rfl⟩
        have hc1 : (W.alloc (.cells #[.int .i64 2, .int .i64 n, .string g, .slice A l c] 25)).cell? ⟨b, o + j, none⟩ = some (.int .i64 x) := by rw [hc, ex]; simp [ints]
        have HR : Hid (Tm.of (lstL ns) xs (.name t.txt) = some (clamp x)) := by
          unfold Hid Tm.of; rw [← hgd, hl0, ex]
          simp only [List.getD_eq_getElem?_getD, List.getElem?_eq_getElem hjt, Option.getD_some]
        have HF := Lib.hid (fun w hr => implLast An nn cn ns g w hr HE.out.ln (by omega))
        rw [hL] at HF
        rw [HR.out]
        have HC := Lib.hid (fun w => implCut x w)
        have hj0 : (0 : Int) ≤ (j : Int) := by omega
        have hj1 : (j : Int) < (nn : Int) := by omega
        clear q2 q3 q4 hu hk1 hks h0 hgd hL hl0 HLT HLN hjt hc ex hj HR
        generalize clamp x = cx at *
        go_enter Tryd.func48, Tryd.ntmps48
        go_wp2_with fail
        refine (HF.out _ HE.out.rn).mono ?_
        rintro e w1 ⟨rfl, hb1⟩
        have HB1 : Hid (Below W.heap.size W w1) := HB0.out.trans (hb1.mono HB0.out.size)
        have hc2 := cell_next hc1 hb1
        clear hc1
        clear hb1
        go_wp2_with fail
        refine (HC.out _).mono ?_
        rintro e w2 ⟨rfl, rfl⟩
        go_wp2_with fail
        go_ret2
        exact ⟨rfl, HB1.out⟩
    · rw [hk1] at q1; subst q1
      have HL2 := hks ▸ q4
      have HK2 : Hid (Kids _ (Low _) dd A [x, y]) := hks ▸ HK
      have HG : Hid (g = mkB (opText o)) := by unfold Hid; rw [q3, hs]
      obtain rfl : l = 2 := by simpa using HL2
      obtain ⟨b, o', k1, n1, g1, A1, l1, c1, k2, n2, g2, A2, l2, c2, rfl, hbb, hev1, hev2, e0, e1, e2, e3, f0, f1, f2, f3⟩ := kid2 HK2.out
      have S0 : Hid (TwoS W W.heap.size 3 n g b o' c k1 n1 g1 A1 l1 c1 k2 n2 g2 A2 l2 c2 x y An nn ns At (ints xs) _) := ⟨HA.out, ⟨⟨e0, e1, e2, e3⟩, f0, f1, f2, f3⟩, hev1, hev2, HE.out, HB0.out⟩
      have C1 := Lib.hid (fun W h1 h2 => IH.out k1 n1 g1 A1 l1 c1 x v1 An nn cn ns At ct xs W h1 hx h2)
      have C2 := Lib.hid (fun W h1 h2 => IH.out k2 n2 g2 A2 l2 c2 y v2 An nn cn ns At ct xs W h1 hy h2)
      have bd1 := Lib.hid (fun r h => Tm.of_le (names := lstL ns) (nums := xs) (ofEx_some _ _ _ hx).2.2 (r := r) h)
      have bd2 := Lib.hid (fun r h => Tm.of_le (names := lstL ns) (nums := xs) (ofEx_some _ _ _ hy).2.2 (r := r) h)
      rw [of_two]
      clear IH HK HK2 HL2 hev1 hev2 hu h0 hks hx hy hs q2 q3 q4 hk1 HA HE HB0 hbb e0 e1 e2 e3 f0 f1 f2 f3
      generalize v1.of (lstL ns) xs = r1 at *
      generalize v2.of (lstL ns) xs = r2 at *
      cases r1 with
      | none =>
        change Calls _ _ _ W (OfR none W)
        cases r2 with
        | none =>
          clear bd1 bd2
          go_enter Tryd.func48, Tryd.ntmps48
          go_upto_region 11 with (fail)
          generalize W.alloc (.cells #[.int .i64 3, .int .i64 n, .string g, .slice (some ⟨b, o', none⟩) 2 c] 25) = w0 at *
          have a3 := S0.out.box.2.2.2
          obtain ⟨e0, e1, e2, e3⟩ := S0.out.cs.1
          go_wp2_with fail
          refine (C1.out _ S0.out.v1 S0.out.en).mono ?_
          rintro e w1 ⟨he, hb1⟩
          change e = .returned (.tuple #[.int .i64 0, .bool false]) at he
          subst he
          have S1 := Lib.hid (S0.out.next hb1)
          clear hb1 a3 e0 e1 e2 e3
          have a3 := S1.out.box.2.2.2
          obtain ⟨e0, e1, e2, e3⟩ := S1.out.cs.2
          go_wp2_with fail
          refine (C2.out _ S1.out.v2 S1.out.en).mono ?_
          rintro e w2 ⟨he, hb2⟩
          change e = .returned (.tuple #[.int .i64 0, .bool false]) at he
          subst he
          have S2 := Lib.hid (S1.out.next hb2)
          have HB2 := Lib.hid S2.out.be
          clear hb2 a3 e0 e1 e2 e3
          go_wp2_with fail
          go_ret2
          exact ⟨rfl, HB2.out⟩
        | some a2 =>
          clear bd1 bd2
          go_enter Tryd.func48, Tryd.ntmps48
          go_upto_region 11 with (fail)
          generalize W.alloc (.cells #[.int .i64 3, .int .i64 n, .string g, .slice (some ⟨b, o', none⟩) 2 c] 25) = w0 at *
          have a3 := S0.out.box.2.2.2
          obtain ⟨e0, e1, e2, e3⟩ := S0.out.cs.1
          go_wp2_with fail
          refine (C1.out _ S0.out.v1 S0.out.en).mono ?_
          rintro e w1 ⟨he, hb1⟩
          change e = .returned (.tuple #[.int .i64 0, .bool false]) at he
          subst he
          have S1 := Lib.hid (S0.out.next hb1)
          clear hb1 a3 e0 e1 e2 e3
          have a3 := S1.out.box.2.2.2
          obtain ⟨e0, e1, e2, e3⟩ := S1.out.cs.2
          go_wp2_with fail
          refine (C2.out _ S1.out.v2 S1.out.en).mono ?_
          rintro e w2 ⟨he, hb2⟩
          change e = .returned (.tuple #[.int .i64 a2, .bool true]) at he
          subst he
          have S2 := Lib.hid (S1.out.next hb2)
          have HB2 := Lib.hid S2.out.be
          clear hb2 a3 e0 e1 e2 e3
          go_wp2_with fail
          go_ret2
          exact ⟨rfl, HB2.out⟩
      | some a1 =>
        cases r2 with
        | none =>
          change Calls _ _ _ W (OfR none W)
          clear bd1 bd2
          go_enter Tryd.func48, Tryd.ntmps48
          go_upto_region 11 with (fail)
          generalize W.alloc (.cells #[.int .i64 3, .int .i64 n, .string g, .slice (some ⟨b, o', none⟩) 2 c] 25) = w0 at *
          have a3 := S0.out.box.2.2.2
          obtain ⟨e0, e1, e2, e3⟩ := S0.out.cs.1
          go_wp2_with fail
          refine (C1.out _ S0.out.v1 S0.out.en).mono ?_
          rintro e w1 ⟨he, hb1⟩
          change e = .returned (.tuple #[.int .i64 a1, .bool true]) at he
          subst he
          have S1 := Lib.hid (S0.out.next hb1)
          clear hb1 a3 e0 e1 e2 e3
          have a3 := S1.out.box.2.2.2
          obtain ⟨e0, e1, e2, e3⟩ := S1.out.cs.2
          go_wp2_with fail
          refine (C2.out _ S1.out.v2 S1.out.en).mono ?_
          rintro e w2 ⟨he, hb2⟩
          change e = .returned (.tuple #[.int .i64 0, .bool false]) at he
          subst he
          have S2 := Lib.hid (S1.out.next hb2)
          have HB2 := Lib.hid S2.out.be
          clear hb2 a3 e0 e1 e2 e3
          go_wp2_with fail
          go_ret2
          exact ⟨rfl, HB2.out⟩
        | some a2 =>
          change Calls _ _ _ W (OfR (some (twoV o a1 a2)) W)
          obtain ⟨p1, p2⟩ := bd1.out a1 rfl
          obtain ⟨p3, p4⟩ := bd2.out a2 rfl
          clear bd1 bd2
          obtain ⟨u1, u2, u3, u4⟩ := ops_is o
          rw [← HG.out] at u1 u2 u3 u4
          clear u4 HG
          cases o with
          | add =>
            simp only [decide_true, reduceCtorEq, decide_false] at u1 u2 u3
            have HC := Lib.hid (fun w => implCut (a1 + a2) w)
            change Calls _ _ _ W (OfR (some (clamp (a1 + a2))) W)
            go_enter Tryd.func48, Tryd.ntmps48
            go_upto_region 11 with (fail)
            generalize W.alloc (.cells #[.int .i64 3, .int .i64 n, .string g, .slice (some ⟨b, o', none⟩) 2 c] 25) = w0 at *
            have a3 := S0.out.box.2.2.2
            obtain ⟨e0, e1, e2, e3⟩ := S0.out.cs.1
            go_wp2_with fail
            refine (C1.out _ S0.out.v1 S0.out.en).mono ?_
            rintro e w1 ⟨he, hb1⟩
            change e = .returned (.tuple #[.int .i64 a1, .bool true]) at he
            subst he
            have S1 := Lib.hid (S0.out.next hb1)
            clear hb1 a3 e0 e1 e2 e3
            have a3 := S1.out.box.2.2.2
            obtain ⟨e0, e1, e2, e3⟩ := S1.out.cs.2
            go_wp2_with fail
            refine (C2.out _ S1.out.v2 S1.out.en).mono ?_
            rintro e w2 ⟨he, hb2⟩
            change e = .returned (.tuple #[.int .i64 a2, .bool true]) at he
            subst he
            have S2 := Lib.hid (S1.out.next hb2)
            have HB2 := Lib.hid S2.out.be
            clear hb2 a3 e0 e1 e2 e3
            have a2' := S2.out.box.2.2.1
            go_wp2_with fail
            refine (HC.out _).mono ?_
            rintro e w3 ⟨rfl, rfl⟩
            go_wp2_with fail
            go_ret2
            exact ⟨rfl, HB2.out⟩
          | sub =>
            simp only [decide_true, reduceCtorEq, decide_false] at u1 u2 u3
            have HC := Lib.hid (fun w => implCut (a1 - a2) w)
            change Calls _ _ _ W (OfR (some (clamp (a1 - a2))) W)
            go_enter Tryd.func48, Tryd.ntmps48
            go_upto_region 11 with (fail)
            generalize W.alloc (.cells #[.int .i64 3, .int .i64 n, .string g, .slice (some ⟨b, o', none⟩) 2 c] 25) = w0 at *
            have a3 := S0.out.box.2.2.2
            obtain ⟨e0, e1, e2, e3⟩ := S0.out.cs.1
            go_wp2_with fail
            refine (C1.out _ S0.out.v1 S0.out.en).mono ?_
            rintro e w1 ⟨he, hb1⟩
            change e = .returned (.tuple #[.int .i64 a1, .bool true]) at he
            subst he
            have S1 := Lib.hid (S0.out.next hb1)
            clear hb1 a3 e0 e1 e2 e3
            have a3 := S1.out.box.2.2.2
            obtain ⟨e0, e1, e2, e3⟩ := S1.out.cs.2
            go_wp2_with fail
            refine (C2.out _ S1.out.v2 S1.out.en).mono ?_
            rintro e w2 ⟨he, hb2⟩
            change e = .returned (.tuple #[.int .i64 a2, .bool true]) at he
            subst he
            have S2 := Lib.hid (S1.out.next hb2)
            have HB2 := Lib.hid S2.out.be
            clear hb2 a3 e0 e1 e2 e3
            have a2' := S2.out.box.2.2.1
            go_wp2_with fail
            refine (HC.out _).mono ?_
            rintro e w3 ⟨rfl, rfl⟩
            go_wp2_with fail
            go_ret2
            exact ⟨rfl, HB2.out⟩
          | mul =>
            simp only [decide_true, reduceCtorEq, decide_false] at u1 u2 u3
            obtain ⟨m1, m2⟩ := mul_bound ⟨p1, p2⟩ ⟨p3, p4⟩
            have HC := Lib.hid (fun w => implCut (a1 * a2) w)
            change Calls _ _ _ W (OfR (some (clamp (a1 * a2))) W)
            go_enter Tryd.func48, Tryd.ntmps48
            go_upto_region 11 with (fail)
            generalize W.alloc (.cells #[.int .i64 3, .int .i64 n, .string g, .slice (some ⟨b, o', none⟩) 2 c] 25) = w0 at *
            have a3 := S0.out.box.2.2.2
            obtain ⟨e0, e1, e2, e3⟩ := S0.out.cs.1
            go_wp2_with fail
            refine (C1.out _ S0.out.v1 S0.out.en).mono ?_
            rintro e w1 ⟨he, hb1⟩
            change e = .returned (.tuple #[.int .i64 a1, .bool true]) at he
            subst he
            have S1 := Lib.hid (S0.out.next hb1)
            clear hb1 a3 e0 e1 e2 e3
            have a3 := S1.out.box.2.2.2
            obtain ⟨e0, e1, e2, e3⟩ := S1.out.cs.2
            go_wp2_with fail
            refine (C2.out _ S1.out.v2 S1.out.en).mono ?_
            rintro e w2 ⟨he, hb2⟩
            change e = .returned (.tuple #[.int .i64 a2, .bool true]) at he
            subst he
            have S2 := Lib.hid (S1.out.next hb2)
            have HB2 := Lib.hid S2.out.be
            clear hb2 a3 e0 e1 e2 e3
            have a2' := S2.out.box.2.2.1
            go_wp2_with fail
            refine (HC.out _).mono ?_
            rintro e w3 ⟨rfl, rfl⟩
            go_wp2_with fail
            go_ret2
            exact ⟨rfl, HB2.out⟩
          | lt =>
            simp only [decide_true, reduceCtorEq, decide_false] at u1 u2 u3
            by_cases hlt : a1 < a2
            · have HV : twoV .lt a1 a2 = 1 := by unfold twoV; simp [hlt]
              rw [HV]
              clear HV
              go_enter Tryd.func48, Tryd.ntmps48
              go_upto_region 11 with (fail)
              generalize W.alloc (.cells #[.int .i64 3, .int .i64 n, .string g, .slice (some ⟨b, o', none⟩) 2 c] 25) = w0 at *
              have a3 := S0.out.box.2.2.2
              obtain ⟨e0, e1, e2, e3⟩ := S0.out.cs.1
              go_wp2_with fail
              refine (C1.out _ S0.out.v1 S0.out.en).mono ?_
              rintro e w1 ⟨he, hb1⟩
              change e = .returned (.tuple #[.int .i64 a1, .bool true]) at he
              subst he
              have S1 := Lib.hid (S0.out.next hb1)
              clear hb1 a3 e0 e1 e2 e3
              have a3 := S1.out.box.2.2.2
              obtain ⟨e0, e1, e2, e3⟩ := S1.out.cs.2
              go_wp2_with fail
              refine (C2.out _ S1.out.v2 S1.out.en).mono ?_
              rintro e w2 ⟨he, hb2⟩
              change e = .returned (.tuple #[.int .i64 a2, .bool true]) at he
              subst he
              have S2 := Lib.hid (S1.out.next hb2)
              have HB2 := Lib.hid S2.out.be
              clear hb2 a3 e0 e1 e2 e3
              have a2' := S2.out.box.2.2.1
              go_wp2_with fail
              go_ret2
              exact ⟨rfl, HB2.out⟩
            · have HV : twoV .lt a1 a2 = 0 := by unfold twoV; simp [hlt]
              rw [HV]
              clear HV
              go_enter Tryd.func48, Tryd.ntmps48
              go_upto_region 11 with (fail)
              generalize W.alloc (.cells #[.int .i64 3, .int .i64 n, .string g, .slice (some ⟨b, o', none⟩) 2 c] 25) = w0 at *
              have a3 := S0.out.box.2.2.2
              obtain ⟨e0, e1, e2, e3⟩ := S0.out.cs.1
              go_wp2_with fail
              refine (C1.out _ S0.out.v1 S0.out.en).mono ?_
              rintro e w1 ⟨he, hb1⟩
              change e = .returned (.tuple #[.int .i64 a1, .bool true]) at he
              subst he
              have S1 := Lib.hid (S0.out.next hb1)
              clear hb1 a3 e0 e1 e2 e3
              have a3 := S1.out.box.2.2.2
              obtain ⟨e0, e1, e2, e3⟩ := S1.out.cs.2
              go_wp2_with fail
              refine (C2.out _ S1.out.v2 S1.out.en).mono ?_
              rintro e w2 ⟨he, hb2⟩
              change e = .returned (.tuple #[.int .i64 a2, .bool true]) at he
              subst he
              have S2 := Lib.hid (S1.out.next hb2)
              have HB2 := Lib.hid S2.out.be
              clear hb2 a3 e0 e1 e2 e3
              have a2' := S2.out.box.2.2.1
              go_wp2_with fail
              go_ret2
              exact ⟨rfl, HB2.out⟩
    · rw [hk1] at q1; subst q1
      have HL2 := hks ▸ q4
      have HK2 : Hid (Kids _ (Low _) dd A [x]) := hks ▸ HK
      obtain rfl : l = 1 := by simpa using HL2
      obtain ⟨b', o', k1, n1, g1, A1, l1, c1, rfl, hbb, hev1, e0, e1, e2, e3⟩ := kid1 HK2.out
      have S0 : Hid (OneS W W.heap.size 4 n g b' o' c k1 n1 g1 A1 l1 c1 x An nn ns At (ints xs) _) := ⟨HA.out, ⟨e0, e1, e2, e3⟩, hev1, HE.out, HB0.out⟩
      have C1 := Lib.hid (fun W h1 h2 => IH.out k1 n1 g1 A1 l1 c1 x v An nn cn ns At ct xs W h1 hx h2)
      rw [show Tm.of (lstL ns) xs (.cast b v) = v.of (lstL ns) xs by rfl]
      clear IH HK HK2 HL2 hev1 hu h0 hks hx hs q2 q3 q4 hk1 HA HE HB0 hbb e0 e1 e2 e3
      generalize v.of (lstL ns) xs = r1 at *
      go_enter Tryd.func48, Tryd.ntmps48
      go_upto_region 10 with (fail)
      generalize W.alloc (.cells #[.int .i64 4, .int .i64 n, .string g, .slice (some ⟨b', o', none⟩) 1 c] 25) = w0 at *
      have a3 := S0.out.box.2.2.2
      obtain ⟨e0, e1, e2, e3⟩ := S0.out.cs
      go_wp2_with fail
      refine (C1.out _ S0.out.v1 S0.out.en).mono ?_
      rintro e w1 ⟨rfl, hb1⟩
      have HB1 := Lib.hid (S0.out.next hb1).be
      clear hb1 a3 e0 e1 e2 e3
      go_wp2_with fail
      go_ret2
      exact ⟨rfl, HB1.out⟩
end Go.Proofs.YtfjmjlpobbjjdaaDoor

namespace Go.Proofs.YtfjmjlpobbjjdaaDoor
open Go.RowKit Ilp
set_option linter.unusedVariables false

theorem ofE_none {ns : List ByteArray} {xs : List Int} {t : Ex} (h : exprOk t = false) : ofE (lstL ns) xs t = none := by unfold ofE; rw [exOk_none h]
theorem ofE_len {ns : List ByteArray} {xs : List Int} {t : Ex} (h : ns.length ≠ xs.length) : ofE (lstL ns) xs t = none := by
  unfold ofE
  split
  · rw [if_neg]; rw [lstL_length]; exact h
  · rfl
theorem ofE_some {ns : List ByteArray} {xs : List Int} {t : Ex} {u : Tm} (hu : exTm t = some u) (hl : ns.length = xs.length) : ofE (lstL ns) xs t = u.of (lstL ns) xs := by
  unfold ofE
  rw [hu]; simp only
  rw [if_pos]; rw [lstL_length]; exact hl

set_option maxHeartbeats 4000000 in
set_option maxRecDepth 20000 in
theorem specExprOf (k n : Int) (g : ByteArray) (A : Option Addr) (l c : Nat) (t : Ex) (An : Option Addr) (nn cn : Nat) (ns : List ByteArray) (At : Option Addr) (mt ct : Nat) (xs : List Int) (W : World)
    (h : IsEV W [.int .i64 k, .int .i64 n, .string g, .slice A l c] t) (hw : wgt t ≤ 1048576) (hn : Row W W.heap.size An (strB ns)) (ht : Row W W.heap.size At (ints xs)) (ln : Hid (ns.length = nn)) (lt : Hid (xs.length = mt)) (hnn : (nn : Int) ≤ 1048576) (hmt : (mt : Int) ≤ 1048576) :
    Calls Tryd.prog 16 #[.agg #[.int .i64 k, .int .i64 n, .string g, .slice A l c], .slice An nn cn, .slice At mt ct] W (OfR (ofE (lstL ns) xs t) W) := by
  have S0 := Lib.hid (boxS_start h hn ht)
  have HO := Lib.hid (fun w h => specExprOk k n g A l c t w h hw)
  clear h hn ht
  cases hok : exprOk t with
  | false =>
    rw [ofE_none hok]
    rw [hok] at HO
    go_enter Tryd.func16, Tryd.ntmps16
    go_upto_region 1 with (fail)
    generalize W.alloc (.cells #[.int .i64 k, .int .i64 n, .string g, .slice A l c] 25) = w0 at *
    obtain ⟨a0, a1, a2, a3⟩ := blkE_cells S0.out.ba
    go_wp2_with fail
    refine (HO.out w0 S0.out.ka).mono ?_
    rintro e w1 ⟨rfl, hb1⟩
    have S1 := Lib.hid (S0.out.next hb1)
    have HB1 := Lib.hid S1.out.be
    clear hb1 a0 a1 a2 a3
    go_wp2_with fail
    go_ret2
    exact ⟨rfl, HB1.out⟩
  | true =>
    obtain ⟨u, hu, hu5⟩ := exOk_some hok
    rw [hok] at HO
    by_cases hnm : nn = mt
    · subst hnm
      have TY := Lib.hid (fun W h1 h2 => specOf 5 k n g A l c t u An nn cn ns At ct xs W h1 hu5 h2)
      rw [ofE_some hu (by have := ln.out; have := lt.out; omega)]
      clear hok
      generalize u.of (lstL ns) xs = R at *
      go_enter Tryd.func16, Tryd.ntmps16
      go_upto_region 1 with (fail)
      generalize W.alloc (.cells #[.int .i64 k, .int .i64 n, .string g, .slice A l c] 25) = w0 at *
      obtain ⟨a0, a1, a2, a3⟩ := blkE_cells S0.out.ba
      go_wp2_with fail
      refine (HO.out w0 S0.out.ka).mono ?_
      rintro e w1 ⟨rfl, hb1⟩
      have S1 := Lib.hid (S0.out.next hb1)
      have HB1 := Lib.hid S1.out.be
      clear hb1 a0 a1 a2 a3
      obtain ⟨a0, a1, a2, a3⟩ := blkE_cells S1.out.ba
      go_wp2_with fail
      refine (TY.out w1 S1.out.ka ⟨S1.out.rn, S1.out.rt, ln.out, by rw [ints_length]; exact lt.out, hnn⟩).mono ?_
      rintro e w2 ⟨rfl, hb2⟩
      have HB2 := Lib.hid (S1.out.next hb2).be
      clear hb2 a0 a1 a2 a3
      go_wp2_with fail
      go_ret2
      exact ⟨rfl, HB2.out⟩
    · rw [ofE_len (by have := ln.out; have := lt.out; omega)]
      have hnm2 : ((nn : Int) != (mt : Int)) = true := by rw [bne_iff_ne]; omega
      clear hnm hok
      go_enter Tryd.func16, Tryd.ntmps16
      go_upto_region 1 with (fail)
      generalize W.alloc (.cells #[.int .i64 k, .int .i64 n, .string g, .slice A l c] 25) = w0 at *
      obtain ⟨a0, a1, a2, a3⟩ := blkE_cells S0.out.ba
      go_wp2_with fail
      refine (HO.out w0 S0.out.ka).mono ?_
      rintro e w1 ⟨rfl, hb1⟩
      have S1 := Lib.hid (S0.out.next hb1)
      have HB1 := Lib.hid S1.out.be
      clear hb1 a0 a1 a2 a3
      go_wp2_with fail
      go_ret2
      exact ⟨rfl, HB1.out⟩

set_option maxHeartbeats 4000000 in
set_option maxRecDepth 20000 in
theorem implExprOf (k n : Int) (g : ByteArray) (A : Option Addr) (l c : Nat) (t : Ex) (An : Option Addr) (nn cn : Nat) (ns : List ByteArray) (At : Option Addr) (mt ct : Nat) (xs : List Int) (W : World)
    (h : IsEV W [.int .i64 k, .int .i64 n, .string g, .slice A l c] t) (hw : wgt t ≤ 1048576) (hn : Row W W.heap.size An (strB ns)) (ht : Row W W.heap.size At (ints xs)) (ln : Hid (ns.length = nn)) (lt : Hid (xs.length = mt)) (hnn : (nn : Int) ≤ 1048576) (hmt : (mt : Int) ≤ 1048576) (hT : Tabs W) :
    Calls Tryd.prog 15 #[.agg #[.int .i64 k, .int .i64 n, .string g, .slice A l c], .slice An nn cn, .slice At mt ct] W (OfR (ofE (lstL ns) xs t) W) := by
  have S0 := Lib.hid (boxS_start h hn ht)
  have HO := Lib.hid (fun w h hT => implExprOk k n g A l c t w h hw hT)
  have HT := Lib.hid hT
  clear h hn ht hT
  cases hok : exprOk t with
  | false =>
    rw [ofE_none hok]
    rw [hok] at HO
    go_enter Tryd.func15, Tryd.ntmps15
    go_upto_region 1 with (fail)
    generalize W.alloc (.cells #[.int .i64 k, .int .i64 n, .string g, .slice A l c] 25) = w0 at *
    obtain ⟨a0, a1, a2, a3⟩ := blkE_cells S0.out.ba
    go_wp2_with fail
    refine (HO.out w0 S0.out.ka (HT.out.keep S0.out.be)).mono ?_
    rintro e w1 ⟨rfl, hb1⟩
    have S1 := Lib.hid (S0.out.next hb1)
    have HB1 := Lib.hid S1.out.be
    clear hb1 a0 a1 a2 a3
    go_wp2_with fail
    go_ret2
    exact ⟨rfl, HB1.out⟩
  | true =>
    obtain ⟨u, hu, hu5⟩ := exOk_some hok
    rw [hok] at HO
    by_cases hnm : nn = mt
    · subst hnm
      have TY := Lib.hid (fun W h1 h2 => implOf 5 k n g A l c t u An nn cn ns At ct xs W h1 hu5 h2)
      rw [ofE_some hu (by have := ln.out; have := lt.out; omega)]
      clear hok
      generalize u.of (lstL ns) xs = R at *
      go_enter Tryd.func15, Tryd.ntmps15
      go_upto_region 1 with (fail)
      generalize W.alloc (.cells #[.int .i64 k, .int .i64 n, .string g, .slice A l c] 25) = w0 at *
      obtain ⟨a0, a1, a2, a3⟩ := blkE_cells S0.out.ba
      go_wp2_with fail
      refine (HO.out w0 S0.out.ka (HT.out.keep S0.out.be)).mono ?_
      rintro e w1 ⟨rfl, hb1⟩
      have S1 := Lib.hid (S0.out.next hb1)
      have HB1 := Lib.hid S1.out.be
      clear hb1 a0 a1 a2 a3
      obtain ⟨a0, a1, a2, a3⟩ := blkE_cells S1.out.ba
      go_wp2_with fail
      refine (TY.out w1 S1.out.ka ⟨S1.out.rn, S1.out.rt, ln.out, by rw [ints_length]; exact lt.out, hnn⟩).mono ?_
      rintro e w2 ⟨rfl, hb2⟩
      have HB2 := Lib.hid (S1.out.next hb2).be
      clear hb2 a0 a1 a2 a3
      go_wp2_with fail
      go_ret2
      exact ⟨rfl, HB2.out⟩
    · rw [ofE_len (by have := ln.out; have := lt.out; omega)]
      have hnm2 : ((nn : Int) != (mt : Int)) = true := by rw [bne_iff_ne]; omega
      clear hnm hok
      go_enter Tryd.func15, Tryd.ntmps15
      go_upto_region 1 with (fail)
      generalize W.alloc (.cells #[.int .i64 k, .int .i64 n, .string g, .slice A l c] 25) = w0 at *
      obtain ⟨a0, a1, a2, a3⟩ := blkE_cells S0.out.ba
      go_wp2_with fail
      refine (HO.out w0 S0.out.ka (HT.out.keep S0.out.be)).mono ?_
      rintro e w1 ⟨rfl, hb1⟩
      have S1 := Lib.hid (S0.out.next hb1)
      have HB1 := Lib.hid S1.out.be
      clear hb1 a0 a1 a2 a3
      go_wp2_with fail
      go_ret2
      exact ⟨rfl, HB1.out⟩
end Go.Proofs.YtfjmjlpobbjjdaaDoor
