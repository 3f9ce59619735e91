/- Walks of the reference: the words (l4Words). -/
import Derived.Test.YtfjmjlpobbjjdaaDoorCh
import Derived.Test.YtfjmjlpobbjjdaaDoorWdB
import Derived.Test.YtfjmjlpobbjjdaaDoorP4d
namespace Go.Proofs.YtfjmjlpobbjjdaaDoor
open Go.RowKit Ilp
set_option linter.unusedVariables false
set_option linter.unusedSimpArgs false

/-- Words, as they lie in memory. -/
def wsB (ws : List (List UInt8)) : List Value := strB (ws.map mkB)
theorem wsB_one {ws : List (List UInt8)} : ∀ u ∈ wsB ws, u.oneCell' = true := by
  intro u hu; unfold wsB strB at hu; obtain ⟨x, _, rfl⟩ := List.mem_map.1 hu; rfl
theorem wsB_app (a b : List (List UInt8)) : wsB (a ++ b) = wsB a ++ wsB b := by simp [wsB, strB]
theorem wsB_cons (a : List UInt8) (b : List (List UInt8)) : wsB (a :: b) = .string (mkB a) :: wsB b := by simp [wsB, strB]
theorem wsB_nil : wsB [] = [] := rfl
theorem wsB_len (a : List (List UInt8)) : (wsB a).length = a.length := by simp [wsB, strB]
theorem grown_drew {w0 w : World} {r : Option Nat} (h : w0.grownBy w r) : w0.grownBy w.drew r := ⟨h.os, h.tape, h.output, h.size, h.block⟩
/-- Words in memory of the call's own. -/
def WordsR (ws : List (List UInt8)) (W : World) (e : Ending) (w' : World) : Prop := ∃ v, e = .returned v ∧ w'.ownsRow W.heap.size 9 1 v ws.length (wsB ws) ∧ Below W.heap.size W w'
theorem wordsR_put {ws : List (List UInt8)} {W w0 w3 : World} {v : Value} {n : Nat} {zs : List Value} {o : Obj} (h0 : w0 = W.alloc o) (ho : w3.ownsRow w0.heap.size 9 1 v n zs) (hg : w0.grownBy w3 none) (hn : n = ws.length) (hz : zs = wsB ws) : WordsR ws W (.returned v) w3 := by
  subst h0 hn hz
  exact ⟨v, rfl, ho.mono (by simp), ((Below.refl _ _).alloc (Nat.le_refl _) _ : Below W.heap.size W (W.alloc o)).trans ((below_of hg).mono (by simp))⟩
def raAct (g f : Nat → Value) : Act := { tmps := #[g 0, g 1, g 2, g 3, g 4, f 20, g 6, g 7, g 8, g 9, g 10, g 11, g 12, g 13, g 14, g 15, g 16, g 17, g 18, g 19, g 20, g 21, g 22, g 23, g 24, g 25, g 26, g 27, g 28, g 29, g 30, g 31, g 32, g 33, g 34, g 35, g 36, g 37, g 38, g 39, g 40, g 41, g 42, g 43, f 0, f 1, f 2, f 3, f 4, f 5, f 6, f 7, f 8, f 9, f 10, f 11, f 12, f 13, f 14, f 15, f 16, f 17, f 18, f 19, g 64, g 65, g 66, g 67, g 68, g 69, g 70, g 71, g 72], defers := [] }
def raS : Nat → Nat
  | 0 => 44
  | 1 => 45
  | 2 => 46
  | 3 => 47
  | 4 => 48
  | 5 => 49
  | 6 => 50
  | 7 => 51
  | 8 => 52
  | 9 => 53
  | 10 => 54
  | 11 => 55
  | 12 => 56
  | 13 => 57
  | 14 => 58
  | 15 => 59
  | 16 => 60
  | 17 => 61
  | 18 => 62
  | 19 => 63
  | 20 => 5
  | _ => 0
def raR : List Nat := [0, 6, 7, 10, 11, 18, 19, 20]
def raU : Nat → Nat
  | 0 => 7
  | 6 => 7
  | 7 => 11
  | 10 => 11
  | 11 => 19
  | 18 => 19
  | 19 => 20
  | _ => 1000
def raL (n1 n2 : Nat) : Nat → Nat
  | 0 => 0
  | 6 => n1
  | 7 => 0 + n1
  | 10 => 1
  | 11 => 0 + n1 + 1
  | 18 => n2
  | 19 => 0 + n1 + 1 + n2
  | 20 => 0 + n1 + 1 + n2
  | _ => 0
def raX (g : ByteArray) (z1 z2 : List Value) : Nat → List Value
  | 0 => []
  | 6 => z1
  | 7 => [] ++ z1
  | 10 => [.string g]
  | 11 => ([] ++ z1) ++ [.string g]
  | 18 => z2
  | 19 => (([] ++ z1) ++ [.string g]) ++ z2
  | 20 => (([] ++ z1) ++ [.string g]) ++ z2
  | _ => []
def raC (X b o c : Nat) (g : ByteArray) (K L : Nat) (x1 x2 : Value) : Nat → Value
  | 1 => (.pointer (some ⟨X, 3, none⟩))
  | 2 => (.slice (some ⟨b, o, none⟩) 2 c)
  | 3 => (.pointer (some ⟨b, o, none⟩))
  | 4 => x1
  | 5 => (.int .i64 (L : Int))
  | 8 => (.pointer (some ⟨X, 2, none⟩))
  | 9 => (.string g)
  | 12 => (.pointer (some ⟨X, 3, none⟩))
  | 13 => (.slice (some ⟨b, o, none⟩) 2 c)
  | 14 => (.pointer (some ⟨b, o + 4, none⟩))
  | 15 => x2
  | 16 => (.int .i64 (K : Int))
  | 17 => (.int .i64 ((K : Int) + 1))
  | _ => undef
def rbAct (g f : Nat → Value) : Act := { tmps := #[g 0, g 1, g 2, g 3, g 4, f 11, g 6, g 7, g 8, g 9, g 10, g 11, g 12, f 0, f 1, f 2, f 3, f 4, f 5, f 6, f 7, f 8, f 9, f 10, g 24, g 25, g 26, g 27, g 28, g 29, g 30, g 31, g 32, g 33, g 34, g 35, g 36, g 37, g 38, g 39, g 40, g 41, g 42, g 43, g 44, g 45, g 46, g 47, g 48, g 49, g 50, g 51, g 52, g 53, g 54, g 55, g 56, g 57, g 58, g 59, g 60, g 61, g 62, g 63, g 64, g 65, g 66, g 67, g 68, g 69, g 70, g 71, g 72], defers := [] }
def rbS : Nat → Nat
  | 0 => 13
  | 1 => 14
  | 2 => 15
  | 3 => 16
  | 4 => 17
  | 5 => 18
  | 6 => 19
  | 7 => 20
  | 8 => 21
  | 9 => 22
  | 10 => 23
  | 11 => 5
  | _ => 0
def rbR : List Nat := [0, 5, 6, 9, 10, 11]
def rbU : Nat → Nat
  | 0 => 6
  | 5 => 6
  | 6 => 10
  | 9 => 10
  | 10 => 11
  | _ => 1000
def rbL (n1 : Nat) : Nat → Nat
  | 0 => 0
  | 5 => n1
  | 6 => 0 + n1
  | 9 => 2
  | 10 => 0 + n1 + 2
  | 11 => 0 + n1 + 2
  | _ => 0
def rbX (g : ByteArray) (z1 : List Value) : Nat → List Value
  | 0 => []
  | 5 => z1
  | 6 => [] ++ z1
  | 9 => [.string ⟨#[97, 115]⟩, .string g]
  | 10 => ([] ++ z1) ++ [.string ⟨#[97, 115]⟩, .string g]
  | 11 => ([] ++ z1) ++ [.string ⟨#[97, 115]⟩, .string g]
  | _ => []
def rbC (X b o c : Nat) (g : ByteArray) (x1 : Value) : Nat → Value
  | 1 => (.pointer (some ⟨X, 3, none⟩))
  | 2 => (.slice (some ⟨b, o, none⟩) 1 c)
  | 3 => (.pointer (some ⟨b, o, none⟩))
  | 4 => x1
  | 7 => (.pointer (some ⟨X, 2, none⟩))
  | 8 => (.string g)
  | _ => undef

def SpW (d : Nat) : Prop := ∀ (k n : Int) (g : ByteArray) (A : Option Addr) (l c : Nat) (t : Ex) (u : Tm) (m : Nat) (V W : World), IsEV V [.int .i64 k, .int .i64 n, .string g, .slice A l c] t → Below V.heap.size V W → ofEx d t = some u → u.size ≤ 100 → m ≤ 4 →
  Calls Tryd.prog 60 #[.agg #[.int .i64 k, .int .i64 n, .string g, .slice A l c], .int .i64 (m : Int)] W (WordsR (u.words m) W)
set_option maxHeartbeats 8000000 in
set_option maxRecDepth 20000 in
theorem specWords (d : Nat) : SpW d := by
  induction d with
  | zero => intro k n g A l c t u m V W h hV hu; cases hu
  | succ d ih =>
    intro k n g A l c t u m V W h hV hu hsz hm
    obtain ⟨is0, his, hs0, hs1, hs2⟩ := info_parts strInfo
    have C0 := Lib.hid (fun W' (hb : Below V.heap.size V W') => specLevel k n g A l c (d + 1) t u W' (h.below hb) hu)
    have TC := Lib.hid (BoxC.made hV k n g A l c)
    obtain ⟨q1, q2, q3, q4, h5, h6, h7, dd, hk⟩ := h.parts
    have IH := Lib.hid ih
    have hm0 : (0 : Int) ≤ (m : Int) := by omega
    have hm4 : (m : Int) ≤ 4 := by omega
    clear h ih h5 h6 h7
    rcases ofEx_cases hu with ⟨hk1, hs, hks, h0, h1, rfl⟩ | ⟨hk1, h0, hks, rfl⟩ | ⟨hk1, h0, x, y, o, v1, v2, hks, hx, hy, rfl, hs⟩ | ⟨hk1, h0, x, bt, v, hks, hx, rfl, hs⟩
    · rw [hk1] at q1; subst q1
      obtain ⟨NN, hN⟩ : ∃ NN : Nat, n = (NN : Int) := ⟨t.num.toNat, by rw [q2]; exact (Int.toNat_of_nonneg h0).symm⟩
      have hN2 : t.num.toNat = NN := by rw [← q2, hN]; simp
      have hNN : (NN : Int) ≤ 1000000 := by rw [← hN, q2]; exact h1
      rw [hN2] at C0 ⊢
      subst hN
      clear q2 q3 q4 hu hk1 hs hks h0 h1 IH hk hsz hN2
      change Hid (∀ W', Below V.heap.size V W' → Calls _ _ _ W' (fun e w' => e = .returned (.int .i64 4) ∧ _)) at C0
      have hk4 : ((4 : Int) < (m : Int)) = False := by simp; omega
      go_enter Tryd.func60, Tryd.ntmps60
      go_upto_region 1 with (fail)
      obtain ⟨w0, hw0⟩ : ∃ w0, w0 = W.alloc (.cells #[.int .i64 1, .int .i64 (NN : Int), .string g, .slice A l c] 25) := ⟨_, rfl⟩
      rw [← hw0] at TC ⊢
      have HW0 := Lib.hid hw0
      obtain ⟨X, hX⟩ : ∃ X, X = W.heap.size := ⟨_, rfl⟩
      rw [← hX] at TC ⊢
      clear hw0 hX
      obtain ⟨a0, a1, a2, a3⟩ := (TC.out.grown (World.grownBy_alloc w0 (.cells #[] 9) none) (by simp) (fun k e => by cases e)).box
      have B0 := Lib.hid (TC.out.bv.alloc TC.out.bv.size (.cells #[] 9))
      go_wp2_with fail
      refine (C0.out _ B0.out).mono ?_
      rintro e w1 ⟨rfl, hb1⟩
      have O1 := Lib.hid (own_behind hb1).1
      have G1 := Lib.hid (own_behind hb1).2
      clear hb1 a0 a1 a2 a3 B0
      obtain ⟨a0, a1, a2, a3⟩ := (TC.out.grown G1.out (by simp) (fun k e => by cases e)).box
      go_wp2_with fail
      refine (specDec NN hNN _).mono ?_
      rintro e w2 ⟨rfl, hb2⟩
      have G2 := Lib.hid (G1.out.andThen (below_grown hb2 none) (fun j e => by cases e))
      have O2 : Hid ((w2.alloc (.cells #[.string (mkB (dec NN))] 9)).ownsRow w0.heap.size 9 1 (.slice (some ⟨w0.heap.size, 0, none⟩) 0 0) 0 []) := (own_apart O1.out (below_grown hb2 none) (fun k _ e => by cases e)).alloc _
      have L2 : Hid ((w2.alloc (.cells #[.string (mkB (dec NN))] 9)).ownsRow w2.heap.size 9 1 (.slice (some ⟨w2.heap.size, 0, none⟩) 1 1) 1 [.string (mkB (dec NN))]) := World.ownsRow_lit w2 #[.string (mkB (dec NN))] 1 (Nat.le_refl _) (by unfold maxLen; omega) rfl
      clear hb2 a0 a1 a2 a3
      go_wp2_with (at_builtin; refine wpList_append_rows rfl _ _ 26 rfl w0.heap.size _ 9 is0 (.string ByteArray.empty) 1 16 Tryd.underlying26 his hs0 hs1 hs2 rfl (by decide) _ _ _ rfl O2.out _ _ _ rfl L2.out ?c0 ?c1 ?c3 (by decide) ?c5 ?_)
      case c0 => decide
      case c1 => intro u hu; simp at hu; subst hu; rfl
      case c3 => decide
      case c5 => exact Nat.le_trans G2.out.size (by simp)
      intro v' w3 hown hgrow _
      have R : Hid (WordsR (Tm.words m (.num NN)) W (.returned v') w3) := wordsR_put HW0.out hown ((G2.out.trans (World.grownBy_alloc w2 _ none)).andThen hgrow (fun j hj => .inl (O2.out.lt j hj).1)) rfl rfl
      clear hown hgrow
      go_wp2_with fail
      go_ret
      exact R.out
    · rw [hk1] at q1; subst q1
      have hg : g = mkB t.txt := q3
      clear q2 q3 q4 hu hk1 hks h0 IH hk hsz
      change Hid (∀ W', Below V.heap.size V W' → Calls _ _ _ W' (fun e w' => e = .returned (.int .i64 4) ∧ _)) at C0
      have hk4 : ((4 : Int) < (m : Int)) = False := by simp; omega
      have HG := Lib.hid hg
      clear hg
      go_enter Tryd.func60, Tryd.ntmps60
      go_upto_region 1 with (fail)
      obtain ⟨w0, hw0⟩ : ∃ w0, w0 = W.alloc (.cells #[.int .i64 2, .int .i64 n, .string g, .slice A l c] 25) := ⟨_, rfl⟩
      rw [← hw0] at TC ⊢
      have HW0 := Lib.hid hw0
      obtain ⟨X, hX⟩ : ∃ X, X = W.heap.size := ⟨_, rfl⟩
      rw [← hX] at TC ⊢
      clear hw0 hX
      obtain ⟨a0, a1, a2, a3⟩ := (TC.out.grown (World.grownBy_alloc w0 (.cells #[] 9) none) (by simp) (fun k e => by cases e)).box
      have B0 := Lib.hid (TC.out.bv.alloc TC.out.bv.size (.cells #[] 9))
      go_wp2_with fail
      refine (C0.out _ B0.out).mono ?_
      rintro e w1 ⟨rfl, hb1⟩
      have O1 := Lib.hid (own_behind hb1).1
      have G1 := Lib.hid (own_behind hb1).2
      clear hb1 a0 a1 a2 a3 B0
      obtain ⟨a0, a1, a2, a3⟩ := (TC.out.grown G1.out (by simp) (fun k e => by cases e)).box
      have O2 : Hid ((w1.alloc (.cells #[.string g] 9)).ownsRow w0.heap.size 9 1 (.slice (some ⟨w0.heap.size, 0, none⟩) 0 0) 0 []) := O1.out.alloc _
      have L2 : Hid ((w1.alloc (.cells #[.string g] 9)).ownsRow w1.heap.size 9 1 (.slice (some ⟨w1.heap.size, 0, none⟩) 1 1) 1 [.string g]) := World.ownsRow_lit w1 #[.string g] 1 (Nat.le_refl _) (by unfold maxLen; omega) rfl
      go_wp2_with (at_builtin; refine wpList_append_rows rfl _ _ 26 rfl w0.heap.size _ 9 is0 (.string ByteArray.empty) 1 16 Tryd.underlying26 his hs0 hs1 hs2 rfl (by decide) _ _ _ rfl O2.out _ _ _ rfl L2.out ?c0 ?c1 ?c3 (by decide) ?c5 ?_)
      case c0 => decide
      case c1 => intro u hu; simp at hu; subst hu; rfl
      case c3 => decide
      case c5 => exact Nat.le_trans G1.out.size (by simp)
      intro v' w3 hown hgrow _
      have R : Hid (WordsR (Tm.words m (.name t.txt)) W (.returned v') w3) := wordsR_put HW0.out hown ((G1.out.trans (World.grownBy_alloc w1 _ none)).andThen hgrow (fun j hj => .inl (O2.out.lt j hj).1)) rfl (by rw [HG.out]; rfl)
      clear hown hgrow a0 a1 a2 a3
      go_wp2_with fail
      go_ret
      exact R.out
    · rw [hk1] at q1; subst q1
      have HL2 := hks ▸ q4
      have HK2 : Hid (Kids _ (Low _) dd A [x, y]) := Lib.hid (hks ▸ hk)
      obtain rfl : l = 2 := by simpa using HL2
      obtain ⟨b, o', k1, n1, g1, A1, l1, c1, k2, n2, g2, A2, l2, c2, rfl, hbb, hev1, hev2, e0, e1, e2, e3, f0, f1, f2, f3⟩ := kid2 HK2.out
      have CE : Hid (Cel b o' k1 n1 g1 A1 l1 c1 V) := ⟨e0, e1, e2, e3⟩
      have CF : Hid (Cel b (o' + 4) k2 n2 g2 A2 l2 c2 V) := ⟨f0, f1, f2, f3⟩
      have hsz' : 1 + v1.size + v2.size ≤ 100 := hsz
      obtain ⟨hlo, hhi⟩ := lev_pos o
      have C1 := Lib.hid (fun W' (hb : Below V.heap.size V W') => IH.out k1 n1 g1 A1 l1 c1 x v1 (max 2 (lev o)) V W' hev1 hb hx (by omega) (by omega))
      have C2 := Lib.hid (fun W' (hb : Below V.heap.size V W') => IH.out k2 n2 g2 A2 l2 c2 y v2 (lev o + 1) V W' hev2 hb hy (by omega) (by omega))
      have hg : g = mkB (opText o) := by rw [q3, hs]
      have HG := Lib.hid hg
      have wl1 := words_len v1 (max 2 (lev o))
      have wl2 := words_len v2 (lev o + 1)
      have hp1 : 0 < (v1.words (max 2 (lev o))).length := List.length_pos_iff.2 (words_ne _ _)
      have hp2 : 0 < (v2.words (lev o + 1)).length := List.length_pos_iff.2 (words_ne _ _)
      change Hid (∀ W', Below V.heap.size V W' → Calls _ _ _ W' (fun e w' => e = .returned (.int .i64 (lev o : Int)) ∧ _)) at C0
      have HWD : Hid (Tm.words m (.two o v1 v2) = brk (decide (lev o < m)) (v1.words (max 2 (lev o)) ++ opText o :: v2.words (lev o + 1))) := rfl
      obtain ⟨K, hK⟩ : ∃ K, K = lev o := ⟨_, rfl⟩
      rw [← hK] at C0 C1 C2 wl1 wl2 hp1 hp2 HWD hlo hhi
      obtain ⟨ws1, hw1⟩ : ∃ ws, ws = v1.words (max 2 K) := ⟨_, rfl⟩
      obtain ⟨ws2, hw2⟩ : ∃ ws, ws = v2.words (K + 1) := ⟨_, rfl⟩
      rw [← hw1] at C1 wl1 hp1 HWD
      rw [← hw2] at C2 wl2 hp2 HWD
      obtain ⟨L, hL⟩ : ∃ L, L = max 2 K := ⟨_, rfl⟩
      rw [← hL] at C1
      obtain ⟨n1', hn1'⟩ : ∃ n, n = ws1.length := ⟨_, rfl⟩
      obtain ⟨n2', hn2'⟩ : ∃ n, n = ws2.length := ⟨_, rfl⟩
      have HN1 := Lib.hid hn1'
      have HN2 := Lib.hid hn2'
      have D1 : Hid (∀ W', Below V.heap.size V W' → Calls Tryd.prog 60 #[.agg #[.int .i64 k1, .int .i64 n1, .string g1, .slice A1 l1 c1], .int .i64 (L : Int)] W' fun e w' => ∃ v, e = .returned v ∧ w'.ownsRow W'.heap.size 9 1 v n1' (wsB ws1) ∧ Below W'.heap.size W' w') := by rw [hn1']; exact C1
      have D2 : Hid (∀ W', Below V.heap.size V W' → Calls Tryd.prog 60 #[.agg #[.int .i64 k2, .int .i64 n2, .string g2, .slice A2 l2 c2], .int .i64 ((K : Int) + 1)] W' fun e w' => ∃ v, e = .returned v ∧ w'.ownsRow W'.heap.size 9 1 v n2' (wsB ws2) ∧ Below W'.heap.size W' w') := by rw [hn2', ← Int.natCast_succ]; exact C2
      rw [← hn1'] at wl1 hp1
      rw [← hn2'] at wl2 hp2
      have HL := Lib.hid hL
      have hs1' : n1' ≤ 500 := by omega
      have hs2' : n2' ≤ 500 := by omega
      clear IH HK2 HL2 hev1 hev2 hu h0 hks hx hy hs q2 q3 q4 hk1 hk hbb e0 e1 e2 e3 f0 f1 f2 f3 hg hK hw1 hw2 hL C1 C2 wl1 wl2 hsz hsz' hn1' hn2'
      go_enter Tryd.func60, Tryd.ntmps60
      go_upto_region 1 with (fail)
      obtain ⟨w0, hw0⟩ : ∃ w0, w0 = W.alloc (.cells #[.int .i64 3, .int .i64 n, .string g, .slice (some ⟨b, o', none⟩) 2 c] 25) := ⟨_, rfl⟩
      rw [← hw0] at TC ⊢
      have HW0 := Lib.hid hw0
      obtain ⟨X, hX⟩ : ∃ X, X = W.heap.size := ⟨_, rfl⟩
      rw [← hX] at TC ⊢
      clear hw0 hX
      obtain ⟨a0, a1, a2, a3⟩ := (TC.out.grown (World.grownBy_alloc w0 (.cells #[] 9) none) (by simp) (fun k e => by cases e)).box
      have B0 := Lib.hid (TC.out.bv.alloc TC.out.bv.size (.cells #[] 9))
      go_wp2_with fail
      refine (C0.out _ B0.out).mono ?_
      rintro e w1 ⟨rfl, hb1⟩
      have O1 := Lib.hid (own_behind hb1).1
      have G1 := Lib.hid (own_behind hb1).2
      clear hb1 a0 a1 a2 a3 B0
      obtain ⟨a0, a1, a2, a3⟩ := (TC.out.grown G1.out (by simp) (fun k e => by cases e)).box
      go_upto_if 43 with (fail)
      go_cut [7] from 42 to 43 (fun s7 wc => s7 = .int .i64 (L : Int) ∧ wc = w1)
      case first =>
        by_cases hK1 : (K : Int) = 1
        · have hb1 : ((K : Int) == 1) = true := by simp [hK1]
          have HL2 : Hid (Value.int .i64 (2 : Int) = .int .i64 (L : Int)) := by have := HL.out; unfold Hid; congr 1; omega
          clear hK1
          go_wp2_with fail
          go_meet
          exact ⟨HL2.out, rfl⟩
        · have hb1 : ((K : Int) == 1) = false := by simp [hK1]
          have HL2 : Hid (Value.int .i64 (K : Int) = .int .i64 (L : Int)) := by have := HL.out; unfold Hid; congr 1; omega
          clear hK1
          go_wp2_with fail
          go_meet
          exact ⟨HL2.out, rfl⟩
      case rest =>
        obtain ⟨e7, ew⟩ := hcut
        subst e7 ew
        go_upto_region 13 with (fail)
        clear a0 a1 a2 a3
        refine region_of ?_
        intro arr harr
        obtain ⟨gA, hg⟩ : ∃ g : Nat → Value, g = fun j => arr.getD j undef := ⟨_, rfl⟩
        have hg1 : gA 1 = .int .i64 (m : Int) := by rw [hg, harr]; rfl
        have hg2 : gA 2 = .pointer (some ⟨X, 0, none⟩) := by rw [hg, harr]; rfl
        have hg6 : gA 6 = .int .i64 (K : Int) := by rw [hg, harr]; rfl
        have hg7 : gA 7 = .int .i64 (L : Int) := by rw [hg, harr]; rfl
        refine wp_region_inv rfl (RgK 21 raAct gA (fun _ _ => True) (RgI w0 none 9 1 raR 0 20 (.slice (some ⟨w0.heap.size, 0, none⟩) 0 0) raU (raL n1' n2') (raX g (wsB ws1) (wsB ws2)) (raC X b o' c g K L (.agg #[.int .i64 k1, .int .i64 n1, .string g1, .slice A1 l1 c1]) (.agg #[.int .i64 k2, .int .i64 n2, .string g2, .slice A2 l2 c2])))) ?h0 ?hs ?hd
        case h0 =>
          refine ⟨by simp, trivial, fun j => gA (raS j), fun _ => (.slice (some ⟨w0.heap.size, 0, none⟩) 0 0), by rw [hg, harr]; rfl, RgI.init (grown_drew G1.out) (fun k e => by cases e) ?_ (by rw [hg, harr]; rfl)⟩
          exact fun _ => O1.out
        case hs =>
          clear hg harr
          rintro listed a W i ⟨hsz, hx, f, g', rfl, h⟩ hi
          obtain ⟨hn, o, ho, haft⟩ := mem_ready.1 hi
          have hiN : i < 21 := by have := (Array.getElem?_eq_some_iff.1 ho).1; simpa using this
          have hcs : i = 0 ∨ i = 1 ∨ i = 2 ∨ i = 3 ∨ i = 4 ∨ i = 5 ∨ i = 6 ∨ i = 7 ∨ i = 8 ∨ i = 9 ∨ i = 10 ∨ i = 11 ∨ i = 12 ∨ i = 13 ∨ i = 14 ∨ i = 15 ∨ i = 16 ∨ i = 17 ∨ i = 18 ∨ i = 19 ∨ i = 20 := by omega
          clear hi hiN
          have hng := ngot hn
          rcases hcs with rfl | rfl | rfl | rfl | rfl | rfl | rfl | rfl | rfl | rfl | rfl | rfl | rfl | rfl | rfl | rfl | rfl | rfl | rfl | rfl | rfl
          all_goals (simp at ho; subst ho)
          · have e0 : f 20 = (.slice (some ⟨w0.heap.size, 0, none⟩) 0 0) := h.fl (h.hold (by omega) hng)
            refine wpOp_of_list rfl ?_
            simp only [raAct, e0, hg1, hg2, hg6, hg7]
            go_wp2_with fail
            change (listed.setIfInBounds 0 true).size = 21 ∧ _
            refine ⟨by simp [hsz], trivial, upd f 0 (.slice (some ⟨w0.heap.size, 0, none⟩) 0 0), upd g' 0 (.slice (some ⟨w0.heap.size, 0, none⟩) 0 0), ?_, h.start (by omega) hng (by omega) rfl (by decide)⟩
            simp only [raAct, upd, hg1, hg2, hg6, hg7, e0]
            try rfl
          · refine wpOp_of_list rfl ?_
            simp only [raAct, hg1, hg2, hg6, hg7]
            go_wp2_with fail
            change (listed.setIfInBounds 1 true).size = 21 ∧ _
            refine ⟨by simp [hsz], trivial, upd f 1 (.pointer (some ⟨X, 3, none⟩)), upd g' 1 (.pointer (some ⟨X, 3, none⟩)), ?_, h.quiet (by omega) hng (by omega) (by decide) (by decide) rfl (World.grownBy.refl W none) (.inl rfl)⟩
            simp only [raAct, upd, hg1, hg2, hg6, hg7]
            try rfl
          · have g1 : got listed 1 := haft ⟨1, .data⟩ (by simp) rfl
            have e1 : f 1 = (.pointer (some ⟨X, 3, none⟩)) := h.cv 1 (by decide) g1
            have HBOX := (TC.out.grown h.be (by simp) (fun k e => by cases e))
            obtain ⟨a0, a1, a2, a3⟩ := HBOX.box
            refine wpOp_of_list rfl ?_
            simp only [raAct, hg1, hg2, hg6, hg7, e1]
            go_wp2_with fail
            change (listed.setIfInBounds 2 true).size = 21 ∧ _
            refine ⟨by simp [hsz], trivial, upd f 2 (.slice (some ⟨b, o', none⟩) 2 c), upd g' 2 (.slice (some ⟨b, o', none⟩) 2 c), ?_, h.quiet (by omega) hng (by omega) (by decide) (by decide) rfl (World.grownBy.refl W none) (.inl rfl)⟩
            simp only [raAct, upd, hg1, hg2, hg6, hg7, e1]
            try rfl
          · have g2 : got listed 2 := haft ⟨2, .data⟩ (by simp) rfl
            have e2 : f 2 = (.slice (some ⟨b, o', none⟩) 2 c) := h.cv 2 (by decide) g2
            refine wpOp_of_list rfl ?_
            simp only [raAct, hg1, hg2, hg6, hg7, e2]
            go_wp2_with fail
            change (listed.setIfInBounds 3 true).size = 21 ∧ _
            refine ⟨by simp [hsz], trivial, upd f 3 (.pointer (some ⟨b, o', none⟩)), upd g' 3 (.pointer (some ⟨b, o', none⟩)), ?_, h.quiet (by omega) hng (by omega) (by decide) (by decide) rfl (World.grownBy.refl W none) (.inl rfl)⟩
            simp only [raAct, upd, hg1, hg2, hg6, hg7, e2]
            try rfl
          · have g3 : got listed 3 := haft ⟨3, .data⟩ (by simp) rfl
            have e3 : f 3 = (.pointer (some ⟨b, o', none⟩)) := h.cv 3 (by decide) g3
            have HBOX := (TC.out.grown h.be (by simp) (fun k e => by cases e))
            obtain ⟨a0, a1, a2, a3⟩ := CE.out.below HBOX.bv
            refine wpOp_of_list rfl ?_
            simp only [raAct, hg1, hg2, hg6, hg7, e3]
            go_wp2_with fail
            change (listed.setIfInBounds 4 true).size = 21 ∧ _
            refine ⟨by simp [hsz], trivial, upd f 4 (.agg #[.int .i64 k1, .int .i64 n1, .string g1, .slice A1 l1 c1]), upd g' 4 (.agg #[.int .i64 k1, .int .i64 n1, .string g1, .slice A1 l1 c1]), ?_, h.quiet (by omega) hng (by omega) (by decide) (by decide) rfl (World.grownBy.refl W none) (.inl rfl)⟩
            simp only [raAct, upd, hg1, hg2, hg6, hg7, e3]
            try rfl
          · refine wpOp_of_list rfl ?_
            simp only [raAct, hg1, hg2, hg6, hg7]
            go_wp2_with fail
            change (listed.setIfInBounds 5 true).size = 21 ∧ _
            refine ⟨by simp [hsz], trivial, upd f 5 (.int .i64 (L : Int)), upd g' 5 (.int .i64 (L : Int)), ?_, h.quiet (by omega) hng (by omega) (by decide) (by decide) rfl (World.grownBy.refl W none) (.inl rfl)⟩
            simp only [raAct, upd, hg1, hg2, hg6, hg7]
            try rfl
          · have g4 : got listed 4 := haft ⟨4, .data⟩ (by simp) rfl
            have g5 : got listed 5 := haft ⟨5, .data⟩ (by simp) rfl
            have e4 : f 4 = (.agg #[.int .i64 k1, .int .i64 n1, .string g1, .slice A1 l1 c1]) := h.cv 4 (by decide) g4
            have e5 : f 5 = (.int .i64 (L : Int)) := h.cv 5 (by decide) g5
            refine wpOp_of_list rfl ?_
            simp only [raAct, hg1, hg2, hg6, hg7, e4, e5]
            go_wp2_with fail
            have HBV := (TC.out.grown h.be (by simp) (fun k e => by cases e)).bv
            refine (D1.out W HBV).mono ?_
            rintro e W' ⟨v, rfl, hown, hb⟩
            go_wp2_with fail
            change (listed.setIfInBounds 6 true).size = 21 ∧ _
            refine ⟨by simp [hsz], trivial, upd f 6 v, upd g' 6 v, ?_, h.fresh (by omega) hng (by omega) (by decide) (by decide) (below_grown hb none) (.inl rfl) hown rfl rfl⟩
            simp only [raAct, upd, hg1, hg2, hg6, hg7, e4, e5]
            try rfl
          · have g0 : got listed 0 := haft ⟨0, .data⟩ (by simp) rfl
            have g6 : got listed 6 := haft ⟨6, .data⟩ (by simp) rfl
            have hownA := h.own (j := 0) (by decide) g0 (by exact hng)
            have hownS := h.own (j := 6) (by decide) g6 (by exact hng)
            refine wpOp_of_list rfl ?_
            simp only [raAct]
            refine wpList_append_rows rfl (.tmp 44) (.tmp 50) 26 rfl w0.heap.size _ 9 is0 (.string ByteArray.empty) 1 16 Tryd.underlying26 his hs0 hs1 hs2 rfl (by decide) (f 0) _ _ rfl hownA (f 6) _ _ rfl hownS ?c0 ?c1 ?c3 (by decide) ?c5 ?_
            case c0 => exact hp1
            case c1 => exact wsB_one
            case c3 => simp only [raL]; omega
            case c5 => exact h.be.size
            intro v' W' hown' hgrow hat
            go_wp2_with fail
            change (listed.setIfInBounds 7 true).size = 21 ∧ _
            refine ⟨by simp [hsz], trivial, upd f 7 v', upd g' 7 v', ?_, h.app (by omega) hng (by omega) (by decide) (by decide) (by decide) rfl g0 hown' rfl rfl hgrow hat⟩
            simp only [raAct, upd, hg1, hg2, hg6, hg7]
            try rfl
          · refine wpOp_of_list rfl ?_
            simp only [raAct, hg1, hg2, hg6, hg7]
            go_wp2_with fail
            change (listed.setIfInBounds 8 true).size = 21 ∧ _
            refine ⟨by simp [hsz], trivial, upd f 8 (.pointer (some ⟨X, 2, none⟩)), upd g' 8 (.pointer (some ⟨X, 2, none⟩)), ?_, h.quiet (by omega) hng (by omega) (by decide) (by decide) rfl (World.grownBy.refl W none) (.inl rfl)⟩
            simp only [raAct, upd, hg1, hg2, hg6, hg7]
            try rfl
          · have g8 : got listed 8 := haft ⟨8, .data⟩ (by simp) rfl
            have e8 : f 8 = (.pointer (some ⟨X, 2, none⟩)) := h.cv 8 (by decide) g8
            have HBOX := (TC.out.grown h.be (by simp) (fun k e => by cases e))
            obtain ⟨a0, a1, a2, a3⟩ := HBOX.box
            refine wpOp_of_list rfl ?_
            simp only [raAct, hg1, hg2, hg6, hg7, e8]
            go_wp2_with fail
            change (listed.setIfInBounds 9 true).size = 21 ∧ _
            refine ⟨by simp [hsz], trivial, upd f 9 (.string g), upd g' 9 (.string g), ?_, h.quiet (by omega) hng (by omega) (by decide) (by decide) rfl (World.grownBy.refl W none) (.inl rfl)⟩
            simp only [raAct, upd, hg1, hg2, hg6, hg7, e8]
            try rfl
          · have g9 : got listed 9 := haft ⟨9, .data⟩ (by simp) rfl
            have e9 : f 9 = (.string g) := h.cv 9 (by decide) g9
            refine wpOp_of_list rfl ?_
            simp only [raAct, hg1, hg2, hg6, hg7, e9]
            go_wp2_with fail
            change (listed.setIfInBounds 10 true).size = 21 ∧ _
            refine ⟨by simp [hsz], trivial, upd f 10 (.slice (some ⟨W.heap.size, 0, none⟩) 1 1), upd g' 10 (.slice (some ⟨W.heap.size, 0, none⟩) 1 1), ?_, h.fresh (by omega) hng (by omega) (by decide) (by decide) (World.grownBy_alloc W _ none) (.inl rfl) (World.ownsRow_lit W #[.string g] 1 (Nat.le_refl _) (by unfold maxLen; omega) rfl) rfl rfl⟩
            simp only [raAct, upd, hg1, hg2, hg6, hg7, e9]
            try rfl
          · have g7 : got listed 7 := haft ⟨7, .data⟩ (by simp) rfl
            have g10 : got listed 10 := haft ⟨10, .data⟩ (by simp) rfl
            have hownA := h.own (j := 7) (by decide) g7 (by exact hng)
            have hownS := h.own (j := 10) (by decide) g10 (by exact hng)
            refine wpOp_of_list rfl ?_
            simp only [raAct]
            refine wpList_append_rows rfl (.tmp 51) (.tmp 54) 26 rfl w0.heap.size _ 9 is0 (.string ByteArray.empty) 1 16 Tryd.underlying26 his hs0 hs1 hs2 rfl (by decide) (f 7) _ _ rfl hownA (f 10) _ _ rfl hownS ?c0 ?c1 ?c3 (by decide) ?c5 ?_
            case c0 => exact (by decide : 0 < 1)
            case c1 => intro u hu; simp [raX] at hu; subst hu; rfl
            case c3 => simp only [raL]; omega
            case c5 => exact h.be.size
            intro v' W' hown' hgrow hat
            go_wp2_with fail
            change (listed.setIfInBounds 11 true).size = 21 ∧ _
            refine ⟨by simp [hsz], trivial, upd f 11 v', upd g' 11 v', ?_, h.app (by omega) hng (by omega) (by decide) (by decide) (by decide) rfl g7 hown' rfl rfl hgrow hat⟩
            simp only [raAct, upd, hg1, hg2, hg6, hg7]
            try rfl
          · refine wpOp_of_list rfl ?_
            simp only [raAct, hg1, hg2, hg6, hg7]
            go_wp2_with fail
            change (listed.setIfInBounds 12 true).size = 21 ∧ _
            refine ⟨by simp [hsz], trivial, upd f 12 (.pointer (some ⟨X, 3, none⟩)), upd g' 12 (.pointer (some ⟨X, 3, none⟩)), ?_, h.quiet (by omega) hng (by omega) (by decide) (by decide) rfl (World.grownBy.refl W none) (.inl rfl)⟩
            simp only [raAct, upd, hg1, hg2, hg6, hg7]
            try rfl
          · have g12 : got listed 12 := haft ⟨12, .data⟩ (by simp) rfl
            have e12 : f 12 = (.pointer (some ⟨X, 3, none⟩)) := h.cv 12 (by decide) g12
            have HBOX := (TC.out.grown h.be (by simp) (fun k e => by cases e))
            obtain ⟨a0, a1, a2, a3⟩ := HBOX.box
            refine wpOp_of_list rfl ?_
            simp only [raAct, hg1, hg2, hg6, hg7, e12]
            go_wp2_with fail
            change (listed.setIfInBounds 13 true).size = 21 ∧ _
            refine ⟨by simp [hsz], trivial, upd f 13 (.slice (some ⟨b, o', none⟩) 2 c), upd g' 13 (.slice (some ⟨b, o', none⟩) 2 c), ?_, h.quiet (by omega) hng (by omega) (by decide) (by decide) rfl (World.grownBy.refl W none) (.inl rfl)⟩
            simp only [raAct, upd, hg1, hg2, hg6, hg7, e12]
            try rfl
          · have g13 : got listed 13 := haft ⟨13, .data⟩ (by simp) rfl
            have e13 : f 13 = (.slice (some ⟨b, o', none⟩) 2 c) := h.cv 13 (by decide) g13
            refine wpOp_of_list rfl ?_
            simp only [raAct, hg1, hg2, hg6, hg7, e13]
            go_wp2_with fail
            change (listed.setIfInBounds 14 true).size = 21 ∧ _
            refine ⟨by simp [hsz], trivial, upd f 14 (.pointer (some ⟨b, o' + 4, none⟩)), upd g' 14 (.pointer (some ⟨b, o' + 4, none⟩)), ?_, h.quiet (by omega) hng (by omega) (by decide) (by decide) rfl (World.grownBy.refl W none) (.inl rfl)⟩
            simp only [raAct, upd, hg1, hg2, hg6, hg7, e13]
            try rfl
          · have g14 : got listed 14 := haft ⟨14, .data⟩ (by simp) rfl
            have e14 : f 14 = (.pointer (some ⟨b, o' + 4, none⟩)) := h.cv 14 (by decide) g14
            have HBOX := (TC.out.grown h.be (by simp) (fun k e => by cases e))
            obtain ⟨a0, a1, a2, a3⟩ := CF.out.below HBOX.bv
            refine wpOp_of_list rfl ?_
            simp only [raAct, hg1, hg2, hg6, hg7, e14]
            go_wp2_with fail
            change (listed.setIfInBounds 15 true).size = 21 ∧ _
            refine ⟨by simp [hsz], trivial, upd f 15 (.agg #[.int .i64 k2, .int .i64 n2, .string g2, .slice A2 l2 c2]), upd g' 15 (.agg #[.int .i64 k2, .int .i64 n2, .string g2, .slice A2 l2 c2]), ?_, h.quiet (by omega) hng (by omega) (by decide) (by decide) rfl (World.grownBy.refl W none) (.inl rfl)⟩
            simp only [raAct, upd, hg1, hg2, hg6, hg7, e14]
            try rfl
          · refine wpOp_of_list rfl ?_
            simp only [raAct, hg1, hg2, hg6, hg7]
            go_wp2_with fail
            change (listed.setIfInBounds 16 true).size = 21 ∧ _
            refine ⟨by simp [hsz], trivial, upd f 16 (.int .i64 (K : Int)), upd g' 16 (.int .i64 (K : Int)), ?_, h.quiet (by omega) hng (by omega) (by decide) (by decide) rfl (World.grownBy.refl W none) (.inl rfl)⟩
            simp only [raAct, upd, hg1, hg2, hg6, hg7]
            try rfl
          · have g16 : got listed 16 := haft ⟨16, .data⟩ (by simp) rfl
            have e16 : f 16 = (.int .i64 (K : Int)) := h.cv 16 (by decide) g16
            refine wpOp_of_list rfl ?_
            simp only [raAct, hg1, hg2, hg6, hg7, e16]
            go_wp2_with fail
            change (listed.setIfInBounds 17 true).size = 21 ∧ _
            refine ⟨by simp [hsz], trivial, upd f 17 (.int .i64 ((K : Int) + 1)), upd g' 17 (.int .i64 ((K : Int) + 1)), ?_, h.quiet (by omega) hng (by omega) (by decide) (by decide) rfl (World.grownBy.refl W none) (.inl rfl)⟩
            simp only [raAct, upd, hg1, hg2, hg6, hg7, e16]
            try rfl
          · have g15 : got listed 15 := haft ⟨15, .data⟩ (by simp) rfl
            have g17 : got listed 17 := haft ⟨17, .data⟩ (by simp) rfl
            have e15 : f 15 = (.agg #[.int .i64 k2, .int .i64 n2, .string g2, .slice A2 l2 c2]) := h.cv 15 (by decide) g15
            have e17 : f 17 = (.int .i64 ((K : Int) + 1)) := h.cv 17 (by decide) g17
            refine wpOp_of_list rfl ?_
            simp only [raAct, hg1, hg2, hg6, hg7, e15, e17]
            go_wp2_with fail
            have HBV := (TC.out.grown h.be (by simp) (fun k e => by cases e)).bv
            refine (D2.out W HBV).mono ?_
            rintro e W' ⟨v, rfl, hown, hb⟩
            go_wp2_with fail
            change (listed.setIfInBounds 18 true).size = 21 ∧ _
            refine ⟨by simp [hsz], trivial, upd f 18 v, upd g' 18 v, ?_, h.fresh (by omega) hng (by omega) (by decide) (by decide) (below_grown hb none) (.inl rfl) hown rfl rfl⟩
            simp only [raAct, upd, hg1, hg2, hg6, hg7, e15, e17]
            try rfl
          · have g11 : got listed 11 := haft ⟨11, .data⟩ (by simp) rfl
            have g18 : got listed 18 := haft ⟨18, .data⟩ (by simp) rfl
            have hownA := h.own (j := 11) (by decide) g11 (by exact hng)
            have hownS := h.own (j := 18) (by decide) g18 (by exact hng)
            refine wpOp_of_list rfl ?_
            simp only [raAct]
            refine wpList_append_rows rfl (.tmp 55) (.tmp 62) 26 rfl w0.heap.size _ 9 is0 (.string ByteArray.empty) 1 16 Tryd.underlying26 his hs0 hs1 hs2 rfl (by decide) (f 11) _ _ rfl hownA (f 18) _ _ rfl hownS ?c0 ?c1 ?c3 (by decide) ?c5 ?_
            case c0 => exact hp2
            case c1 => exact wsB_one
            case c3 => simp only [raL]; omega
            case c5 => exact h.be.size
            intro v' W' hown' hgrow hat
            go_wp2_with fail
            change (listed.setIfInBounds 19 true).size = 21 ∧ _
            refine ⟨by simp [hsz], trivial, upd f 19 v', upd g' 19 v', ?_, h.app (by omega) hng (by omega) (by decide) (by decide) (by decide) rfl g11 hown' rfl rfl hgrow hat⟩
            simp only [raAct, upd, hg1, hg2, hg6, hg7]
            try rfl
          · have hall : ∀ j, j < 20 → got listed j := by
              intro j hj
              have hj2 : j = 0 ∨ j = 1 ∨ j = 2 ∨ j = 3 ∨ j = 4 ∨ j = 5 ∨ j = 6 ∨ j = 7 ∨ j = 8 ∨ j = 9 ∨ j = 10 ∨ j = 11 ∨ j = 12 ∨ j = 13 ∨ j = 14 ∨ j = 15 ∨ j = 16 ∨ j = 17 ∨ j = 18 ∨ j = 19 := by omega
              rcases hj2 with rfl | rfl | rfl | rfl | rfl | rfl | rfl | rfl | rfl | rfl | rfl | rfl | rfl | rfl | rfl | rfl | rfl | rfl | rfl | rfl
              all_goals exact haft ⟨_, .phase⟩ (by simp) rfl
            refine wpOp_of_list rfl ?_
            simp only [raAct, hg1, hg2, hg6, hg7]
            go_wp2_with fail
            change (listed.setIfInBounds 20 true).size = 21 ∧ _
            refine ⟨by simp [hsz], trivial, upd f 20 (f 19), upd g' 20 (f 19), ?_, h.pass (by omega) hng hall (by decide) (by decide) (by decide) rfl (hall 19 (by omega)) rfl rfl⟩
            simp only [raAct, upd, hg1, hg2, hg6, hg7]
            try rfl
        case hd =>
          rintro listed a wc ⟨hsz, hx, f, g', rfl, h⟩ hr
          have hall := ready_all (listed := listed) (by kernel_rfl) (by rw [hsz]; rfl) hr
          have hown := h.own (j := 20) (by decide) (hall 20 (by decide)) (ngot_out (by rw [hsz]; decide))
          have ho5 : wc.ownsRow w0.heap.size 9 1 (f 20) (0 + n1' + 1 + n2') ((([] ++ wsB ws1) ++ [.string g]) ++ wsB ws2) := hown
          have hg5 := h.be
          clear hr h hall hown harr hg
          simp only [raAct, hg1, hg6]
          generalize f 20 = s5 at *
          obtain ⟨wsm, hwm⟩ : ∃ z, z = ws1 ++ opText o :: ws2 := ⟨_, rfl⟩
          rw [← hwm] at HWD
          have hlen : 0 + n1' + 1 + n2' = wsm.length := by rw [hwm, HN1.out, HN2.out]; simp; omega
          have hxs : (([] ++ wsB ws1) ++ [.string g]) ++ wsB ws2 = wsB wsm := by rw [hwm, wsB_app, wsB_cons, HG.out]; simp
          rw [hlen, hxs] at ho5
          have HO5 := Lib.hid ho5
          have HG5 := Lib.hid hg5
          have hM : wsm.length ≤ 1001 := by omega
          have hM0 : 0 < wsm.length := by omega
          clear hwm hlen hxs ho5 hg5
          by_cases hb : K < m
          · have hb1 : ((K : Int) < (m : Int)) = True := by simp; omega
            have hbd : decide (K < m) = true := by simp [hb]
            rw [hbd] at HWD
            have L3 : Hid ((wc.alloc (.cells #[.string ⟨#[40]⟩] 9)).ownsRow w0.heap.size 9 1 (.slice (some ⟨wc.heap.size, 0, none⟩) 1 1) 1 [.string ⟨#[40]⟩]) := World.ownsRow_lit wc #[.string ⟨#[40]⟩] 1 HG5.out.size (by unfold maxLen; omega) rfl
            have S3 : Hid ((wc.alloc (.cells #[.string ⟨#[40]⟩] 9)).ownsRow w0.heap.size 9 1 s5 wsm.length (wsB wsm)) := HO5.out.alloc _
            have G3 : Hid (w0.grownBy (wc.alloc (.cells #[.string ⟨#[40]⟩] 9)) none) := HG5.out.trans (World.grownBy_alloc wc _ none)
            clear hb hbd
            go_wp2_with (at_builtin; refine wpList_append_rows rfl _ _ 26 rfl w0.heap.size _ 9 is0 (.string ByteArray.empty) 1 16 Tryd.underlying26 his hs0 hs1 hs2 rfl (by decide) _ _ _ rfl L3.out _ _ _ rfl S3.out ?c0 ?c1 ?c3 (by decide) ?c5 ?_)
            case c0 => exact hM0
            case c1 => exact wsB_one
            case c3 => omega
            case c5 => exact G3.out.size
            intro v3 w3 hown3 hgrow3 _
            have G4 : Hid (w0.grownBy w3 none) := G3.out.andThen hgrow3 (fun j hj => .inl (L3.out.lt j hj).1)
            have O4 : Hid ((w3.alloc (.cells #[.string ⟨#[41]⟩] 9)).ownsRow w0.heap.size 9 1 v3 (1 + wsm.length) ([.string ⟨#[40]⟩] ++ wsB wsm)) := hown3.alloc _
            have L4 : Hid ((w3.alloc (.cells #[.string ⟨#[41]⟩] 9)).ownsRow w0.heap.size 9 1 (.slice (some ⟨w3.heap.size, 0, none⟩) 1 1) 1 [.string ⟨#[41]⟩]) := World.ownsRow_lit w3 #[.string ⟨#[41]⟩] 1 G4.out.size (by unfold maxLen; omega) rfl
            have G5 : Hid (w0.grownBy (w3.alloc (.cells #[.string ⟨#[41]⟩] 9)) none) := G4.out.trans (World.grownBy_alloc w3 _ none)
            clear hown3 hgrow3
            go_wp2_with (at_builtin; refine wpList_append_rows rfl _ _ 26 rfl w0.heap.size _ 9 is0 (.string ByteArray.empty) 1 16 Tryd.underlying26 his hs0 hs1 hs2 rfl (by decide) _ _ _ rfl O4.out _ _ _ rfl L4.out ?c0 ?c1 ?c3 (by decide) ?c5 ?_)
            case c0 => decide
            case c1 => intro u hu; simp at hu; subst hu; rfl
            case c3 => omega
            case c5 => exact G5.out.size
            intro v4 w4 hown4 hgrow4 _
            have R : Hid (WordsR (Tm.words m (.two o v1 v2)) W (.returned v4) w4) := wordsR_put HW0.out hown4 (G5.out.andThen hgrow4 (fun j hj => .inl (O4.out.lt j hj).1)) (by rw [HWD.out]; simp [brk]; omega) (by rw [HWD.out]; simp [brk, wsB_app, wsB_cons, wsB_nil]; exact ⟨rfl, rfl⟩)
            clear hown4 hgrow4
            go_wp2_with fail
            go_ret
            exact R.out
          · have hb1 : ((K : Int) < (m : Int)) = False := by simp; omega
            have hbd : decide (K < m) = false := by simp [hb]
            rw [hbd] at HWD
            have R : Hid (WordsR (Tm.words m (.two o v1 v2)) W (.returned s5) wc) := wordsR_put HW0.out HO5.out HG5.out (by rw [HWD.out]; rfl) (by rw [HWD.out]; rfl)
            clear hb hbd
            go_wp2_with fail
            go_ret
            exact R.out
    · rw [hk1] at q1; subst q1
      have HL2 := hks ▸ q4
      have HK2 : Hid (Kids _ (Low _) dd A [x]) := Lib.hid (hks ▸ hk)
      obtain rfl : l = 1 := by simpa using HL2
      obtain ⟨b, o', k1, n1, g1, A1, l1, c1, rfl, hbb, hev1, e0, e1, e2, e3⟩ := kid1 HK2.out
      have CE : Hid (Cel b o' k1 n1 g1 A1 l1 c1 V) := ⟨e0, e1, e2, e3⟩
      have hsz' : 1 + v.size ≤ 100 := hsz
      have C1 := Lib.hid (fun W' (hb : Below V.heap.size V W') => IH.out k1 n1 g1 A1 l1 c1 x v 4 V W' hev1 hb hx (by omega) (by omega))
      have hg : g = mkB (tyText bt) := by rw [q3, hs]
      have HG := Lib.hid hg
      have wl1 := words_len v 4
      have hp1 : 0 < (v.words 4).length := List.length_pos_iff.2 (words_ne _ _)
      change Hid (∀ W', Below V.heap.size V W' → Calls _ _ _ W' (fun e w' => e = .returned (.int .i64 4) ∧ _)) at C0
      have hk4 : ((4 : Int) < (m : Int)) = False := by simp; omega
      have HWD : Hid (Tm.words m (.cast bt v) = v.words 4 ++ [wAs, tyText bt]) := rfl
      obtain ⟨ws1, hw1⟩ : ∃ ws, ws = v.words 4 := ⟨_, rfl⟩
      rw [← hw1] at C1 wl1 hp1 HWD
      obtain ⟨n1', hn1'⟩ : ∃ n, n = ws1.length := ⟨_, rfl⟩
      have HN1 := Lib.hid hn1'
      have D1 : Hid (∀ W', Below V.heap.size V W' → Calls Tryd.prog 60 #[.agg #[.int .i64 k1, .int .i64 n1, .string g1, .slice A1 l1 c1], .int .i64 4] W' fun e w' => ∃ v, e = .returned v ∧ w'.ownsRow W'.heap.size 9 1 v n1' (wsB ws1) ∧ Below W'.heap.size W' w') := by rw [hn1']; exact C1
      rw [← hn1'] at wl1 hp1
      have hs1' : n1' ≤ 500 := by omega
      clear IH HK2 HL2 hev1 hu h0 hks hx hs q2 q3 q4 hk1 hk hbb e0 e1 e2 e3 hg hw1 C1 wl1 hsz hsz' hn1'
      go_enter Tryd.func60, Tryd.ntmps60
      go_upto_region 1 with (fail)
      obtain ⟨w0, hw0⟩ : ∃ w0, w0 = W.alloc (.cells #[.int .i64 4, .int .i64 n, .string g, .slice (some ⟨b, o', none⟩) 1 c] 25) := ⟨_, rfl⟩
      rw [← hw0] at TC ⊢
      have HW0 := Lib.hid hw0
      obtain ⟨X, hX⟩ : ∃ X, X = W.heap.size := ⟨_, rfl⟩
      rw [← hX] at TC ⊢
      clear hw0 hX
      obtain ⟨a0, a1, a2, a3⟩ := (TC.out.grown (World.grownBy_alloc w0 (.cells #[] 9) none) (by simp) (fun k e => by cases e)).box
      have B0 := Lib.hid (TC.out.bv.alloc TC.out.bv.size (.cells #[] 9))
      go_wp2_with fail
      refine (C0.out _ B0.out).mono ?_
      rintro e w1 ⟨rfl, hb1⟩
      have O1 := Lib.hid (own_behind hb1).1
      have G1 := Lib.hid (own_behind hb1).2
      clear hb1 a0 a1 a2 a3 B0
      obtain ⟨a0, a1, a2, a3⟩ := (TC.out.grown G1.out (by simp) (fun k e => by cases e)).box
      go_upto_region 4 with (fail)
      clear a0 a1 a2 a3
      refine region_of ?_
      intro arr harr
      obtain ⟨gA, hg⟩ : ∃ g : Nat → Value, g = fun j => arr.getD j undef := ⟨_, rfl⟩
      have hg1 : gA 1 = .int .i64 (m : Int) := by rw [hg, harr]; rfl
      have hg6 : gA 6 = .int .i64 4 := by rw [hg, harr]; rfl
      have hg2 : gA 2 = .pointer (some ⟨X, 0, none⟩) := by rw [hg, harr]; rfl
      refine wp_region_inv rfl (RgK 12 rbAct gA (fun _ _ => True) (RgI w0 none 9 1 rbR 0 11 (.slice (some ⟨w0.heap.size, 0, none⟩) 0 0) rbU (rbL n1') (rbX g (wsB ws1)) (rbC X b o' c g (.agg #[.int .i64 k1, .int .i64 n1, .string g1, .slice A1 l1 c1])))) ?h0 ?hs ?hd
      case h0 =>
        refine ⟨by simp, trivial, fun j => gA (rbS j), fun _ => (.slice (some ⟨w0.heap.size, 0, none⟩) 0 0), by rw [hg, harr]; rfl, RgI.init (grown_drew G1.out) (fun k e => by cases e) ?_ (by rw [hg, harr]; rfl)⟩
        exact fun _ => O1.out
      case hs =>
        clear hg harr
        rintro listed a W i ⟨hsz, hx, f, g', rfl, h⟩ hi
        obtain ⟨hn, o, ho, haft⟩ := mem_ready.1 hi
        have hiN : i < 12 := by have := (Array.getElem?_eq_some_iff.1 ho).1; simpa using this
        have hcs : i = 0 ∨ i = 1 ∨ i = 2 ∨ i = 3 ∨ i = 4 ∨ i = 5 ∨ i = 6 ∨ i = 7 ∨ i = 8 ∨ i = 9 ∨ i = 10 ∨ i = 11 := by omega
        clear hi hiN
        have hng := ngot hn
        rcases hcs with rfl | rfl | rfl | rfl | rfl | rfl | rfl | rfl | rfl | rfl | rfl | rfl
        all_goals (simp at ho; subst ho)
        · have e0 : f 11 = (.slice (some ⟨w0.heap.size, 0, none⟩) 0 0) := h.fl (h.hold (by omega) hng)
          refine wpOp_of_list rfl ?_
          simp only [rbAct, e0, hg1, hg2, hg6]
          go_wp2_with fail
          change (listed.setIfInBounds 0 true).size = 12 ∧ _
          refine ⟨by simp [hsz], trivial, upd f 0 (.slice (some ⟨w0.heap.size, 0, none⟩) 0 0), upd g' 0 (.slice (some ⟨w0.heap.size, 0, none⟩) 0 0), ?_, h.start (by omega) hng (by omega) rfl (by decide)⟩
          simp only [rbAct, upd, hg1, hg2, hg6, e0]
          try rfl
        · refine wpOp_of_list rfl ?_
          simp only [rbAct, hg1, hg2, hg6]
          go_wp2_with fail
          change (listed.setIfInBounds 1 true).size = 12 ∧ _
          refine ⟨by simp [hsz], trivial, upd f 1 (.pointer (some ⟨X, 3, none⟩)), upd g' 1 (.pointer (some ⟨X, 3, none⟩)), ?_, h.quiet (by omega) hng (by omega) (by decide) (by decide) rfl (World.grownBy.refl W none) (.inl rfl)⟩
          simp only [rbAct, upd, hg1, hg2, hg6]
          try rfl
        · have g1 : got listed 1 := haft ⟨1, .data⟩ (by simp) rfl
          have e1 : f 1 = (.pointer (some ⟨X, 3, none⟩)) := h.cv 1 (by decide) g1
          have HBOX := (TC.out.grown h.be (by simp) (fun k e => by cases e))
          obtain ⟨a0, a1, a2, a3⟩ := HBOX.box
          refine wpOp_of_list rfl ?_
          simp only [rbAct, hg1, hg2, hg6, e1]
          go_wp2_with fail
          change (listed.setIfInBounds 2 true).size = 12 ∧ _
          refine ⟨by simp [hsz], trivial, upd f 2 (.slice (some ⟨b, o', none⟩) 1 c), upd g' 2 (.slice (some ⟨b, o', none⟩) 1 c), ?_, h.quiet (by omega) hng (by omega) (by decide) (by decide) rfl (World.grownBy.refl W none) (.inl rfl)⟩
          simp only [rbAct, upd, hg1, hg2, hg6, e1]
          try rfl
        · have g2 : got listed 2 := haft ⟨2, .data⟩ (by simp) rfl
          have e2 : f 2 = (.slice (some ⟨b, o', none⟩) 1 c) := h.cv 2 (by decide) g2
          refine wpOp_of_list rfl ?_
          simp only [rbAct, hg1, hg2, hg6, e2]
          go_wp2_with fail
          change (listed.setIfInBounds 3 true).size = 12 ∧ _
          refine ⟨by simp [hsz], trivial, upd f 3 (.pointer (some ⟨b, o', none⟩)), upd g' 3 (.pointer (some ⟨b, o', none⟩)), ?_, h.quiet (by omega) hng (by omega) (by decide) (by decide) rfl (World.grownBy.refl W none) (.inl rfl)⟩
          simp only [rbAct, upd, hg1, hg2, hg6, e2]
          try rfl
        · have g3 : got listed 3 := haft ⟨3, .data⟩ (by simp) rfl
          have e3 : f 3 = (.pointer (some ⟨b, o', none⟩)) := h.cv 3 (by decide) g3
          have HBOX := (TC.out.grown h.be (by simp) (fun k e => by cases e))
          obtain ⟨a0, a1, a2, a3⟩ := CE.out.below HBOX.bv
          refine wpOp_of_list rfl ?_
          simp only [rbAct, hg1, hg2, hg6, e3]
          go_wp2_with fail
          change (listed.setIfInBounds 4 true).size = 12 ∧ _
          refine ⟨by simp [hsz], trivial, upd f 4 (.agg #[.int .i64 k1, .int .i64 n1, .string g1, .slice A1 l1 c1]), upd g' 4 (.agg #[.int .i64 k1, .int .i64 n1, .string g1, .slice A1 l1 c1]), ?_, h.quiet (by omega) hng (by omega) (by decide) (by decide) rfl (World.grownBy.refl W none) (.inl rfl)⟩
          simp only [rbAct, upd, hg1, hg2, hg6, e3]
          try rfl
        · have g4 : got listed 4 := haft ⟨4, .data⟩ (by simp) rfl
          have e4 : f 4 = (.agg #[.int .i64 k1, .int .i64 n1, .string g1, .slice A1 l1 c1]) := h.cv 4 (by decide) g4
          refine wpOp_of_list rfl ?_
          simp only [rbAct, hg1, hg2, hg6, e4]
          go_wp2_with fail
          have HBV := (TC.out.grown h.be (by simp) (fun k e => by cases e)).bv
          refine (D1.out W HBV).mono ?_
          rintro e W' ⟨v, rfl, hown, hb⟩
          go_wp2_with fail
          change (listed.setIfInBounds 5 true).size = 12 ∧ _
          refine ⟨by simp [hsz], trivial, upd f 5 v, upd g' 5 v, ?_, h.fresh (by omega) hng (by omega) (by decide) (by decide) (below_grown hb none) (.inl rfl) hown rfl rfl⟩
          simp only [rbAct, upd, hg1, hg2, hg6, e4]
          try rfl
        · have g0 : got listed 0 := haft ⟨0, .data⟩ (by simp) rfl
          have g5 : got listed 5 := haft ⟨5, .data⟩ (by simp) rfl
          have hownA := h.own (j := 0) (by decide) g0 (by exact hng)
          have hownS := h.own (j := 5) (by decide) g5 (by exact hng)
          refine wpOp_of_list rfl ?_
          simp only [rbAct]
          refine wpList_append_rows rfl (.tmp 13) (.tmp 18) 26 rfl w0.heap.size _ 9 is0 (.string ByteArray.empty) 1 16 Tryd.underlying26 his hs0 hs1 hs2 rfl (by decide) (f 0) _ _ rfl hownA (f 5) _ _ rfl hownS ?c0 ?c1 ?c3 (by decide) ?c5 ?_
          case c0 => exact hp1
          case c1 => exact wsB_one
          case c3 => simp only [rbL]; omega
          case c5 => exact h.be.size
          intro v' W' hown' hgrow hat
          go_wp2_with fail
          change (listed.setIfInBounds 6 true).size = 12 ∧ _
          refine ⟨by simp [hsz], trivial, upd f 6 v', upd g' 6 v', ?_, h.app (by omega) hng (by omega) (by decide) (by decide) (by decide) rfl g0 hown' rfl rfl hgrow hat⟩
          simp only [rbAct, upd, hg1, hg2, hg6]
          try rfl
        · refine wpOp_of_list rfl ?_
          simp only [rbAct, hg1, hg2, hg6]
          go_wp2_with fail
          change (listed.setIfInBounds 7 true).size = 12 ∧ _
          refine ⟨by simp [hsz], trivial, upd f 7 (.pointer (some ⟨X, 2, none⟩)), upd g' 7 (.pointer (some ⟨X, 2, none⟩)), ?_, h.quiet (by omega) hng (by omega) (by decide) (by decide) rfl (World.grownBy.refl W none) (.inl rfl)⟩
          simp only [rbAct, upd, hg1, hg2, hg6]
          try rfl
        · have g7 : got listed 7 := haft ⟨7, .data⟩ (by simp) rfl
          have e7 : f 7 = (.pointer (some ⟨X, 2, none⟩)) := h.cv 7 (by decide) g7
          have HBOX := (TC.out.grown h.be (by simp) (fun k e => by cases e))
          obtain ⟨a0, a1, a2, a3⟩ := HBOX.box
          refine wpOp_of_list rfl ?_
          simp only [rbAct, hg1, hg2, hg6, e7]
          go_wp2_with fail
          change (listed.setIfInBounds 8 true).size = 12 ∧ _
          refine ⟨by simp [hsz], trivial, upd f 8 (.string g), upd g' 8 (.string g), ?_, h.quiet (by omega) hng (by omega) (by decide) (by decide) rfl (World.grownBy.refl W none) (.inl rfl)⟩
          simp only [rbAct, upd, hg1, hg2, hg6, e7]
          try rfl
        · have g8 : got listed 8 := haft ⟨8, .data⟩ (by simp) rfl
          have e8 : f 8 = (.string g) := h.cv 8 (by decide) g8
          refine wpOp_of_list rfl ?_
          simp only [rbAct, hg1, hg2, hg6, e8]
          go_wp2_with fail
          change (listed.setIfInBounds 9 true).size = 12 ∧ _
          refine ⟨by simp [hsz], trivial, upd f 9 (.slice (some ⟨W.heap.size, 0, none⟩) 2 2), upd g' 9 (.slice (some ⟨W.heap.size, 0, none⟩) 2 2), ?_, h.fresh (by omega) hng (by omega) (by decide) (by decide) (World.grownBy_alloc W _ none) (.inl rfl) (World.ownsRow_lit W #[.string ⟨#[97, 115]⟩, .string g] 2 (Nat.le_refl _) (by unfold maxLen; omega) rfl) rfl rfl⟩
          simp only [rbAct, upd, hg1, hg2, hg6, e8]
          try rfl
        · have g6 : got listed 6 := haft ⟨6, .data⟩ (by simp) rfl
          have g9 : got listed 9 := haft ⟨9, .data⟩ (by simp) rfl
          have hownA := h.own (j := 6) (by decide) g6 (by exact hng)
          have hownS := h.own (j := 9) (by decide) g9 (by exact hng)
          refine wpOp_of_list rfl ?_
          simp only [rbAct]
          refine wpList_append_rows rfl (.tmp 19) (.tmp 22) 26 rfl w0.heap.size _ 9 is0 (.string ByteArray.empty) 1 16 Tryd.underlying26 his hs0 hs1 hs2 rfl (by decide) (f 6) _ _ rfl hownA (f 9) _ _ rfl hownS ?c0 ?c1 ?c3 (by decide) ?c5 ?_
          case c0 => exact (by decide : 0 < 2)
          case c1 => intro u hu; simp [rbX] at hu; rcases hu with rfl | rfl <;> rfl
          case c3 => simp only [rbL]; omega
          case c5 => exact h.be.size
          intro v' W' hown' hgrow hat
          go_wp2_with fail
          change (listed.setIfInBounds 10 true).size = 12 ∧ _
          refine ⟨by simp [hsz], trivial, upd f 10 v', upd g' 10 v', ?_, h.app (by omega) hng (by omega) (by decide) (by decide) (by decide) rfl g6 hown' rfl rfl hgrow hat⟩
          simp only [rbAct, upd, hg1, hg2, hg6]
          try rfl
        · have hall : ∀ j, j < 11 → got listed j := by
            intro j hj
            have hj2 : j = 0 ∨ j = 1 ∨ j = 2 ∨ j = 3 ∨ j = 4 ∨ j = 5 ∨ j = 6 ∨ j = 7 ∨ j = 8 ∨ j = 9 ∨ j = 10 := by omega
            rcases hj2 with rfl | rfl | rfl | rfl | rfl | rfl | rfl | rfl | rfl | rfl | rfl
            all_goals exact haft ⟨_, .phase⟩ (by simp) rfl
          refine wpOp_of_list rfl ?_
          simp only [rbAct, hg1, hg2, hg6]
          go_wp2_with fail
          change (listed.setIfInBounds 11 true).size = 12 ∧ _
          refine ⟨by simp [hsz], trivial, upd f 11 (f 10), upd g' 11 (f 10), ?_, h.pass (by omega) hng hall (by decide) (by decide) (by decide) rfl (hall 10 (by omega)) rfl rfl⟩
          simp only [rbAct, upd, hg1, hg2, hg6]
          try rfl
      case hd =>
        rintro listed a wc ⟨hsz, hx, f, g', rfl, h⟩ hr
        have hall := ready_all (listed := listed) (by kernel_rfl) (by rw [hsz]; rfl) hr
        have hown := h.own (j := 11) (by decide) (hall 11 (by decide)) (ngot_out (by rw [hsz]; decide))
        have ho5 : wc.ownsRow w0.heap.size 9 1 (f 11) (0 + n1' + 2) (([] ++ wsB ws1) ++ [.string ⟨#[97, 115]⟩, .string g]) := hown
        have hg5 := h.be
        clear hr h hall hown harr hg
        simp only [rbAct, hg1, hg6]
        generalize f 11 = s5 at *
        have R : Hid (WordsR (Tm.words m (.cast bt v)) W (.returned s5) wc) := wordsR_put HW0.out ho5 hg5 (by rw [HWD.out, HN1.out]; simp) (by rw [HWD.out, wsB_app, wsB_cons, wsB_cons, wsB_nil, HG.out]; rfl)
        clear ho5 hg5
        go_wp2_with fail
        go_ret
        exact R.out
end Go.Proofs.YtfjmjlpobbjjdaaDoor
