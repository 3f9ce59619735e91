/- Walks of the program: the words (Expr.words). -/
import Derived.Test.YtfjmjlpobbjjdaaDoorWdC
import Derived.Test.YtfjmjlpobbjjdaaDoorNA
import Derived.Test.YtfjmjlpobbjjdaaDoorWA
namespace Ilp
/-- The words, and of which part each is. -/
def cntW : Tm → Int
  | .num _ => 1
  | .name _ => 1
  | .two _ a b => 1 + cntW a + cntW b
  | .cast _ a => cntW a
def srcW : Nat → Tm → Int → List (List UInt8 × Int)
  | _, .num n, q => [(dec n, q)]
  | _, .name s, q => [(s, q)]
  | m, .two o a b, q => if lev o < m then ([40], -1) :: ((srcW (max 2 (lev o)) a (q + 1) ++ [(opText o, q)]) ++ srcW (lev o + 1) b (q + 1 + cntW a)) ++ [([41], -1)] else (srcW (max 2 (lev o)) a (q + 1) ++ [(opText o, q)]) ++ srcW (lev o + 1) b (q + 1 + cntW a)
  | _, .cast t a, q => srcW 4 a q ++ [(wAs, -1), (tyText t, -1)]
theorem srcW_fst : ∀ (u : Tm) (m : Nat) (q : Int), (srcW m u q).map (·.1) = u.words m := by
  intro u
  induction u with
  | num n => intro m q; rfl
  | name s => intro m q; rfl
  | two o a b iha ihb =>
    intro m q
    simp only [srcW, Tm.words, brk]
    by_cases h : lev o < m
    · rw [if_pos h, if_pos (by simp [h])]; simp [iha, ihb]
    · rw [if_neg h, if_neg (by simp [h])]; simp [iha, ihb]
  | cast t a iha => intro m q; simp [srcW, Tm.words, iha]
theorem srcW_len (u : Tm) (m : Nat) (q : Int) : (srcW m u q).length = (u.words m).length := by rw [← srcW_fst u m q, List.length_map]
theorem cntW_le : ∀ u : Tm, 1 ≤ cntW u ∧ cntW u ≤ (u.size : Int) := by
  intro u
  induction u with
  | num n => exact ⟨by simp [cntW], by simp [cntW, Tm.size]⟩
  | name s => exact ⟨by simp [cntW], by simp [cntW, Tm.size]⟩
  | two o a b iha ihb => simp only [cntW, Tm.size]; omega
  | cast t a iha => simp only [cntW, Tm.size]; omega
theorem srcW_ne (u : Tm) (m : Nat) (q : Int) : 0 < (srcW m u q).length := by rw [srcW_len]; exact List.length_pos_iff.2 (words_ne _ _)
end Ilp
namespace Go.Proofs.YtfjmjlpobbjjdaaDoor
open Go.RowKit Ilp
set_option linter.unusedVariables false
set_option linter.unusedSimpArgs false

theorem srcInfo : (Tryd.prog.info? 95).map (fun i => (i.zero, i.size, i.bytes)) = some (some (.agg #[.string ByteArray.empty, .int .i64 0]), 2, 24) := by kernel_rfl
/-- Pairs, as they lie in memory. -/
def prs : List (List UInt8 × Int) → List Value
  | [] => []
  | p :: l => .string (mkB p.1) :: .int .i64 p.2 :: prs l
theorem prs_app : ∀ (a b : List (List UInt8 × Int)), prs (a ++ b) = prs a ++ prs b
  | [], b => rfl
  | p :: a, b => by simp [prs, prs_app a b]
theorem prs_one : ∀ {l : List (List UInt8 × Int)}, ∀ u ∈ prs l, u.oneCell' = true
  | [], u, h => by simp [prs] at h
  | p :: l, u, h => by
    simp only [prs, List.mem_cons] at h
    rcases h with rfl | rfl | h
    · rfl
    · rfl
    · exact prs_one u h
theorem prs_len : ∀ (l : List (List UInt8 × Int)), (prs l).length = l.length * 2
  | [] => rfl
  | p :: l => by simp [prs, prs_len l]; omega
def SrcR (zs : List (List UInt8 × Int)) (P : Nat) (q : Int) (W : World) (e : Ending) (w' : World) : Prop := ∃ v, e = .returned v ∧ w'.ownsRow W.heap.size 95 2 v zs.length (prs zs) ∧ Blk w' P 3 [.int .i64 q] ∧ W.grownBy w' (some P)
theorem srcR_put {zs : List (List UInt8 × Int)} {P : Nat} {q : Int} {W w0 w3 : World} {v : Value} {n : Nat} {us : List Value} {o : Obj} (h0 : w0 = W.alloc o) (ho : w3.ownsRow w0.heap.size 95 2 v n us) (hb : Blk w3 P 3 [.int .i64 q]) (hg : w0.grownBy w3 (some P)) (hn : n = zs.length) (hz : us = prs zs) : SrcR zs P q W (.returned v) w3 := by
  subst h0 hn hz
  exact ⟨v, rfl, ho.mono (by simp), hb, (World.grownBy_alloc W o (some P)).trans hg⟩
theorem grown_set (w : World) (P i : Nat) (v : Value) : w.grownBy (w.setCell ⟨P, i, none⟩ v) (some P) := ⟨rfl, rfl, rfl, by simp [World.setCell], fun k _ hk => Below.heap_setCell w _ v k (fun e => hk (by rw [e]))⟩
theorem cellsP {W : World} {P : Nat} {T : TypeId} {v : Value} (h : Blk W P T [v]) : W.cell? ⟨P, 0, none⟩ = some v ∧ W.frozen? ⟨P, 0, none⟩ = false := ⟨h.cell 0, h.frozen 0⟩
/-- What the next number is: before the call, behind it. -/
def NxK (P : Nat) (q1 q2 : Int) (c : Nat) (listed : Array Bool) (W : World) : Prop := Blk W P 3 [.int .i64 (if listed.getD c false = true then q2 else q1)]
section
variable {P : Nat} {q1 q2 : Int} {c : Nat} {listed : Array Bool} {W W' : World}
theorem NxK.other (h : NxK P q1 q2 c listed W) {i : Nat} (hi : i ≠ c) : NxK P q1 q2 c (listed.setIfInBounds i true) W := by
  unfold NxK at h ⊢; rw [getD_set_same hi]; exact h
theorem NxK.grown (h : NxK P q1 q2 c listed W) {r : Option Nat} (hg : W.grownBy W' r) (hr : r ≠ some P) : NxK P q1 q2 c listed W' := blk_apart (by exact h) hg hr
theorem NxK.call (hb : Blk W P 3 [.int .i64 q2]) (hc : c < listed.size) : NxK P q1 q2 c (listed.setIfInBounds c true) W := by
  unfold NxK; rw [show (listed.setIfInBounds c true).getD c false = true from got_set_self hc, if_pos rfl]; exact hb
theorem NxK.before (h : NxK P q1 q2 c listed W) (hn : ¬ got listed c) : Blk W P 3 [.int .i64 q1] := by
  unfold NxK at h; rw [ngot_false hn] at h; simpa using h
theorem NxK.after (h : NxK P q1 q2 c listed W) (hn : got listed c) : Blk W P 3 [.int .i64 q2] := by
  unfold NxK at h; rw [show listed.getD c false = true from hn, if_pos rfl] at h; exact h
theorem NxK.init {n : Nat} (h : Blk W P 3 [.int .i64 q1]) : NxK P q1 q2 c (Array.replicate n false) W := by
  unfold NxK
  rw [show (Array.replicate n false).getD c false = false by rw [Array.getD_eq_getD_getElem?, Array.getElem?_replicate]; split <;> rfl]
  simpa using h
end
theorem max_2 (b : Int) : ∀ ats ty, Builtin.max_ ats ty #[.int .i64 2, .int .i64 b] = pure (.int .i64 (max 2 b)) := by
  intro ats ty
  have e : Builtin.max_ ats ty #[.int .i64 2, .int .i64 b] = (pure (.int .i64 (if b > 2 then b else 2)) : Sem Value) := by
    simp [Builtin.max_, Builtin.max2]
  rw [e]; congr 2; split <;> omega
def rcAct (g f : Nat → Value) : Act := { tmps := #[g 0, g 1, g 2, g 3, g 4, g 5, g 6, g 7, g 8, f 6, f 7, g 11, g 12, g 13, g 14, g 15, g 16, g 17, g 18, g 19, g 20, g 21, g 22, g 23, g 24, g 25, g 26, g 27, g 28, g 29, g 30, g 31, g 32, g 33, g 34, g 35, g 36, f 0, f 1, f 2, f 3, f 4, f 5, g 43, g 44, g 45, g 46, g 47, g 48, g 49, g 50, g 51, g 52, g 53, g 54, g 55, g 56, g 57, g 58, g 59, g 60, g 61, g 62, g 63, g 64, g 65, g 66, g 67, g 68, g 69, g 70, g 71, g 72, g 73, g 74, g 75, g 76, g 77, g 78, g 79, g 80, g 81, g 82, g 83, g 84, g 85, g 86, g 87, g 88, g 89, g 90, g 91, g 92, g 93, g 94, g 95, g 96], defers := [] }
def rcS : Nat → Nat
  | 0 => 37
  | 1 => 38
  | 2 => 39
  | 3 => 40
  | 4 => 41
  | 5 => 42
  | 6 => 9
  | 7 => 10
  | _ => 0
def rcR : List Nat := []
def rcU : Nat → Nat
  | _ => 1000
def rcL  : Nat → Nat
  | _ => 0
def rcX  : Nat → List Value
  | _ => []
def rcC (X P : Nat) (g : ByteArray) (q : Int) (K : Nat) : Nat → Value
  | 0 => (.pointer (some ⟨P, 0, none⟩))
  | 1 => (.pointer (some ⟨P, 0, none⟩))
  | 2 => (.int .i64 q)
  | 3 => (.pointer (some ⟨X, 2, none⟩))
  | 4 => (.string g)
  | 5 => (.int .i64 (K : Int))
  | 6 => (.int .i64 q)
  | 7 => (.int .i64 (K : Int))
  | _ => undef
def rdAct (g f : Nat → Value) : Act := { tmps := #[g 0, g 1, g 2, g 3, g 4, g 5, g 6, f 14, g 8, g 9, g 10, g 11, g 12, g 13, g 14, g 15, g 16, g 17, g 18, g 19, g 20, g 21, g 22, g 23, g 24, g 25, g 26, g 27, g 28, g 29, g 30, g 31, g 32, g 33, g 34, g 35, g 36, g 37, g 38, g 39, g 40, g 41, g 42, g 43, g 44, g 45, g 46, g 47, f 0, f 1, f 2, f 3, f 4, f 5, f 6, f 7, f 8, f 9, f 10, f 11, f 12, f 13, g 62, g 63, g 64, g 65, g 66, g 67, g 68, g 69, g 70, g 71, g 72, g 73, g 74, g 75, g 76, g 77, g 78, g 79, g 80, g 81, g 82, g 83, g 84, g 85, g 86, g 87, g 88, g 89, g 90, g 91, g 92, g 93, g 94, g 95, g 96], defers := [] }
def rdS : Nat → Nat
  | 0 => 48
  | 1 => 49
  | 2 => 50
  | 3 => 51
  | 4 => 52
  | 5 => 53
  | 6 => 54
  | 7 => 55
  | 8 => 56
  | 9 => 57
  | 10 => 58
  | 11 => 59
  | 12 => 60
  | 13 => 61
  | 14 => 7
  | _ => 0
def rdR : List Nat := [7, 12, 13, 14]
def rdU : Nat → Nat
  | 7 => 13
  | 12 => 13
  | 13 => 14
  | _ => 1000
def rdL (n1 : Nat) : Nat → Nat
  | 7 => n1
  | 12 => 1
  | 13 => n1 + 1
  | 14 => n1 + 1
  | _ => 0
def rdX (g : ByteArray) (q : Int) (z1 : List Value) : Nat → List Value
  | 7 => z1
  | 12 => [.string g, .int .i64 q]
  | 13 => z1 ++ [.string g, .int .i64 q]
  | 14 => z1 ++ [.string g, .int .i64 q]
  | _ => []
def rdC (X b o c P : Nat) (g : ByteArray) (q : Int) (K L : Nat) (x1 : Value) : Nat → Value
  | 0 => (.pointer (some ⟨X, 3, none⟩))
  | 1 => (.slice (some ⟨b, o, none⟩) 2 c)
  | 2 => (.pointer (some ⟨b, o, none⟩))
  | 3 => x1
  | 4 => (.int .i64 (K : Int))
  | 5 => (.int .i64 (L : Int))
  | 6 => (.pointer (some ⟨P, 0, none⟩))
  | 8 => (.pointer (some ⟨X, 2, none⟩))
  | 9 => (.string g)
  | 10 => (.int .i64 q)
  | 11 => (.agg #[.string g, .int .i64 q])
  | _ => undef
def reAct (g f : Nat → Value) : Act := { tmps := #[g 0, g 1, g 2, g 3, g 4, g 5, g 6, f 12, g 8, g 9, g 10, g 11, g 12, g 13, g 14, g 15, g 16, g 17, g 18, g 19, g 20, g 21, g 22, g 23, g 24, g 25, g 26, g 27, g 28, g 29, g 30, g 31, g 32, g 33, g 34, g 35, g 36, g 37, g 38, g 39, g 40, g 41, g 42, g 43, g 44, g 45, g 46, g 47, g 48, g 49, g 50, g 51, g 52, g 53, g 54, g 55, g 56, g 57, g 58, g 59, g 60, g 61, g 62, g 63, g 64, g 65, g 66, g 67, g 68, g 69, g 70, g 71, g 72, g 73, g 74, g 75, g 76, g 77, g 78, g 79, g 80, g 81, g 82, g 83, f 0, f 1, f 2, f 3, f 4, f 5, f 6, f 7, f 8, f 9, f 10, f 11, g 96], defers := [] }
def reS : Nat → Nat
  | 0 => 84
  | 1 => 85
  | 2 => 86
  | 3 => 87
  | 4 => 88
  | 5 => 89
  | 6 => 90
  | 7 => 91
  | 8 => 92
  | 9 => 93
  | 10 => 94
  | 11 => 95
  | 12 => 7
  | _ => 0
def reR : List Nat := [5, 10, 11, 12]
def reU : Nat → Nat
  | 5 => 11
  | 10 => 11
  | 11 => 12
  | _ => 1000
def reL (n1 : Nat) : Nat → Nat
  | 5 => n1
  | 10 => 2
  | 11 => n1 + 2
  | 12 => n1 + 2
  | _ => 0
def reX (g : ByteArray) (z1 : List Value) : Nat → List Value
  | 5 => z1
  | 10 => [.string ⟨#[97, 115]⟩, .int .i64 (-1), .string g, .int .i64 (-1)]
  | 11 => z1 ++ [.string ⟨#[97, 115]⟩, .int .i64 (-1), .string g, .int .i64 (-1)]
  | 12 => z1 ++ [.string ⟨#[97, 115]⟩, .int .i64 (-1), .string g, .int .i64 (-1)]
  | _ => []
def reC (X b o c P : Nat) (g : ByteArray) (x1 : Value) : Nat → Value
  | 0 => (.pointer (some ⟨X, 3, none⟩))
  | 1 => (.slice (some ⟨b, o, none⟩) 1 c)
  | 2 => (.pointer (some ⟨b, o, none⟩))
  | 3 => x1
  | 4 => (.pointer (some ⟨P, 0, none⟩))
  | 6 => (.agg #[.string ⟨#[97, 115]⟩, .int .i64 (-1)])
  | 7 => (.pointer (some ⟨X, 2, none⟩))
  | 8 => (.string g)
  | 9 => (.agg #[.string g, .int .i64 (-1)])
  | _ => undef

def ImW (d : Nat) : Prop := ∀ (k n : Int) (g : ByteArray) (A : Option Addr) (l c : Nat) (t : Ex) (u : Tm) (m : Nat) (q : Int) (P : Nat) (V W : World), IsEV V [.int .i64 k, .int .i64 n, .string g, .slice A l c] t → Below V.heap.size V W → Tabs V → V.heap.size ≤ P → P < W.heap.size → Blk W P 3 [.int .i64 q] → ofEx d t = some u → u.size ≤ 100 → m ≤ 5 → 0 ≤ q → q + (u.size : Int) ≤ 1000 →
  Calls Tryd.prog 58 #[.agg #[.int .i64 k, .int .i64 n, .string g, .slice A l c], .int .i64 (m : Int), .pointer (some ⟨P, 0, none⟩)] W (SrcR (srcW m u q) P (q + cntW u) W)
set_option maxHeartbeats 8000000 in
set_option maxRecDepth 20000 in
theorem implWords (d : Nat) : ImW d := by
  induction d with
  | zero => intro k n g A l c t u m q P V W h hV hT hVP hPW hP hu; cases hu
  | succ d ih =>
    intro k n g A l c t u m q P V W h hV hT hVP hPW hP hu hsz hm hq0 hq1
    obtain ⟨is0, his, hs0, hs1, hs2⟩ := info_parts srcInfo
    have TC := Lib.hid (BoxC.made hV k n g A l c)
    have HPX : Hid (some P ≠ some W.heap.size) := by unfold Hid; simp; omega
    have HRV : Hid (∀ k, some P = some k → V.heap.size ≤ k) := by unfold Hid; intro k e; cases e; exact hVP
    obtain ⟨q1, q2, q3, q4, h5, h6, h7, dd, hk⟩ := h.parts
    have IH := Lib.hid ih
    have HT := Lib.hid hT
    have HP := Lib.hid hP
    have hm0 : (0 : Int) ≤ (m : Int) := by omega
    have hm4 : (m : Int) ≤ 5 := by omega
    clear h ih h5 h6 h7 hT hP
    rcases ofEx_cases hu with ⟨hk1, hs, hks, h0, h1, rfl⟩ | ⟨hk1, h0, hks, rfl⟩ | ⟨hk1, h0, x, y, o, v1, v2, hks, hx, hy, rfl, hs⟩ | ⟨hk1, h0, x, bt, v, hks, hx, rfl, hs⟩
    · rw [hk1] at q1; subst q1
      obtain ⟨NN, hN⟩ : ∃ NN : Nat, n = (NN : Int) := ⟨t.num.toNat, by rw [q2]; exact (Int.toNat_of_nonneg h0).symm⟩
      have hN2 : t.num.toNat = NN := by rw [← q2, hN]; simp
      have hNN : (NN : Int) ≤ 1000000 := by rw [← hN, q2]; exact h1
      have hN0 : (0 : Int) ≤ (NN : Int) := by omega
      rw [hN2] at hq1 ⊢
      subst hN
      have hq2 : q ≤ 1000 := by simp only [Tm.size] at hq1; omega
      have HIT : Hid (ByteArray.mk (Lib.itoa (NN : Int)).toArray = mkB (dec NN)) := by unfold Hid; rw [itoa_dec]; rfl
      clear q2 q3 q4 hu hk1 hs hks h0 h1 IH hk hsz hN2 hq1
      go_enter Tryd.func58, Tryd.ntmps58
      go_upto_region 1 with (fail)
      obtain ⟨w0, hw0⟩ : ∃ w0, w0 = W.alloc (.cells #[.int .i64 1, .int .i64 (NN : Int), .string g, .slice A l c] 25) := ⟨_, rfl⟩
      have HP0 : Hid (Blk w0 P 3 [.int .i64 q]) := by unfold Hid; rw [hw0]; exact HP.out.alloc _
      have hPw : P < w0.heap.size := HP0.out.lt
      rw [← hw0] at TC ⊢
      have HW0 := Lib.hid hw0
      obtain ⟨X, hX⟩ : ∃ X, X = W.heap.size := ⟨_, rfl⟩
      rw [← hX] at TC HPX ⊢
      clear hw0 hX
      obtain ⟨a0, a1, a2, a3⟩ := TC.out.box
      go_wp2_with fail
      refine (Tryd.strconv_Itoa (NN : Int) (by omega) (by omega) w0 (HT.out.keep TC.out.bv).pow).mono ?_
      rintro e w1 ⟨he, kk, os, hw1⟩
      rw [HIT.out] at he
      subst he
      have hb1 : Below w0.heap.size w0 w1 := by rw [hw1]; exact below_regrown w0 (w0.drawn + kk) os
      have G1 := Lib.hid (below_grown hb1 (some P))
      have P1 : Hid (Blk w1 P 3 [.int .i64 q]) := HP0.out.below hb1 HP0.out.lt
      have P2 : Hid (Blk (w1.alloc (.cells #[.string (mkB (dec NN)), .int .i64 q] 95)) P 3 [.int .i64 q]) := P1.out.alloc _
      have O2 : Hid ((w1.alloc (.cells #[.string (mkB (dec NN)), .int .i64 q] 95)).ownsRow w0.heap.size 95 2 (.slice (some ⟨w1.heap.size, 0, none⟩) 1 1) 1 [.string (mkB (dec NN)), .int .i64 q]) := World.ownsRow_lit w1 #[.string (mkB (dec NN)), .int .i64 q] 1 G1.out.size (by unfold maxLen; omega) rfl
      have R : Hid (SrcR (srcW m (.num NN) q) P (q + cntW (.num NN)) W (.returned (.slice (some ⟨w1.heap.size, 0, none⟩) 1 1)) ((w1.alloc (.cells #[.string (mkB (dec NN)), .int .i64 q] 95)).setCell ⟨P, 0, none⟩ (.int .i64 (q + 1)))) :=
        srcR_put HW0.out (own_apart O2.out (grown_set _ P 0 _) (fun k hk e => by have h1 := (O2.out.lt k hk).1; have h2 := HP0.out.lt; cases e; omega)) (P2.out.put 0 _) ((G1.out.trans (World.grownBy_alloc w1 _ (some P))).trans (grown_set _ P 0 _)) rfl rfl
      obtain ⟨p1, _⟩ := cellsP P1.out
      obtain ⟨p2, p3⟩ := cellsP P2.out
      clear a0 a1 a2 a3 hb1 hw1
      go_wp2_with fail
      go_ret
      exact R.out
    · rw [hk1] at q1; subst q1
      have hq2 : q ≤ 1000 := by simp only [Tm.size] at hq1; omega
      have HG : Hid (g = mkB t.txt) := q3
      clear q2 q3 q4 hu hk1 hks h0 IH hk hsz hq1
      go_enter Tryd.func58, Tryd.ntmps58
      go_upto_region 1 with (fail)
      obtain ⟨w0, hw0⟩ : ∃ w0, w0 = W.alloc (.cells #[.int .i64 2, .int .i64 n, .string g, .slice A l c] 25) := ⟨_, rfl⟩
      have HP0 : Hid (Blk w0 P 3 [.int .i64 q]) := by unfold Hid; rw [hw0]; exact HP.out.alloc _
      have hPw : P < w0.heap.size := HP0.out.lt
      rw [← hw0] at TC ⊢
      have HW0 := Lib.hid hw0
      obtain ⟨X, hX⟩ : ∃ X, X = W.heap.size := ⟨_, rfl⟩
      rw [← hX] at TC HPX ⊢
      clear hw0 hX
      obtain ⟨a0, a1, a2, a3⟩ := TC.out.box
      have P2 : Hid (Blk (w0.alloc (.cells #[.string g, .int .i64 q] 95)) P 3 [.int .i64 q]) := HP0.out.alloc _
      have hsz0 : (w0.setCell ⟨P, 0, none⟩ (.int .i64 (q + 1))).heap.size = w0.heap.size := by simp [World.setCell]
      have O2 := World.ownsRow_lit (base := w0.heap.size) (e := 95) (size := 2) (w0.setCell ⟨P, 0, none⟩ (.int .i64 (q + 1))) #[.string g, .int .i64 q] 1 (by rw [hsz0]; exact Nat.le_refl _) (by unfold maxLen; omega) rfl
      rw [hsz0] at O2
      have R : Hid (SrcR (srcW m (.name t.txt) q) P (q + cntW (.name t.txt)) W (.returned (.slice (some ⟨w0.heap.size, 0, none⟩) 1 1)) ((w0.setCell ⟨P, 0, none⟩ (.int .i64 (q + 1))).alloc (.cells #[.string g, .int .i64 q] 95))) :=
        srcR_put HW0.out O2 ((HP0.out.put 0 _).alloc _) ((grown_set w0 P 0 _).trans (World.grownBy_alloc _ _ (some P))) rfl (by rw [HG.out]; rfl)
      clear hsz0 O2
      obtain ⟨p1, _⟩ := cellsP HP0.out
      obtain ⟨p2, p3⟩ := cellsP P2.out
      go_wp2_with fail
      go_ret
      exact R.out
    · rw [hk1] at q1; subst q1
      have HL2 := hks ▸ q4
      have HK2 : Hid (Kids _ (Low _) dd A [x, y]) := Lib.hid (hks ▸ hk)
      obtain rfl : l = 2 := by simpa using HL2
      obtain ⟨b, o', k1, n1, g1, A1, l1, c1, k2, n2, g2, A2, l2, c2, rfl, hbb, hev1, hev2, e0, e1, e2, e3, f0, f1, f2, f3⟩ := kid2 HK2.out
      have CE : Hid (Cel b o' k1 n1 g1 A1 l1 c1 V) := ⟨e0, e1, e2, e3⟩
      have CF : Hid (Cel b (o' + 4) k2 n2 g2 A2 l2 c2 V) := ⟨f0, f1, f2, f3⟩
      have hsz' : 1 + v1.size + v2.size ≤ 100 := hsz
      have hq1' : q + ((1 + v1.size + v2.size : Nat) : Int) ≤ 1000 := hq1
      obtain ⟨hlo, hhi⟩ := lev_pos o
      have HV0 := Lib.hid hVP
      obtain ⟨cl1, cl2⟩ := cntW_le v1
      have wl1 := words_len v1 (max 2 (lev o))
      have wl2 := words_len v2 (lev o + 1)
      rw [← srcW_len v1 (max 2 (lev o)) (q + 1)] at wl1
      rw [← srcW_len v2 (lev o + 1) (q + 1 + cntW v1)] at wl2
      have hp1 := srcW_ne v1 (max 2 (lev o)) (q + 1)
      have hp2 := srcW_ne v2 (lev o + 1) (q + 1 + cntW v1)
      have C1 := Lib.hid (fun W' (hb : Below V.heap.size V W') (h1 : P < W'.heap.size) (h2 : Blk W' P 3 [.int .i64 (q + 1)]) => IH.out k1 n1 g1 A1 l1 c1 x v1 (max 2 (lev o)) (q + 1) P V W' hev1 hb HT.out HV0.out h1 h2 hx (by omega) (by omega) (by omega) (by omega))
      have C2 := Lib.hid (fun W' (hb : Below V.heap.size V W') (h1 : P < W'.heap.size) (h2 : Blk W' P 3 [.int .i64 (q + 1 + cntW v1)]) => IH.out k2 n2 g2 A2 l2 c2 y v2 (lev o + 1) (q + 1 + cntW v1) P V W' hev2 hb HT.out HV0.out h1 h2 hy (by omega) (by omega) (by omega) (by omega))
      have hg : g = mkB (opText o) := by rw [q3, hs]
      have HG := Lib.hid hg
      have HTI := Lib.hid (fun w => implTight g w)
      have htg : tight g.data.toList = lev o := by rw [hg, mkB_data]; cases o <;> rfl
      rw [htg] at HTI
      have HWD : Hid (srcW m (.two o v1 v2) q = if lev o < m then ([40], -1) :: ((srcW (max 2 (lev o)) v1 (q + 1) ++ [(opText o, q)]) ++ srcW (lev o + 1) v2 (q + 1 + cntW v1)) ++ [([41], -1)] else (srcW (max 2 (lev o)) v1 (q + 1) ++ [(opText o, q)]) ++ srcW (lev o + 1) v2 (q + 1 + cntW v1)) := rfl
      have HCN : Hid (q + cntW (.two o v1 v2) = q + 1 + cntW v1 + cntW v2) := by unfold Hid; simp only [cntW]; omega
      obtain ⟨K, hK⟩ : ∃ K, K = lev o := ⟨_, rfl⟩
      rw [← hK] at C1 C2 wl1 wl2 hp1 hp2 HWD hlo hhi HTI
      obtain ⟨Q1, hQ1⟩ : ∃ z, z = q + 1 + cntW v1 := ⟨_, rfl⟩
      rw [← hQ1] at C1 C2 wl2 hp2 HWD HCN
      obtain ⟨Q2, hQ2⟩ : ∃ z, z = Q1 + cntW v2 := ⟨_, rfl⟩
      rw [← hQ2] at C2 HCN
      obtain ⟨ws1, hw1⟩ : ∃ ws, ws = srcW (max 2 K) v1 (q + 1) := ⟨_, rfl⟩
      obtain ⟨ws2, hw2⟩ : ∃ ws, ws = srcW (K + 1) v2 Q1 := ⟨_, rfl⟩
      rw [← hw1] at C1 wl1 hp1 HWD
      rw [← hw2] at C2 wl2 hp2 HWD
      obtain ⟨L, hL⟩ : ∃ L, L = max 2 K := ⟨_, rfl⟩
      rw [← hL] at C1
      have hmx := max_2 (K : Int)
      rw [show max 2 (K : Int) = (L : Int) by omega] at hmx
      obtain ⟨n1', hn1'⟩ : ∃ n, n = ws1.length := ⟨_, rfl⟩
      obtain ⟨n2', hn2'⟩ : ∃ n, n = ws2.length := ⟨_, rfl⟩
      have HN1 := Lib.hid hn1'
      have HN2 := Lib.hid hn2'
      have D1 : Hid (∀ W', Below V.heap.size V W' → P < W'.heap.size → Blk W' P 3 [.int .i64 (q + 1)] → Calls Tryd.prog 58 #[.agg #[.int .i64 k1, .int .i64 n1, .string g1, .slice A1 l1 c1], .int .i64 (L : Int), .pointer (some ⟨P, 0, none⟩)] W' fun e w' => ∃ v, e = .returned v ∧ w'.ownsRow W'.heap.size 95 2 v n1' (prs ws1) ∧ Blk w' P 3 [.int .i64 Q1] ∧ W'.grownBy w' (some P)) := by rw [hn1']; exact C1
      have D2 : Hid (∀ W', Below V.heap.size V W' → P < W'.heap.size → Blk W' P 3 [.int .i64 Q1] → Calls Tryd.prog 58 #[.agg #[.int .i64 k2, .int .i64 n2, .string g2, .slice A2 l2 c2], .int .i64 ((K : Int) + 1), .pointer (some ⟨P, 0, none⟩)] W' fun e w' => ∃ v, e = .returned v ∧ w'.ownsRow W'.heap.size 95 2 v n2' (prs ws2) ∧ Blk w' P 3 [.int .i64 Q2] ∧ W'.grownBy w' (some P)) := by rw [hn2', ← Int.natCast_succ]; exact C2
      rw [← hn1'] at wl1 hp1
      rw [← hn2'] at wl2 hp2
      have hs1' : n1' ≤ 500 := by omega
      have hs2' : n2' ≤ 500 := by omega
      have hq2 : q ≤ 1000 := by omega
      have hQ1b : Q1 ≤ 2000 := by omega
      have hQ1a : 0 ≤ Q1 := by omega
      clear IH HK2 HL2 hev1 hev2 hu h0 hks hx hy hs q2 q3 q4 hk1 hk hbb e0 e1 e2 e3 f0 f1 f2 f3 hg hK hw1 hw2 hL C1 C2 wl1 wl2 hsz hsz' hn1' hn2' hq1 hq1' cl1 cl2 hQ1 hQ2 htg
      go_enter Tryd.func58, Tryd.ntmps58
      go_upto_region 1 with (fail)
      obtain ⟨w0, hw0⟩ : ∃ w0, w0 = W.alloc (.cells #[.int .i64 3, .int .i64 n, .string g, .slice (some ⟨b, o', none⟩) 2 c] 25) := ⟨_, rfl⟩
      have HP0 : Hid (Blk w0 P 3 [.int .i64 q]) := by unfold Hid; rw [hw0]; exact HP.out.alloc _
      have hPw : P < w0.heap.size := HP0.out.lt
      rw [← hw0] at TC ⊢
      have HW0 := Lib.hid hw0
      obtain ⟨X, hX⟩ : ∃ X, X = W.heap.size := ⟨_, rfl⟩
      rw [← hX] at TC HPX ⊢
      clear hw0 hX
      obtain ⟨a0, a1, a2, a3⟩ := TC.out.box
      obtain ⟨p1, p1f⟩ := cellsP HP0.out
      go_upto_region 11 with (fail)
      clear a0 a1 a2 a3 p1 p1f
      refine region_of ?_
      intro arr harr
      obtain ⟨gA, hg⟩ : ∃ g : Nat → Value, g = fun j => arr.getD j undef := ⟨_, rfl⟩
      have hg1 : gA 1 = .int .i64 (m : Int) := by rw [hg, harr]; rfl
      have hg2 : gA 2 = .pointer (some ⟨P, 0, none⟩) := by rw [hg, harr]; rfl
      have hg3 : gA 3 = .pointer (some ⟨X, 0, none⟩) := by rw [hg, harr]; rfl
      have hg7 : gA 7 = .slice none 0 0 := by rw [hg, harr]; rfl
      refine wp_region_inv rfl (RgK 8 rcAct gA (NxK P q q 1000) (RgI w0 (some P) 95 2 rcR 1000 8 (gA 0) rcU rcL rcX (rcC X P g q K))) ?h0 ?hs ?hd
      case h0 =>
        refine ⟨by simp, NxK.init HP0.out, fun j => gA (rcS j), fun _ => (gA 0), by rw [hg, harr]; rfl, RgI.init (grown_drew (World.grownBy.refl w0 (some P))) (fun k e => by cases e; exact hPw) ?_ (by rw [hg, harr]; rfl)⟩
        exact fun e => absurd e (by decide)
      case hs =>
        clear hg harr
        rintro listed a W i ⟨hsz, hx, f, g', rfl, h⟩ hi
        obtain ⟨hn, o, ho, haft⟩ := mem_ready.1 hi
        have hiN : i < 8 := by have := (Array.getElem?_eq_some_iff.1 ho).1; simpa using this
        have hcs : i = 0 ∨ i = 1 ∨ i = 2 ∨ i = 3 ∨ i = 4 ∨ i = 5 ∨ i = 6 ∨ i = 7 := by omega
        clear hi hiN
        have hng := ngot hn
        rcases hcs with rfl | rfl | rfl | rfl | rfl | rfl | rfl | rfl
        all_goals (simp at ho; subst ho)
        · refine wpOp_of_list rfl ?_
          simp only [rcAct, hg1, hg2, hg3, hg7]
          go_wp2_with fail
          change (listed.setIfInBounds 0 true).size = 8 ∧ _
          refine ⟨by simp [hsz], hx.other (by decide), upd f 0 (.pointer (some ⟨P, 0, none⟩)), upd g' 0 (.pointer (some ⟨P, 0, none⟩)), ?_, h.quiet (by omega) hng (by omega) (by decide) (by decide) rfl (World.grownBy.refl W none) (.inl rfl)⟩
          simp only [rcAct, upd, hg1, hg2, hg3, hg7]
          try rfl
        · have g0 : got listed 0 := haft ⟨0, .data⟩ (by simp) rfl
          have e0 : f 0 = (.pointer (some ⟨P, 0, none⟩)) := h.cv 0 (by decide) g0
          refine wpOp_of_list rfl ?_
          simp only [rcAct, hg1, hg2, hg3, hg7, e0]
          go_wp2_with fail
          change (listed.setIfInBounds 1 true).size = 8 ∧ _
          refine ⟨by simp [hsz], hx.other (by decide), upd f 1 (.pointer (some ⟨P, 0, none⟩)), upd g' 1 (.pointer (some ⟨P, 0, none⟩)), ?_, h.quiet (by omega) hng (by omega) (by decide) (by decide) rfl (World.grownBy.refl W none) (.inl rfl)⟩
          simp only [rcAct, upd, hg1, hg2, hg3, hg7, e0]
          try rfl
        · have g1 : got listed 1 := haft ⟨1, .data⟩ (by simp) rfl
          have e1 : f 1 = (.pointer (some ⟨P, 0, none⟩)) := h.cv 1 (by decide) g1
          have HBP := hx.before (ngot_out (by rw [hsz]; decide))
          obtain ⟨p1, p2⟩ := cellsP HBP
          refine wpOp_of_list rfl ?_
          simp only [rcAct, hg1, hg2, hg3, hg7, e1]
          go_wp2_with fail
          change (listed.setIfInBounds 2 true).size = 8 ∧ _
          refine ⟨by simp [hsz], hx.other (by decide), upd f 2 (.int .i64 q), upd g' 2 (.int .i64 q), ?_, h.quiet (by omega) hng (by omega) (by decide) (by decide) rfl (World.grownBy.refl W none) (.inl rfl)⟩
          simp only [rcAct, upd, hg1, hg2, hg3, hg7, e1]
          try rfl
        · refine wpOp_of_list rfl ?_
          simp only [rcAct, hg1, hg2, hg3, hg7]
          go_wp2_with fail
          change (listed.setIfInBounds 3 true).size = 8 ∧ _
          refine ⟨by simp [hsz], hx.other (by decide), upd f 3 (.pointer (some ⟨X, 2, none⟩)), upd g' 3 (.pointer (some ⟨X, 2, none⟩)), ?_, h.quiet (by omega) hng (by omega) (by decide) (by decide) rfl (World.grownBy.refl W none) (.inl rfl)⟩
          simp only [rcAct, upd, hg1, hg2, hg3, hg7]
          try rfl
        · have g3 : got listed 3 := haft ⟨3, .data⟩ (by simp) rfl
          have e3 : f 3 = (.pointer (some ⟨X, 2, none⟩)) := h.cv 3 (by decide) g3
          have HBOX := (TC.out.grown h.be HPX.out HRV.out)
          obtain ⟨a0, a1, a2, a3⟩ := HBOX.box
          refine wpOp_of_list rfl ?_
          simp only [rcAct, hg1, hg2, hg3, hg7, e3]
          go_wp2_with fail
          change (listed.setIfInBounds 4 true).size = 8 ∧ _
          refine ⟨by simp [hsz], hx.other (by decide), upd f 4 (.string g), upd g' 4 (.string g), ?_, h.quiet (by omega) hng (by omega) (by decide) (by decide) rfl (World.grownBy.refl W none) (.inl rfl)⟩
          simp only [rcAct, upd, hg1, hg2, hg3, hg7, e3]
          try rfl
        · have g4 : got listed 4 := haft ⟨4, .data⟩ (by simp) rfl
          have e4 : f 4 = (.string g) := h.cv 4 (by decide) g4
          refine wpOp_of_list rfl ?_
          simp only [rcAct, hg1, hg2, hg3, hg7, e4]
          go_wp2_with fail
          refine (HTI.out W).mono ?_
          rintro e W' ⟨rfl, rfl⟩
          go_wp2_with fail
          change (listed.setIfInBounds 5 true).size = 8 ∧ _
          refine ⟨by simp [hsz], hx.other (by decide), upd f 5 (.int .i64 (K : Int)), upd g' 5 (.int .i64 (K : Int)), ?_, h.quiet (by omega) hng (by omega) (by decide) (by decide) rfl (World.grownBy.refl _ none) (.inl rfl)⟩
          simp only [rcAct, upd, hg1, hg2, hg3, hg7, e4]
          try rfl
        · have g2 : got listed 2 := haft ⟨2, .data⟩ (by simp) rfl
          have e2 : f 2 = (.int .i64 q) := h.cv 2 (by decide) g2
          refine wpOp_of_list rfl ?_
          simp only [rcAct, hg1, hg2, hg3, hg7, e2]
          go_wp2_with fail
          change (listed.setIfInBounds 6 true).size = 8 ∧ _
          refine ⟨by simp [hsz], hx.other (by decide), upd f 6 (.int .i64 q), upd g' 6 (.int .i64 q), ?_, h.quiet (by omega) hng (by omega) (by decide) (by decide) rfl (World.grownBy.refl W none) (.inl rfl)⟩
          simp only [rcAct, upd, hg1, hg2, hg3, hg7, e2]
          try rfl
        · have g5 : got listed 5 := haft ⟨5, .data⟩ (by simp) rfl
          have e5 : f 5 = (.int .i64 (K : Int)) := h.cv 5 (by decide) g5
          refine wpOp_of_list rfl ?_
          simp only [rcAct, hg1, hg2, hg3, hg7, e5]
          go_wp2_with fail
          change (listed.setIfInBounds 7 true).size = 8 ∧ _
          refine ⟨by simp [hsz], hx.other (by decide), upd f 7 (.int .i64 (K : Int)), upd g' 7 (.int .i64 (K : Int)), ?_, h.quiet (by omega) hng (by omega) (by decide) (by decide) rfl (World.grownBy.refl W none) (.inl rfl)⟩
          simp only [rcAct, upd, hg1, hg2, hg3, hg7, e5]
          try rfl
      case hd =>
        rintro listed a wc ⟨hsz, hx, f, g', rfl, h⟩ hr
        have hall := ready_all (listed := listed) (by kernel_rfl) (by rw [hsz]; rfl) hr
        have e6 : f 6 = .int .i64 q := h.cv 6 (by decide) (hall 6 (by decide))
        have e7 : f 7 = .int .i64 (K : Int) := h.cv 7 (by decide) (hall 7 (by decide))
        have GC := Lib.hid h.be
        have BP := Lib.hid (hx.before (ngot_out (by rw [hsz]; decide)))
        clear hr h hx hall harr hg
        simp only [rcAct, hg1, hg2, hg3, hg7, e6, e7]
        have hPc : P < wc.heap.size := Nat.lt_of_lt_of_le hPw GC.out.size
        obtain ⟨p1, p2⟩ := cellsP BP.out
        go_upto_region 13 with (fail)
        obtain ⟨wd, hwd⟩ : ∃ wd, wd = wc.setCell ⟨P, 0, none⟩ (.int .i64 (q + 1)) := ⟨_, rfl⟩
        have BD : Hid (Blk wd P 3 [.int .i64 (q + 1)]) := by unfold Hid; rw [hwd]; exact BP.out.put 0 _
        have GD : Hid (w0.grownBy wd (some P)) := by unfold Hid; rw [hwd]; exact GC.out.trans (grown_set _ P 0 _)
        rw [← hwd]
        clear hwd p1 p2 hPc BP GC
        refine region_of ?_
        intro arr harr
        obtain ⟨gA, hg⟩ : ∃ g : Nat → Value, g = fun j => arr.getD j undef := ⟨_, rfl⟩
        have hg1 : gA 1 = .int .i64 (m : Int) := by rw [hg, harr]; rfl
        have hg2 : gA 2 = .pointer (some ⟨P, 0, none⟩) := by rw [hg, harr]; rfl
        have hg3 : gA 3 = .pointer (some ⟨X, 0, none⟩) := by rw [hg, harr]; rfl
        have hg9 : gA 9 = .int .i64 q := by rw [hg, harr]; rfl
        have hg10 : gA 10 = .int .i64 (K : Int) := by rw [hg, harr]; rfl
        refine wp_region_inv rfl (RgK 15 rdAct gA (NxK P (q + 1) Q1 7) (RgI w0 (some P) 95 2 rdR 1000 14 (.slice none 0 0) rdU (rdL n1') (rdX g q (prs ws1)) (rdC X b o' c P g q K L (.agg #[.int .i64 k1, .int .i64 n1, .string g1, .slice A1 l1 c1])))) ?h0 ?hs ?hd
        case h0 =>
          refine ⟨by simp, NxK.init BD.out, fun j => gA (rdS j), fun _ => (.slice none 0 0), by rw [hg, harr]; rfl, RgI.init (grown_drew GD.out) (fun k e => by cases e; exact hPw) ?_ (by rw [hg, harr]; rfl)⟩
          exact fun e => absurd e (by decide)
        case hs =>
          clear hg harr
          rintro listed a W i ⟨hsz, hx, f, g', rfl, h⟩ hi
          obtain ⟨hn, o, ho, haft⟩ := mem_ready.1 hi
          have hiN : i < 15 := by have := (Array.getElem?_eq_some_iff.1 ho).1; simpa using this
          have hcs : i = 0 ∨ i = 1 ∨ i = 2 ∨ i = 3 ∨ i = 4 ∨ i = 5 ∨ i = 6 ∨ i = 7 ∨ i = 8 ∨ i = 9 ∨ i = 10 ∨ i = 11 ∨ i = 12 ∨ i = 13 ∨ i = 14 := by omega
          clear hi hiN
          have hng := ngot hn
          rcases hcs with rfl | rfl | rfl | rfl | rfl | rfl | rfl | rfl | rfl | rfl | rfl | rfl | rfl | rfl | rfl
          all_goals (simp at ho; subst ho)
          · refine wpOp_of_list rfl ?_
            simp only [rdAct, hg1, hg2, hg3, hg9, hg10]
            go_wp2_with fail
            change (listed.setIfInBounds 0 true).size = 15 ∧ _
            refine ⟨by simp [hsz], hx.other (by decide), upd f 0 (.pointer (some ⟨X, 3, none⟩)), upd g' 0 (.pointer (some ⟨X, 3, none⟩)), ?_, h.quiet (by omega) hng (by omega) (by decide) (by decide) rfl (World.grownBy.refl W none) (.inl rfl)⟩
            simp only [rdAct, upd, hg1, hg2, hg3, hg9, hg10]
            try rfl
          · have g0 : got listed 0 := haft ⟨0, .data⟩ (by simp) rfl
            have e0 : f 0 = (.pointer (some ⟨X, 3, none⟩)) := h.cv 0 (by decide) g0
            have HBOX := (TC.out.grown h.be HPX.out HRV.out)
            obtain ⟨a0, a1, a2, a3⟩ := HBOX.box
            refine wpOp_of_list rfl ?_
            simp only [rdAct, hg1, hg2, hg3, hg9, hg10, e0]
            go_wp2_with fail
            change (listed.setIfInBounds 1 true).size = 15 ∧ _
            refine ⟨by simp [hsz], hx.other (by decide), upd f 1 (.slice (some ⟨b, o', none⟩) 2 c), upd g' 1 (.slice (some ⟨b, o', none⟩) 2 c), ?_, h.quiet (by omega) hng (by omega) (by decide) (by decide) rfl (World.grownBy.refl W none) (.inl rfl)⟩
            simp only [rdAct, upd, hg1, hg2, hg3, hg9, hg10, e0]
            try rfl
          · have g1 : got listed 1 := haft ⟨1, .data⟩ (by simp) rfl
            have e1 : f 1 = (.slice (some ⟨b, o', none⟩) 2 c) := h.cv 1 (by decide) g1
            refine wpOp_of_list rfl ?_
            simp only [rdAct, hg1, hg2, hg3, hg9, hg10, e1]
            go_wp2_with fail
            change (listed.setIfInBounds 2 true).size = 15 ∧ _
            refine ⟨by simp [hsz], hx.other (by decide), upd f 2 (.pointer (some ⟨b, o', none⟩)), upd g' 2 (.pointer (some ⟨b, o', none⟩)), ?_, h.quiet (by omega) hng (by omega) (by decide) (by decide) rfl (World.grownBy.refl W none) (.inl rfl)⟩
            simp only [rdAct, upd, hg1, hg2, hg3, hg9, hg10, e1]
            try rfl
          · have g2 : got listed 2 := haft ⟨2, .data⟩ (by simp) rfl
            have e2 : f 2 = (.pointer (some ⟨b, o', none⟩)) := h.cv 2 (by decide) g2
            have HBOX := (TC.out.grown h.be HPX.out HRV.out)
            obtain ⟨a0, a1, a2, a3⟩ := CE.out.below HBOX.bv
            refine wpOp_of_list rfl ?_
            simp only [rdAct, hg1, hg2, hg3, hg9, hg10, e2]
            go_wp2_with fail
            change (listed.setIfInBounds 3 true).size = 15 ∧ _
            refine ⟨by simp [hsz], hx.other (by decide), upd f 3 (.agg #[.int .i64 k1, .int .i64 n1, .string g1, .slice A1 l1 c1]), upd g' 3 (.agg #[.int .i64 k1, .int .i64 n1, .string g1, .slice A1 l1 c1]), ?_, h.quiet (by omega) hng (by omega) (by decide) (by decide) rfl (World.grownBy.refl W none) (.inl rfl)⟩
            simp only [rdAct, upd, hg1, hg2, hg3, hg9, hg10, e2]
            try rfl
          · refine wpOp_of_list rfl ?_
            simp only [rdAct, hg1, hg2, hg3, hg9, hg10]
            go_wp2_with fail
            change (listed.setIfInBounds 4 true).size = 15 ∧ _
            refine ⟨by simp [hsz], hx.other (by decide), upd f 4 (.int .i64 (K : Int)), upd g' 4 (.int .i64 (K : Int)), ?_, h.quiet (by omega) hng (by omega) (by decide) (by decide) rfl (World.grownBy.refl W none) (.inl rfl)⟩
            simp only [rdAct, upd, hg1, hg2, hg3, hg9, hg10]
            try rfl
          · have g4 : got listed 4 := haft ⟨4, .data⟩ (by simp) rfl
            have e4 : f 4 = (.int .i64 (K : Int)) := h.cv 4 (by decide) g4
            refine wpOp_of_list rfl ?_
            simp only [rdAct, hg1, hg2, hg3, hg9, hg10, e4]
            go_wp2_with fail
            change (listed.setIfInBounds 5 true).size = 15 ∧ _
            refine ⟨by simp [hsz], hx.other (by decide), upd f 5 (.int .i64 (L : Int)), upd g' 5 (.int .i64 (L : Int)), ?_, h.quiet (by omega) hng (by omega) (by decide) (by decide) rfl (World.grownBy.refl W none) (.inl rfl)⟩
            simp only [rdAct, upd, hg1, hg2, hg3, hg9, hg10, e4]
            try rfl
          · refine wpOp_of_list rfl ?_
            simp only [rdAct, hg1, hg2, hg3, hg9, hg10]
            go_wp2_with fail
            change (listed.setIfInBounds 6 true).size = 15 ∧ _
            refine ⟨by simp [hsz], hx.other (by decide), upd f 6 (.pointer (some ⟨P, 0, none⟩)), upd g' 6 (.pointer (some ⟨P, 0, none⟩)), ?_, h.quiet (by omega) hng (by omega) (by decide) (by decide) rfl (World.grownBy.refl W none) (.inl rfl)⟩
            simp only [rdAct, upd, hg1, hg2, hg3, hg9, hg10]
            try rfl
          · have g3 : got listed 3 := haft ⟨3, .data⟩ (by simp) rfl
            have g5 : got listed 5 := haft ⟨5, .data⟩ (by simp) rfl
            have g6 : got listed 6 := haft ⟨6, .data⟩ (by simp) rfl
            have e3 : f 3 = (.agg #[.int .i64 k1, .int .i64 n1, .string g1, .slice A1 l1 c1]) := h.cv 3 (by decide) g3
            have e5 : f 5 = (.int .i64 (L : Int)) := h.cv 5 (by decide) g5
            have e6 : f 6 = (.pointer (some ⟨P, 0, none⟩)) := h.cv 6 (by decide) g6
            refine wpOp_of_list rfl ?_
            simp only [rdAct, hg1, hg2, hg3, hg9, hg10, e3, e5, e6]
            go_wp2_with fail
            have HBOX := (TC.out.grown h.be HPX.out HRV.out)
            refine (D1.out W HBOX.bv (Nat.lt_of_lt_of_le hPw h.be.size) (hx.before hng)).mono ?_
            rintro e W' ⟨v, rfl, hown, hnx, hgw⟩
            go_wp2_with fail
            change (listed.setIfInBounds 7 true).size = 15 ∧ _
            refine ⟨by simp [hsz], NxK.call hnx (by omega), upd f 7 v, upd g' 7 v, ?_, h.fresh (by omega) hng (by omega) (by decide) (by decide) hgw (.inr rfl) hown rfl rfl⟩
            simp only [rdAct, upd, hg1, hg2, hg3, hg9, hg10, e3, e5, e6]
            try rfl
          · refine wpOp_of_list rfl ?_
            simp only [rdAct, hg1, hg2, hg3, hg9, hg10]
            go_wp2_with fail
            change (listed.setIfInBounds 8 true).size = 15 ∧ _
            refine ⟨by simp [hsz], hx.other (by decide), upd f 8 (.pointer (some ⟨X, 2, none⟩)), upd g' 8 (.pointer (some ⟨X, 2, none⟩)), ?_, h.quiet (by omega) hng (by omega) (by decide) (by decide) rfl (World.grownBy.refl W none) (.inl rfl)⟩
            simp only [rdAct, upd, hg1, hg2, hg3, hg9, hg10]
            try rfl
          · have g8 : got listed 8 := haft ⟨8, .data⟩ (by simp) rfl
            have e8 : f 8 = (.pointer (some ⟨X, 2, none⟩)) := h.cv 8 (by decide) g8
            have HBOX := (TC.out.grown h.be HPX.out HRV.out)
            obtain ⟨a0, a1, a2, a3⟩ := HBOX.box
            refine wpOp_of_list rfl ?_
            simp only [rdAct, hg1, hg2, hg3, hg9, hg10, e8]
            go_wp2_with fail
            change (listed.setIfInBounds 9 true).size = 15 ∧ _
            refine ⟨by simp [hsz], hx.other (by decide), upd f 9 (.string g), upd g' 9 (.string g), ?_, h.quiet (by omega) hng (by omega) (by decide) (by decide) rfl (World.grownBy.refl W none) (.inl rfl)⟩
            simp only [rdAct, upd, hg1, hg2, hg3, hg9, hg10, e8]
            try rfl
          · refine wpOp_of_list rfl ?_
            simp only [rdAct, hg1, hg2, hg3, hg9, hg10]
            go_wp2_with fail
            change (listed.setIfInBounds 10 true).size = 15 ∧ _
            refine ⟨by simp [hsz], hx.other (by decide), upd f 10 (.int .i64 q), upd g' 10 (.int .i64 q), ?_, h.quiet (by omega) hng (by omega) (by decide) (by decide) rfl (World.grownBy.refl W none) (.inl rfl)⟩
            simp only [rdAct, upd, hg1, hg2, hg3, hg9, hg10]
            try rfl
          · have g9 : got listed 9 := haft ⟨9, .data⟩ (by simp) rfl
            have g10 : got listed 10 := haft ⟨10, .data⟩ (by simp) rfl
            have e9 : f 9 = (.string g) := h.cv 9 (by decide) g9
            have e10 : f 10 = (.int .i64 q) := h.cv 10 (by decide) g10
            refine wpOp_of_list rfl ?_
            simp only [rdAct, hg1, hg2, hg3, hg9, hg10, e9, e10]
            go_wp2_with fail
            change (listed.setIfInBounds 11 true).size = 15 ∧ _
            refine ⟨by simp [hsz], hx.other (by decide), upd f 11 (.agg #[.string g, .int .i64 q]), upd g' 11 (.agg #[.string g, .int .i64 q]), ?_, h.quiet (by omega) hng (by omega) (by decide) (by decide) rfl (World.grownBy.refl W none) (.inl rfl)⟩
            simp only [rdAct, upd, hg1, hg2, hg3, hg9, hg10, e9, e10]
            try rfl
          · have g11 : got listed 11 := haft ⟨11, .data⟩ (by simp) rfl
            have e11 : f 11 = (.agg #[.string g, .int .i64 q]) := h.cv 11 (by decide) g11
            refine wpOp_of_list rfl ?_
            simp only [rdAct, hg1, hg2, hg3, hg9, hg10, e11]
            go_wp2_with fail
            change (listed.setIfInBounds 12 true).size = 15 ∧ _
            refine ⟨by simp [hsz], NxK.other (hx.grown (World.grownBy_alloc W _ none) (by simp)) (by decide), upd f 12 (.slice (some ⟨W.heap.size, 0, none⟩) 1 1), upd g' 12 (.slice (some ⟨W.heap.size, 0, none⟩) 1 1), ?_, h.fresh (by omega) hng (by omega) (by decide) (by decide) (World.grownBy_alloc W _ none) (.inl rfl) (World.ownsRow_lit W #[.string g, .int .i64 q] 1 (Nat.le_refl _) (by unfold maxLen; omega) rfl) rfl rfl⟩
            simp only [rdAct, upd, hg1, hg2, hg3, hg9, hg10, e11]
            try rfl
          · have g7 : got listed 7 := haft ⟨7, .data⟩ (by simp) rfl
            have g12 : got listed 12 := haft ⟨12, .data⟩ (by simp) rfl
            have hownA := h.own (j := 7) (by decide) g7 (by exact hng)
            have hownS := h.own (j := 12) (by decide) g12 (by exact hng)
            refine wpOp_of_list rfl ?_
            simp only [rdAct]
            refine wpList_append_rows rfl (.tmp 55) (.tmp 60) 74 rfl w0.heap.size _ 95 is0 (.agg #[.string ByteArray.empty, .int .i64 0]) 2 24 Tryd.underlying74 his hs0 hs1 hs2 rfl (by decide) (f 7) _ _ rfl hownA (f 12) _ _ rfl hownS ?c0 ?c1 ?c3 (by decide) ?c5 ?_
            case c0 => exact (by decide : 0 < 1)
            case c1 => intro u hu; simp [rdX] at hu; rcases hu with rfl | rfl <;> rfl
            case c3 => simp only [rdL]; omega
            case c5 => exact h.be.size
            intro v' W' hown' hgrow hat
            go_wp2_with fail
            change (listed.setIfInBounds 13 true).size = 15 ∧ _
            refine ⟨by simp [hsz], NxK.other (hx.grown hgrow (fun e => by have h1 := (hownA.lt P e).1; omega)) (by decide), upd f 13 v', upd g' 13 v', ?_, h.app (by omega) hng (by omega) (by decide) (by decide) (by decide) rfl g7 hown' rfl rfl hgrow hat⟩
            simp only [rdAct, upd, hg1, hg2, hg3, hg9, hg10]
            try rfl
          · have hall : ∀ j, j < 14 → got listed j := by
              intro j hj
              have hj2 : j = 0 ∨ j = 1 ∨ j = 2 ∨ j = 3 ∨ j = 4 ∨ j = 5 ∨ j = 6 ∨ j = 7 ∨ j = 8 ∨ j = 9 ∨ j = 10 ∨ j = 11 ∨ j = 12 ∨ j = 13 := by omega
              rcases hj2 with rfl | rfl | rfl | rfl | rfl | rfl | rfl | rfl | rfl | rfl | rfl | rfl | rfl | rfl
              all_goals exact haft ⟨_, .phase⟩ (by simp) rfl
            refine wpOp_of_list rfl ?_
            simp only [rdAct, hg1, hg2, hg3, hg9, hg10]
            go_wp2_with fail
            change (listed.setIfInBounds 14 true).size = 15 ∧ _
            refine ⟨by simp [hsz], hx.other (by decide), upd f 14 (f 13), upd g' 14 (f 13), ?_, h.pass (by omega) hng hall (by decide) (by decide) (by decide) rfl (hall 13 (by omega)) rfl rfl⟩
            simp only [rdAct, upd, hg1, hg2, hg3, hg9, hg10]
            try rfl
        case hd =>
          rintro listed a wc ⟨hsz, hx, f, g', rfl, h⟩ hr
          have hall := ready_all (listed := listed) (by kernel_rfl) (by rw [hsz]; rfl) hr
          have hown := h.own (j := 14) (by decide) (hall 14 (by decide)) (ngot_out (by rw [hsz]; decide))
          have ho7 : wc.ownsRow w0.heap.size 95 2 (f 14) (n1' + 1) (prs ws1 ++ [.string g, .int .i64 q]) := hown
          have GE := Lib.hid h.be
          have BE := Lib.hid (hx.after (hall 7 (by decide)))
          clear hr h hx hall harr hg hown
          simp only [rdAct, hg1, hg2, hg3, hg9, hg10]
          generalize f 14 = s7 at *
          have HO7 := Lib.hid ho7
          clear ho7
          have BX := (TC.out.grown GE.out HPX.out HRV.out)
          obtain ⟨a0, a1, a2, a3⟩ := BX.box
          obtain ⟨f0, f1, f2, f3⟩ := CF.out.below BX.bv
          go_wp2_with fail
          refine (D2.out wc BX.bv (Nat.lt_of_lt_of_le hPw GE.out.size) BE.out).mono ?_
          rintro e we ⟨vv2, rfl, hown2, hb2, hg2'⟩
          have hpne : ∀ k, s7.ownBlock = some k → some P ≠ some k := fun k hk e => by have h1 := (HO7.out.lt k hk).1; cases e; omega
          have O7 : Hid (we.ownsRow w0.heap.size 95 2 s7 (n1' + 1) (prs ws1 ++ [.string g, .int .i64 q])) := own_apart HO7.out hg2' hpne
          have S7 := Lib.hid hown2
          have GF : Hid (w0.grownBy we (some P)) := GE.out.trans hg2'
          have BF := Lib.hid hb2
          have HPN := Lib.hid hpne
          clear a0 a1 a2 a3 f0 f1 f2 f3 hown2 hb2 hg2' BX hpne
          go_wp2_with (at_builtin; refine wpList_append_rows rfl _ _ 74 rfl w0.heap.size _ 95 is0 (.agg #[.string ByteArray.empty, .int .i64 0]) 2 24 Tryd.underlying74 his hs0 hs1 hs2 rfl (by decide) _ _ _ rfl O7.out _ _ _ rfl S7.out ?c0 ?c1 ?c3 (by decide) ?c5 ?_)
          case c0 => exact hp2
          case c1 => exact prs_one
          case c3 => omega
          case c5 => exact GF.out.size
          intro v3 w3 hown3 hgrow3 hat3
          obtain ⟨wsm, hwm⟩ : ∃ z, z = (ws1 ++ [(opText o, q)]) ++ ws2 := ⟨_, rfl⟩
          rw [← hwm] at HWD
          have hlen : n1' + 1 + n2' = wsm.length := by rw [hwm, HN1.out, HN2.out]; simp; omega
          have hxs : (prs ws1 ++ [.string g, .int .i64 q]) ++ prs ws2 = prs wsm := by rw [hwm, prs_app, prs_app, HG.out]; rfl
          replace hown3 : w3.ownsRow w0.heap.size 95 2 v3 wsm.length (prs wsm) := by rw [← hlen, ← hxs]; simpa using hown3
          have GH : Hid (w0.grownBy w3 (some P)) := GF.out.andThen hgrow3 (fun j hj => .inl (O7.out.lt j hj).1)
          have BH : Hid (Blk w3 P 3 [.int .i64 Q2]) := blk_apart BF.out hgrow3 (fun e => HPN.out P e rfl)
          have HO5 := Lib.hid hown3
          have hM : wsm.length ≤ 1001 := by omega
          have hM0 : 0 < wsm.length := by omega
          clear hwm hlen hxs hown3 hgrow3 hat3
          by_cases hb : K < m
          · have hb1 : ((K : Int) < (m : Int)) = True := by simp; omega
            rw [if_pos hb] at HWD
            have L3 : Hid ((w3.alloc (.cells #[.string ⟨#[40]⟩, .int .i64 (-1)] 95)).ownsRow w0.heap.size 95 2 (.slice (some ⟨w3.heap.size, 0, none⟩) 1 1) 1 [.string ⟨#[40]⟩, .int .i64 (-1)]) := World.ownsRow_lit w3 #[.string ⟨#[40]⟩, .int .i64 (-1)] 1 GH.out.size (by unfold maxLen; omega) rfl
            have S3 : Hid ((w3.alloc (.cells #[.string ⟨#[40]⟩, .int .i64 (-1)] 95)).ownsRow w0.heap.size 95 2 v3 wsm.length (prs wsm)) := HO5.out.alloc _
            have G3 : Hid (w0.grownBy (w3.alloc (.cells #[.string ⟨#[40]⟩, .int .i64 (-1)] 95)) (some P)) := GH.out.trans (World.grownBy_alloc w3 _ (some P))
            have B3 : Hid (Blk (w3.alloc (.cells #[.string ⟨#[40]⟩, .int .i64 (-1)] 95)) P 3 [.int .i64 Q2]) := BH.out.alloc _
            clear hb
            go_wp2_with (at_builtin; refine wpList_append_rows rfl _ _ 74 rfl w0.heap.size _ 95 is0 (.agg #[.string ByteArray.empty, .int .i64 0]) 2 24 Tryd.underlying74 his hs0 hs1 hs2 rfl (by decide) _ _ _ rfl L3.out _ _ _ rfl S3.out ?c0 ?c1 ?c3 (by decide) ?c5 ?_)
            case c0 => exact hM0
            case c1 => exact prs_one
            case c3 => omega
            case c5 => exact G3.out.size
            intro v4 w4 hown4 hgrow4 _
            have G4 : Hid (w0.grownBy w4 (some P)) := G3.out.andThen hgrow4 (fun j hj => .inl (L3.out.lt j hj).1)
            have B4 : Hid (Blk w4 P 3 [.int .i64 Q2]) := blk_apart B3.out hgrow4 (fun e => by have h1 := (L3.out.lt P e).1; omega)
            have O4 : Hid ((w4.alloc (.cells #[.string ⟨#[41]⟩, .int .i64 (-1)] 95)).ownsRow w0.heap.size 95 2 v4 (1 + wsm.length) ([.string ⟨#[40]⟩, .int .i64 (-1)] ++ prs wsm)) := hown4.alloc _
            have L4 : Hid ((w4.alloc (.cells #[.string ⟨#[41]⟩, .int .i64 (-1)] 95)).ownsRow w0.heap.size 95 2 (.slice (some ⟨w4.heap.size, 0, none⟩) 1 1) 1 [.string ⟨#[41]⟩, .int .i64 (-1)]) := World.ownsRow_lit w4 #[.string ⟨#[41]⟩, .int .i64 (-1)] 1 G4.out.size (by unfold maxLen; omega) rfl
            have G5 : Hid (w0.grownBy (w4.alloc (.cells #[.string ⟨#[41]⟩, .int .i64 (-1)] 95)) (some P)) := G4.out.trans (World.grownBy_alloc w4 _ (some P))
            have B5 : Hid (Blk (w4.alloc (.cells #[.string ⟨#[41]⟩, .int .i64 (-1)] 95)) P 3 [.int .i64 Q2]) := B4.out.alloc _
            clear hown4 hgrow4
            go_wp2_with (at_builtin; refine wpList_append_rows rfl _ _ 74 rfl w0.heap.size _ 95 is0 (.agg #[.string ByteArray.empty, .int .i64 0]) 2 24 Tryd.underlying74 his hs0 hs1 hs2 rfl (by decide) _ _ _ rfl O4.out _ _ _ rfl L4.out ?c0 ?c1 ?c3 (by decide) ?c5 ?_)
            case c0 => decide
            case c1 => intro u hu; simp at hu; rcases hu with rfl | rfl <;> rfl
            case c3 => omega
            case c5 => exact G5.out.size
            intro v5 w5 hown5 hgrow5 _
            have R : Hid (SrcR (srcW m (.two o v1 v2) q) P (q + cntW (.two o v1 v2)) W (.returned v5) w5) := srcR_put HW0.out hown5 (by rw [HCN.out]; exact blk_apart B5.out hgrow5 (fun e => by have h1 := (O4.out.lt P e).1; omega)) (G5.out.andThen hgrow5 (fun j hj => .inl (O4.out.lt j hj).1)) (by rw [HWD.out]; simp; omega) (by rw [HWD.out]; simp [prs_app, prs]; exact ⟨rfl, rfl⟩)
            clear hown5 hgrow5
            go_wp2_with fail
            go_ret
            exact R.out
          · have hb1 : ((K : Int) < (m : Int)) = False := by simp; omega
            rw [if_neg hb] at HWD
            have R : Hid (SrcR (srcW m (.two o v1 v2) q) P (q + cntW (.two o v1 v2)) W (.returned v3) w3) := srcR_put HW0.out HO5.out (by rw [HCN.out]; exact BH.out) GH.out (by rw [HWD.out]) (by rw [HWD.out])
            clear hb
            go_wp2_with fail
            go_ret
            exact R.out
    · rw [hk1] at q1; subst q1
      have HL2 := hks ▸ q4
      have HK2 : Hid (Kids _ (Low _) dd A [x]) := Lib.hid (hks ▸ hk)
      obtain rfl : l = 1 := by simpa using HL2
      obtain ⟨b, o', k1, n1, g1, A1, l1, c1, rfl, hbb, hev1, e0, e1, e2, e3⟩ := kid1 HK2.out
      have CE : Hid (Cel b o' k1 n1 g1 A1 l1 c1 V) := ⟨e0, e1, e2, e3⟩
      have hsz' : 1 + v.size ≤ 100 := hsz
      have hq1' : q + ((1 + v.size : Nat) : Int) ≤ 1000 := hq1
      have HV0 := Lib.hid hVP
      obtain ⟨cl1, cl2⟩ := cntW_le v
      have wl1 := words_len v 4
      rw [← srcW_len v 4 q] at wl1
      have hp1 := srcW_ne v 4 q
      have C1 := Lib.hid (fun W' (hb : Below V.heap.size V W') (h1 : P < W'.heap.size) (h2 : Blk W' P 3 [.int .i64 q]) => IH.out k1 n1 g1 A1 l1 c1 x v 4 q P V W' hev1 hb HT.out HV0.out h1 h2 hx (by omega) (by omega) (by omega) (by omega))
      have hg : g = mkB (tyText bt) := by rw [q3, hs]
      have HG := Lib.hid hg
      have HWD : Hid (srcW m (.cast bt v) q = srcW 4 v q ++ [(wAs, -1), (tyText bt, -1)]) := rfl
      have HCN : Hid (q + cntW (.cast bt v) = q + cntW v) := rfl
      obtain ⟨Q1, hQ1⟩ : ∃ z, z = q + cntW v := ⟨_, rfl⟩
      rw [← hQ1] at C1 HCN
      obtain ⟨ws1, hw1⟩ : ∃ ws, ws = srcW 4 v q := ⟨_, rfl⟩
      rw [← hw1] at C1 wl1 hp1 HWD
      obtain ⟨n1', hn1'⟩ : ∃ n, n = ws1.length := ⟨_, rfl⟩
      have HN1 := Lib.hid hn1'
      have D1 : Hid (∀ W', Below V.heap.size V W' → P < W'.heap.size → Blk W' P 3 [.int .i64 q] → Calls Tryd.prog 58 #[.agg #[.int .i64 k1, .int .i64 n1, .string g1, .slice A1 l1 c1], .int .i64 4, .pointer (some ⟨P, 0, none⟩)] W' fun e w' => ∃ v, e = .returned v ∧ w'.ownsRow W'.heap.size 95 2 v n1' (prs ws1) ∧ Blk w' P 3 [.int .i64 Q1] ∧ W'.grownBy w' (some P)) := by rw [hn1']; exact C1
      rw [← hn1'] at wl1 hp1
      have hs1' : n1' ≤ 500 := by omega
      have hq2 : q ≤ 1000 := by omega
      clear IH HK2 HL2 hev1 hu h0 hks hx hs q2 q3 q4 hk1 hk hbb e0 e1 e2 e3 hg hw1 C1 wl1 hsz hsz' hn1' hq1 hq1' cl1 cl2 hQ1
      go_enter Tryd.func58, Tryd.ntmps58
      go_upto_region 1 with (fail)
      obtain ⟨w0, hw0⟩ : ∃ w0, w0 = W.alloc (.cells #[.int .i64 4, .int .i64 n, .string g, .slice (some ⟨b, o', none⟩) 1 c] 25) := ⟨_, rfl⟩
      have HP0 : Hid (Blk w0 P 3 [.int .i64 q]) := by unfold Hid; rw [hw0]; exact HP.out.alloc _
      have hPw : P < w0.heap.size := HP0.out.lt
      rw [← hw0] at TC ⊢
      have HW0 := Lib.hid hw0
      obtain ⟨X, hX⟩ : ∃ X, X = W.heap.size := ⟨_, rfl⟩
      rw [← hX] at TC HPX ⊢
      clear hw0 hX
      obtain ⟨a0, a1, a2, a3⟩ := TC.out.box
      go_upto_region 18 with (fail)
      clear a0 a1 a2 a3
      refine region_of ?_
      intro arr harr
      obtain ⟨gA, hg⟩ : ∃ g : Nat → Value, g = fun j => arr.getD j undef := ⟨_, rfl⟩
      have hg2 : gA 2 = .pointer (some ⟨P, 0, none⟩) := by rw [hg, harr]; rfl
      have hg3 : gA 3 = .pointer (some ⟨X, 0, none⟩) := by rw [hg, harr]; rfl
      refine wp_region_inv rfl (RgK 13 reAct gA (NxK P q Q1 5) (RgI w0 (some P) 95 2 reR 1000 12 (.slice none 0 0) reU (reL n1') (reX g (prs ws1)) (reC X b o' c P g (.agg #[.int .i64 k1, .int .i64 n1, .string g1, .slice A1 l1 c1])))) ?h0 ?hs ?hd
      case h0 =>
        refine ⟨by simp, NxK.init HP0.out, fun j => gA (reS j), fun _ => (.slice none 0 0), by rw [hg, harr]; rfl, RgI.init (grown_drew (World.grownBy.refl w0 (some P))) (fun k e => by cases e; exact hPw) ?_ (by rw [hg, harr]; rfl)⟩
        exact fun e => absurd e (by decide)
      case hs =>
        clear hg harr
        rintro listed a W i ⟨hsz, hx, f, g', rfl, h⟩ hi
        obtain ⟨hn, o, ho, haft⟩ := mem_ready.1 hi
        have hiN : i < 13 := by have := (Array.getElem?_eq_some_iff.1 ho).1; simpa using this
        have hcs : i = 0 ∨ i = 1 ∨ i = 2 ∨ i = 3 ∨ i = 4 ∨ i = 5 ∨ i = 6 ∨ i = 7 ∨ i = 8 ∨ i = 9 ∨ i = 10 ∨ i = 11 ∨ i = 12 := by omega
        clear hi hiN
        have hng := ngot hn
        rcases hcs with rfl | rfl | rfl | rfl | rfl | rfl | rfl | rfl | rfl | rfl | rfl | rfl | rfl
        all_goals (simp at ho; subst ho)
        · refine wpOp_of_list rfl ?_
          simp only [reAct, hg2, hg3]
          go_wp2_with fail
          change (listed.setIfInBounds 0 true).size = 13 ∧ _
          refine ⟨by simp [hsz], hx.other (by decide), upd f 0 (.pointer (some ⟨X, 3, none⟩)), upd g' 0 (.pointer (some ⟨X, 3, none⟩)), ?_, h.quiet (by omega) hng (by omega) (by decide) (by decide) rfl (World.grownBy.refl W none) (.inl rfl)⟩
          simp only [reAct, upd, hg2, hg3]
          try rfl
        · have g0 : got listed 0 := haft ⟨0, .data⟩ (by simp) rfl
          have e0 : f 0 = (.pointer (some ⟨X, 3, none⟩)) := h.cv 0 (by decide) g0
          have HBOX := (TC.out.grown h.be HPX.out HRV.out)
          obtain ⟨a0, a1, a2, a3⟩ := HBOX.box
          refine wpOp_of_list rfl ?_
          simp only [reAct, hg2, hg3, e0]
          go_wp2_with fail
          change (listed.setIfInBounds 1 true).size = 13 ∧ _
          refine ⟨by simp [hsz], hx.other (by decide), upd f 1 (.slice (some ⟨b, o', none⟩) 1 c), upd g' 1 (.slice (some ⟨b, o', none⟩) 1 c), ?_, h.quiet (by omega) hng (by omega) (by decide) (by decide) rfl (World.grownBy.refl W none) (.inl rfl)⟩
          simp only [reAct, upd, hg2, hg3, e0]
          try rfl
        · have g1 : got listed 1 := haft ⟨1, .data⟩ (by simp) rfl
          have e1 : f 1 = (.slice (some ⟨b, o', none⟩) 1 c) := h.cv 1 (by decide) g1
          refine wpOp_of_list rfl ?_
          simp only [reAct, hg2, hg3, e1]
          go_wp2_with fail
          change (listed.setIfInBounds 2 true).size = 13 ∧ _
          refine ⟨by simp [hsz], hx.other (by decide), upd f 2 (.pointer (some ⟨b, o', none⟩)), upd g' 2 (.pointer (some ⟨b, o', none⟩)), ?_, h.quiet (by omega) hng (by omega) (by decide) (by decide) rfl (World.grownBy.refl W none) (.inl rfl)⟩
          simp only [reAct, upd, hg2, hg3, e1]
          try rfl
        · have g2 : got listed 2 := haft ⟨2, .data⟩ (by simp) rfl
          have e2 : f 2 = (.pointer (some ⟨b, o', none⟩)) := h.cv 2 (by decide) g2
          have HBOX := (TC.out.grown h.be HPX.out HRV.out)
          obtain ⟨a0, a1, a2, a3⟩ := CE.out.below HBOX.bv
          refine wpOp_of_list rfl ?_
          simp only [reAct, hg2, hg3, e2]
          go_wp2_with fail
          change (listed.setIfInBounds 3 true).size = 13 ∧ _
          refine ⟨by simp [hsz], hx.other (by decide), upd f 3 (.agg #[.int .i64 k1, .int .i64 n1, .string g1, .slice A1 l1 c1]), upd g' 3 (.agg #[.int .i64 k1, .int .i64 n1, .string g1, .slice A1 l1 c1]), ?_, h.quiet (by omega) hng (by omega) (by decide) (by decide) rfl (World.grownBy.refl W none) (.inl rfl)⟩
          simp only [reAct, upd, hg2, hg3, e2]
          try rfl
        · refine wpOp_of_list rfl ?_
          simp only [reAct, hg2, hg3]
          go_wp2_with fail
          change (listed.setIfInBounds 4 true).size = 13 ∧ _
          refine ⟨by simp [hsz], hx.other (by decide), upd f 4 (.pointer (some ⟨P, 0, none⟩)), upd g' 4 (.pointer (some ⟨P, 0, none⟩)), ?_, h.quiet (by omega) hng (by omega) (by decide) (by decide) rfl (World.grownBy.refl W none) (.inl rfl)⟩
          simp only [reAct, upd, hg2, hg3]
          try rfl
        · have g3 : got listed 3 := haft ⟨3, .data⟩ (by simp) rfl
          have g4 : got listed 4 := haft ⟨4, .data⟩ (by simp) rfl
          have e3 : f 3 = (.agg #[.int .i64 k1, .int .i64 n1, .string g1, .slice A1 l1 c1]) := h.cv 3 (by decide) g3
          have e4 : f 4 = (.pointer (some ⟨P, 0, none⟩)) := h.cv 4 (by decide) g4
          refine wpOp_of_list rfl ?_
          simp only [reAct, hg2, hg3, e3, e4]
          go_wp2_with fail
          have HBOX := (TC.out.grown h.be HPX.out HRV.out)
          refine (D1.out W HBOX.bv (Nat.lt_of_lt_of_le hPw h.be.size) (hx.before hng)).mono ?_
          rintro e W' ⟨v, rfl, hown, hnx, hgw⟩
          go_wp2_with fail
          change (listed.setIfInBounds 5 true).size = 13 ∧ _
          refine ⟨by simp [hsz], NxK.call hnx (by omega), upd f 5 v, upd g' 5 v, ?_, h.fresh (by omega) hng (by omega) (by decide) (by decide) hgw (.inr rfl) hown rfl rfl⟩
          simp only [reAct, upd, hg2, hg3, e3, e4]
          try rfl
        · refine wpOp_of_list rfl ?_
          simp only [reAct, hg2, hg3]
          go_wp2_with fail
          change (listed.setIfInBounds 6 true).size = 13 ∧ _
          refine ⟨by simp [hsz], hx.other (by decide), upd f 6 (.agg #[.string ⟨#[97, 115]⟩, .int .i64 (-1)]), upd g' 6 (.agg #[.string ⟨#[97, 115]⟩, .int .i64 (-1)]), ?_, h.quiet (by omega) hng (by omega) (by decide) (by decide) rfl (World.grownBy.refl W none) (.inl rfl)⟩
          simp only [reAct, upd, hg2, hg3]
          try rfl
        · refine wpOp_of_list rfl ?_
          simp only [reAct, hg2, hg3]
          go_wp2_with fail
          change (listed.setIfInBounds 7 true).size = 13 ∧ _
          refine ⟨by simp [hsz], hx.other (by decide), upd f 7 (.pointer (some ⟨X, 2, none⟩)), upd g' 7 (.pointer (some ⟨X, 2, none⟩)), ?_, h.quiet (by omega) hng (by omega) (by decide) (by decide) rfl (World.grownBy.refl W none) (.inl rfl)⟩
          simp only [reAct, upd, hg2, hg3]
          try rfl
        · have g7 : got listed 7 := haft ⟨7, .data⟩ (by simp) rfl
          have e7 : f 7 = (.pointer (some ⟨X, 2, none⟩)) := h.cv 7 (by decide) g7
          have HBOX := (TC.out.grown h.be HPX.out HRV.out)
          obtain ⟨a0, a1, a2, a3⟩ := HBOX.box
          refine wpOp_of_list rfl ?_
          simp only [reAct, hg2, hg3, e7]
          go_wp2_with fail
          change (listed.setIfInBounds 8 true).size = 13 ∧ _
          refine ⟨by simp [hsz], hx.other (by decide), upd f 8 (.string g), upd g' 8 (.string g), ?_, h.quiet (by omega) hng (by omega) (by decide) (by decide) rfl (World.grownBy.refl W none) (.inl rfl)⟩
          simp only [reAct, upd, hg2, hg3, e7]
          try rfl
        · have g8 : got listed 8 := haft ⟨8, .data⟩ (by simp) rfl
          have e8 : f 8 = (.string g) := h.cv 8 (by decide) g8
          refine wpOp_of_list rfl ?_
          simp only [reAct, hg2, hg3, e8]
          go_wp2_with fail
          change (listed.setIfInBounds 9 true).size = 13 ∧ _
          refine ⟨by simp [hsz], hx.other (by decide), upd f 9 (.agg #[.string g, .int .i64 (-1)]), upd g' 9 (.agg #[.string g, .int .i64 (-1)]), ?_, h.quiet (by omega) hng (by omega) (by decide) (by decide) rfl (World.grownBy.refl W none) (.inl rfl)⟩
          simp only [reAct, upd, hg2, hg3, e8]
          try rfl
        · have g6 : got listed 6 := haft ⟨6, .data⟩ (by simp) rfl
          have g9 : got listed 9 := haft ⟨9, .data⟩ (by simp) rfl
          have e6 : f 6 = (.agg #[.string ⟨#[97, 115]⟩, .int .i64 (-1)]) := h.cv 6 (by decide) g6
          have e9 : f 9 = (.agg #[.string g, .int .i64 (-1)]) := h.cv 9 (by decide) g9
          refine wpOp_of_list rfl ?_
          simp only [reAct, hg2, hg3, e6, e9]
          go_wp2_with fail
          change (listed.setIfInBounds 10 true).size = 13 ∧ _
          refine ⟨by simp [hsz], NxK.other (hx.grown (World.grownBy_alloc W _ none) (by simp)) (by decide), upd f 10 (.slice (some ⟨W.heap.size, 0, none⟩) 2 2), upd g' 10 (.slice (some ⟨W.heap.size, 0, none⟩) 2 2), ?_, h.fresh (by omega) hng (by omega) (by decide) (by decide) (World.grownBy_alloc W _ none) (.inl rfl) (World.ownsRow_lit W #[.string ⟨#[97, 115]⟩, .int .i64 (-1), .string g, .int .i64 (-1)] 2 (Nat.le_refl _) (by unfold maxLen; omega) rfl) rfl rfl⟩
          simp only [reAct, upd, hg2, hg3, e6, e9]
          try rfl
        · have g5 : got listed 5 := haft ⟨5, .data⟩ (by simp) rfl
          have g10 : got listed 10 := haft ⟨10, .data⟩ (by simp) rfl
          have hownA := h.own (j := 5) (by decide) g5 (by exact hng)
          have hownS := h.own (j := 10) (by decide) g10 (by exact hng)
          refine wpOp_of_list rfl ?_
          simp only [reAct]
          refine wpList_append_rows rfl (.tmp 89) (.tmp 94) 74 rfl w0.heap.size _ 95 is0 (.agg #[.string ByteArray.empty, .int .i64 0]) 2 24 Tryd.underlying74 his hs0 hs1 hs2 rfl (by decide) (f 5) _ _ rfl hownA (f 10) _ _ rfl hownS ?c0 ?c1 ?c3 (by decide) ?c5 ?_
          case c0 => exact (by decide : 0 < 2)
          case c1 => intro u hu; simp [reX] at hu; rcases hu with rfl | rfl | rfl | rfl <;> rfl
          case c3 => simp only [reL]; omega
          case c5 => exact h.be.size
          intro v' W' hown' hgrow hat
          go_wp2_with fail
          change (listed.setIfInBounds 11 true).size = 13 ∧ _
          refine ⟨by simp [hsz], NxK.other (hx.grown hgrow (fun e => by have h1 := (hownA.lt P e).1; omega)) (by decide), upd f 11 v', upd g' 11 v', ?_, h.app (by omega) hng (by omega) (by decide) (by decide) (by decide) rfl g5 hown' rfl rfl hgrow hat⟩
          simp only [reAct, upd, hg2, hg3]
          try rfl
        · have hall : ∀ j, j < 12 → got listed j := by
            intro j hj
            have hj2 : j = 0 ∨ j = 1 ∨ j = 2 ∨ j = 3 ∨ j = 4 ∨ j = 5 ∨ j = 6 ∨ j = 7 ∨ j = 8 ∨ j = 9 ∨ j = 10 ∨ j = 11 := by omega
            rcases hj2 with rfl | rfl | rfl | rfl | rfl | rfl | rfl | rfl | rfl | rfl | rfl | rfl
            all_goals exact haft ⟨_, .phase⟩ (by simp) rfl
          refine wpOp_of_list rfl ?_
          simp only [reAct, hg2, hg3]
          go_wp2_with fail
          change (listed.setIfInBounds 12 true).size = 13 ∧ _
          refine ⟨by simp [hsz], hx.other (by decide), upd f 12 (f 11), upd g' 12 (f 11), ?_, h.pass (by omega) hng hall (by decide) (by decide) (by decide) rfl (hall 11 (by omega)) rfl rfl⟩
          simp only [reAct, upd, hg2, hg3]
          try rfl
      case hd =>
        rintro listed a wc ⟨hsz, hx, f, g', rfl, h⟩ hr
        have hall := ready_all (listed := listed) (by kernel_rfl) (by rw [hsz]; rfl) hr
        have hown := h.own (j := 12) (by decide) (hall 12 (by decide)) (ngot_out (by rw [hsz]; decide))
        have ho7 : wc.ownsRow w0.heap.size 95 2 (f 12) (n1' + 2) (prs ws1 ++ [.string ⟨#[97, 115]⟩, .int .i64 (-1), .string g, .int .i64 (-1)]) := hown
        have hg5 := h.be
        have hbp := hx.after (hall 5 (by decide))
        clear hr h hx hall harr hg hown
        simp only [reAct, hg2, hg3]
        generalize f 12 = s7 at *
        have R : Hid (SrcR (srcW m (.cast bt v) q) P (q + cntW (.cast bt v)) W (.returned s7) wc) := srcR_put HW0.out ho7 (by rw [HCN.out]; exact hbp) hg5 (by rw [HWD.out, HN1.out]; simp) (by rw [HWD.out, prs_app, HG.out]; rfl)
        clear ho7 hg5 hbp
        go_wp2_with fail
        go_ret
        exact R.out
end Go.Proofs.YtfjmjlpobbjjdaaDoor
