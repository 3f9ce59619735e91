/- Walks: bareWords, and the words of both. -/
import Derived.Test.YtfjmjlpobbjjdaaDoorWdE
import Derived.Test.YtfjmjlpobbjjdaaDoorDA
import Derived.Test.YtfjmjlpobbjjdaaDoorBeM
namespace Go.Proofs.YtfjmjlpobbjjdaaDoor
open Go.RowKit Ilp
set_option linter.unusedVariables false
set_option linter.unusedSimpArgs false

theorem add0 (b j : Nat) : (Addr.mk b 0 none).add j = ⟨b, j, none⟩ := by
  have : (Addr.mk b 0 none).add j = ⟨b, 0 + j, none⟩ := by unfold Addr.add; split <;> simp_all
  rw [this, Nat.zero_add]
theorem prs_get : ∀ (l : List (List UInt8 × Int)) (i : Nat) (p : List UInt8 × Int), l[i]? = some p → (prs l)[i * 2]? = some (.string (mkB p.1)) ∧ (prs l)[i * 2 + 1]? = some (.int .i64 p.2) := by
  intro l
  induction l with
  | nil => intro i p h; simp at h
  | cons x l ih =>
    intro i p h
    cases i with
    | zero => simp at h; subst h; exact ⟨rfl, rfl⟩
    | succ i =>
      have := ih i p (by simpa using h)
      rw [show (i + 1) * 2 = i * 2 + 1 + 1 by omega]
      simpa [prs] using this
set_option maxHeartbeats 1000000 in
set_option maxRecDepth 20000 in
theorem bareWords (v : Value) (n b0 : Nat) (zs : List (List UInt8 × Int)) (W : World) (h : W.ownsRow b0 95 2 v n (prs zs)) (hn : n = zs.length) (h0 : 0 < n) (h1 : n ≤ 1000) :
    Calls Tryd.prog 57 #[v] W (WordsR (zs.map (·.1)) W) := by
  obtain ⟨b, c, rfl, _, hc⟩ := own_src h h0
  have hbl : b < W.heap.size := (h.lt b rfl).2
  obtain ⟨l, hl⟩ : ∃ l : List ByteArray, l = (zs.map (·.1)).map mkB := ⟨_, rfl⟩
  have hll : l.length = n := by rw [hl, hn]; simp
  have HL := Lib.hid hl
  have HN := Lib.hid hn
  have HLL := Lib.hid hll
  have HC := Lib.hid hc
  have hn1 : (n : Int) ≤ 1048576 := by omega
  have hmk := makeStrs n hn1 W
  clear h hn hl hll hc
  go_enter Tryd.func57, Tryd.ntmps57
  go_wp2_with fail
  clear hmk
  go_loopw [4, 5, 11] (fun _ _ u wr => ∃ i : Nat, u = .int .i64 (i : Int) ∧ i ≤ n ∧ Blk wr W.heap.size 9 (fillS l i) ∧ Below W.heap.size W wr) (fun _ _ u _ => n - (intOf u).toNat)
  case atStart =>
    refine ⟨0, rfl, Nat.zero_le _, ?_, (Below.refl _ _).alloc (Nat.le_refl _) _⟩
    rw [fillS_zero, HLL.out]; exact Blk.alloc_ _ _ _
  case round =>
    obtain ⟨i, rfl, hi, hB, hbw⟩ := hrel
    have HB := Lib.hid hbw; clear hbw
    by_cases hlt : i < n
    · have hil : i < l.length := by rw [HLL.out]; exact hlt
      have hiz : i < zs.length := by rw [← HN.out]; exact hlt
      obtain ⟨p, hp⟩ : ∃ p, p = zs[i] := ⟨_, rfl⟩
      have hpi : zs[i]? = some p := by rw [hp]; exact List.getElem?_eq_getElem hiz
      have hli : l[i] = mkB p.1 := by simp [HL.out, hp]
      obtain ⟨e0, e1⟩ := prs_get zs i p hpi
      have c0 := HC.out _ _ e0
      have c1 := HC.out _ _ e1
      rw [add0] at c0 c1
      replace c0 := (HB.out.cell (p := ⟨b, i * 2, none⟩) hbl).trans c0
      replace c1 := (HB.out.cell (p := ⟨b, i * 2 + 1, none⟩) hbl).trans c1
      obtain ⟨s, hs⟩ : ∃ s, s = mkB p.1 := ⟨_, rfl⟩
      obtain ⟨z, hz⟩ : ∃ z, z = p.2 := ⟨_, rfl⟩
      rw [← hs] at c0
      rw [← hz] at c1
      have BN : Hid (Blk ((wr.alloc (.cells #[.string s, .int .i64 z] 95)).setCell ⟨W.heap.size, i, none⟩ (.string s)) W.heap.size 9 (fillS l (i + 1))) := by
        unfold Hid
        rw [← fillS_set l i hil, hli, ← hs]; exact (hB.alloc _).put i _
      have hB2 := hB.alloc (.cells #[.string s, .int .i64 z] 95)
      obtain ⟨v0, c2⟩ : ∃ v, (wr.alloc (.cells #[.string s, .int .i64 z] 95)).cell? ⟨W.heap.size, i, none⟩ = some v := ⟨(fillS l i)[i]'(by rw [fillS_len l i (by omega)]; exact hil), by rw [hB2.cell i]; exact List.getElem?_eq_getElem _⟩
      have c3 := hB2.frozen i
      have HBW : Hid (Below W.heap.size W ((wr.alloc (.cells #[.string s, .int .i64 z] 95)).setCell ⟨W.heap.size, i, none⟩ (.string s))) := (HB.out.alloc HB.out.size _).setCell (Nat.le_refl _) _
      clear hB hB2 hp hpi hli e0 e1 hs hz hil hiz
      go_wp2_with fail
      go_roundw
      case rel => exact ⟨i + 1, by go_num, by omega, BN.out, HBW.out⟩
      case measure => simp [intOf]; omega
    · obtain rfl : i = n := by omega
      have R : Hid (WordsR (zs.map (·.1)) W (.returned (.slice (some ⟨W.heap.size, 0, none⟩) i i)) wr) := by
        have hB' := hB
        rw [← HLL.out, fillS_all, HL.out] at hB'
        have hB3 : Blk wr W.heap.size 9 (wsB (zs.map (·.1))) := hB'
        refine ⟨_, rfl, ⟨by rw [wsB_len]; simp, .inr ⟨W.heap.size, i, _, ?_, Nat.le_refl _, hB3, ?_, ?_, ?_, ?_⟩⟩, HB.out⟩
        · rw [List.length_map, ← HN.out]
        · rw [List.length_map, ← HN.out]; exact Nat.le_refl _
        · unfold maxLen; omega
        · rw [List.size_toArray, wsB_len, List.length_map, ← HN.out]; omega
        · rw [List.take_of_length_le]; rw [List.toList_toArray, wsB_len]; omega
      clear hB
      go_wp2_with fail
      go_ret
      exact R.out
/-- The words of what is reckoned, none of what is not ok. -/
def wordsOf (t : Ex) : List (List UInt8) := match exTm t with
  | some u => u.words 1
  | none => []
theorem wordsOf_none {t : Ex} (h : exprOk t = false) : wordsOf t = [] := by
  unfold exprOk at h
  unfold wordsOf
  cases hu : exTm t with
  | none => rfl
  | some u => rw [hu] at h; cases h
theorem wordsOf_some {t : Ex} (h : exprOk t = true) : ∃ u, exTm t = some u ∧ ofEx 5 t = some u ∧ u.size ≤ 12 ∧ u.valid = true ∧ wordsOf t = u.words 1 := by
  unfold exprOk at h
  cases hu : exTm t with
  | none => rw [hu] at h; cases h
  | some u => exact ⟨u, rfl, exTm_ofEx hu, exTm_size hu, exTm_valid hu, by unfold wordsOf; rw [hu]⟩
theorem wordsOf_len (t : Ex) : (wordsOf t).length ≤ 60 := by
  cases h : exprOk t with
  | false => rw [wordsOf_none h]; simp
  | true =>
    obtain ⟨u, _, _, h2, _, e⟩ := wordsOf_some h
    rw [e]; have := words_len u 1; omega
theorem words_zero (u : Tm) : u.words 0 = u.words 1 := by
  cases u with
  | num n => rfl
  | name s => rfl
  | two o a b =>
    have := lev_pos o
    simp only [Tm.words]
    rw [show decide (lev o < 0) = false by simp, show decide (lev o < 1) = false by simp; omega]
  | cast t a => rfl
set_option maxHeartbeats 1000000 in
set_option maxRecDepth 20000 in
theorem specExprWords (k n : Int) (g : ByteArray) (A : Option Addr) (l c : Nat) (t : Ex) (W : World) (h : IsEV W [.int .i64 k, .int .i64 n, .string g, .slice A l c] t) (hw : wgt t ≤ 1048576) :
    Calls Tryd.prog 30 #[.agg #[.int .i64 k, .int .i64 n, .string g, .slice A l c]] W (WordsR (wordsOf t) W) := by
  have BX := Lib.hid (BoxC.made (Below.refl W.heap.size W) k n g A l c)
  have hb0 : Below W.heap.size W (W.alloc (.cells #[.int .i64 k, .int .i64 n, .string g, .slice A l c] 25)) := (Below.refl _ _).alloc (Nat.le_refl _) _
  have HC := Lib.hid (specExprOk k n g A l c t _ (h.below hb0) hw)
  have HB := Lib.hid hb0
  have HE := Lib.hid h
  obtain ⟨w0, hw0⟩ : ∃ w0, w0 = W.alloc (.cells #[.int .i64 k, .int .i64 n, .string g, .slice A l c] 25) := ⟨_, rfl⟩
  cases hok : exprOk t with
  | false =>
    rw [hok] at HC
    have HW := Lib.hid (wordsOf_none hok)
    go_enter Tryd.func30, Tryd.ntmps30
    go_upto_region 1 with (fail)
    rw [← hw0] at BX HC HB ⊢
    have HW0 := Lib.hid hw0
    obtain ⟨X, hX⟩ : ∃ X, X = W.heap.size := ⟨_, rfl⟩
    rw [← hX] at BX ⊢
    clear hw0 h hb0 hok hX
    obtain ⟨a0, a1, a2, a3⟩ := BX.out.box
    go_wp2_with fail
    refine HC.out.mono ?_
    rintro e w1 ⟨rfl, hb1⟩
    have R : Hid (WordsR (wordsOf t) W (.returned (.slice (some ⟨w1.heap.size, 0, none⟩) 0 0)) (w1.alloc (.cells #[] 9))) := by
      have hs := hb1.size
      rw [HW.out]
      exact wordsR_put HW0.out (World.ownsRow_made w1 #[] 0 hs (by unfold maxLen; omega) rfl) ((below_grown hb1 none).trans (World.grownBy_alloc w1 _ none)) rfl rfl
    clear a0 a1 a2 a3 hb1
    go_wp2_with fail
    go_ret
    exact R.out
  | true =>
    rw [hok] at HC
    obtain ⟨u, _, hu5, hsz, _, hwd⟩ := wordsOf_some hok
    have HCW := Lib.hid (fun W' hb => specWords 5 k n g A l c t u 1 W W' h hb hu5 (by omega) (by omega))
    have HWD := Lib.hid hwd
    go_enter Tryd.func30, Tryd.ntmps30
    go_upto_region 1 with (fail)
    rw [← hw0] at BX HC HB ⊢
    have HW0 := Lib.hid hw0
    obtain ⟨X, hX⟩ : ∃ X, X = W.heap.size := ⟨_, rfl⟩
    rw [← hX] at BX ⊢
    clear hw0 h hb0 hok hwd hsz hu5 hX
    obtain ⟨a0, a1, a2, a3⟩ := BX.out.box
    go_wp2_with fail
    refine HC.out.mono ?_
    rintro e w1 ⟨rfl, hb1⟩
    have G1 := Lib.hid (below_grown hb1 none)
    clear a0 a1 a2 a3
    obtain ⟨a0, a1, a2, a3⟩ := (BX.out.grown G1.out (by simp) (fun k e => by cases e)).box
    have HB1 : Hid (Below W.heap.size W w1) := HB.out.trans (hb1.mono HB.out.size)
    clear hb1
    go_wp2_with fail
    refine (HCW.out w1 HB1.out).mono ?_
    rintro e w2 ⟨v, rfl, hown, hb2⟩
    have R : Hid (WordsR (wordsOf t) W (.returned v) w2) := by
      rw [HWD.out]
      exact wordsR_put HW0.out (hown.mono G1.out.size) (G1.out.trans (below_grown hb2 none)) rfl rfl
    clear a0 a1 a2 a3 hb2 hown
    go_wp2_with fail
    go_ret
    exact R.out
set_option maxHeartbeats 1000000 in
set_option maxRecDepth 20000 in
theorem implExprWords (k n : Int) (g : ByteArray) (A : Option Addr) (l c : Nat) (t : Ex) (W : World) (h : IsEV W [.int .i64 k, .int .i64 n, .string g, .slice A l c] t) (hw : wgt t ≤ 1048576) (hT : Tabs W) :
    Calls Tryd.prog 27 #[.agg #[.int .i64 k, .int .i64 n, .string g, .slice A l c]] W (WordsR (wordsOf t) W) := by
  cases hok : exprOk t with
  | false =>
    refine (implWordsNone k n g A l c t W h hw hT hok).mono ?_
    rintro e w' ⟨rfl, hb⟩
    rw [wordsOf_none hok]
    exact ⟨_, rfl, World.ownsRow_nil w' _ _ _, hb⟩
  | true =>
    have BX := Lib.hid (BoxC.made (Below.refl W.heap.size W) k n g A l c)
    have hb0 : Below W.heap.size W (W.alloc (.cells #[.int .i64 k, .int .i64 n, .string g, .slice A l c] 25)) := (Below.refl _ _).alloc (Nat.le_refl _) _
    have HC := Lib.hid (implExprOk k n g A l c t _ (h.below hb0) hw (hT.keep hb0))
    have HB := Lib.hid hb0
    obtain ⟨w0, hw0⟩ : ∃ w0, w0 = W.alloc (.cells #[.int .i64 k, .int .i64 n, .string g, .slice A l c] 25) := ⟨_, rfl⟩
    rw [hok] at HC
    obtain ⟨u, _, hu5, hsz, _, hwd⟩ := wordsOf_some hok
    have HCW := Lib.hid (fun (P : Nat) W' hb h1 h2 h3 => implWords 5 k n g A l c t u 0 0 P W W' h hb hT h1 h2 h3 hu5 (by omega) (by omega) (by omega) (by omega))
    have HWD := Lib.hid hwd
    have wl := words_len u 0
    rw [← srcW_len u 0 0] at wl
    have hp := srcW_ne u 0 0
    have HF := Lib.hid (srcW_fst u 0 0)
    obtain ⟨zs, hzs⟩ : ∃ zs, zs = srcW 0 u 0 := ⟨_, rfl⟩
    rw [← hzs] at HCW HF wl hp
    have hzl : zs.length ≤ 1000 := by omega
    go_enter Tryd.func27, Tryd.ntmps27
    go_upto_region 1 with (fail)
    rw [← hw0] at BX HC HB ⊢
    have HW0 := Lib.hid hw0
    obtain ⟨X, hX⟩ : ∃ X, X = W.heap.size := ⟨_, rfl⟩
    rw [← hX] at BX ⊢
    clear hw0 h hb0 hok hwd hsz hu5 hX hT hzs wl
    obtain ⟨a0, a1, a2, a3⟩ := BX.out.box
    go_wp2_with fail
    refine HC.out.mono ?_
    rintro e w1 ⟨rfl, hb1⟩
    have G1 := Lib.hid (below_grown hb1 none)
    clear a0 a1 a2 a3
    have HB1 : Hid (Below W.heap.size W w1) := HB.out.trans (hb1.mono HB.out.size)
    obtain ⟨a0, a1, a2, a3⟩ := (BX.out.grown (G1.out.trans (World.grownBy_alloc w1 (.cells #[.int .i64 0] 3) none)) (by simp) (fun k e => by cases e)).box
    have C2 := Lib.hid (HCW.out w1.heap.size (w1.alloc (.cells #[.int .i64 0] 3)) (HB1.out.alloc HB1.out.size _) HB1.out.size (by simp) (Blk.alloc_ w1 3 [.int .i64 0]))
    clear hb1
    go_wp2_with fail
    refine C2.out.mono ?_
    rintro e w2 ⟨v, rfl, hown, _, hg2⟩
    have C3 := Lib.hid (bareWords v zs.length _ zs w2 hown rfl hp hzl)
    have HG2 := Lib.hid hg2
    clear hown hg2
    go_wp2_with fail
    refine C3.out.mono ?_
    rintro e w3 ⟨v3, rfl, hown3, hb3⟩
    have G2 : w0.grownBy w2 none := (G1.out.trans (World.grownBy_alloc w1 (.cells #[.int .i64 0] 3) none)).andThen HG2.out (fun j hj => .inl (by cases hj; exact G1.out.size))
    have R : Hid (WordsR (wordsOf t) W (.returned v3) w3) := by
      rw [HWD.out, ← words_zero u, ← HF.out]
      exact wordsR_put HW0.out (hown3.mono G2.size) (G2.trans (below_grown hb3 none)) rfl rfl
    clear a0 a1 a2 a3 hown3 hb3 G2
    go_wp2_with fail
    go_ret
    exact R.out
end Go.Proofs.YtfjmjlpobbjjdaaDoor
