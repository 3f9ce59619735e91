/- Walks of the program: ExprOk. -/
import Derived.Test.YtfjmjlpobbjjdaaDoorMa
import Derived.Test.YtfjmjlpobbjjdaaDoorP4c
import Derived.Test.YtfjmjlpobbjjdaaDoorOwn
namespace Ilp
def kidsW (d : Nat) : Nat → List Ex → Bool × Nat
  | p, [] => (true, p)
  | p, x :: xs => if (wk d p x).1 = true then kidsW d (wk d p x).2 xs else (false, (wk d p x).2)
theorem wk_zero (p : Nat) (t : Ex) : wk 0 p t = (false, p + 1) := by simp [wk]
theorem wk_step (d p : Nat) (t : Ex) : wk (d + 1) p t = if 12 < p + 1 then (false, p + 1) else if (okK t.kind t.num t.txt && (t.kids.length == kidsN t.kind)) = true then kidsW d (p + 1) t.kids else (false, p + 1) := by
  obtain ⟨k, n, s, ks⟩ := t
  simp only [wk, Ex.kind, Ex.num, Ex.txt, Ex.kids]
  by_cases hp : 12 < p + 1
  · rw [if_pos hp, if_pos hp]
  · rw [if_neg hp, if_neg hp]
    unfold okK kidsN
    by_cases h1 : k = 1
    · subst h1
      cases ks with
      | nil =>
        by_cases h : 0 ≤ n ∧ n ≤ 1000000 ∧ s = []
        · simp [h, kidsW]
        · have : ¬ (0 ≤ n ∧ n ≤ 1000000 ∧ s = []) := h
          simp [h]
          by_cases a : 0 ≤ n
          · by_cases b : n ≤ 1000000
            · by_cases c : s = []
              · exact absurd ⟨a, b, c⟩ h
              · simp [c]
            · simp [b]
          · simp [a]
      | cons a r => simp
    · by_cases h2 : k = 2
      · subst h2
        cases ks with
        | nil =>
          by_cases h : n = 0 <;> by_cases hb : isName s = true <;> simp [h, hb, kidsW]
        | cons a r => simp
      · by_cases h3 : k = 3
        · subst h3
          by_cases h : n = 0
          · subst h
            by_cases hb : (opOf s).isSome = true
            rotate_left
            · simp [hb]
            · match ks with
              | [] => simp [hb]
              | [a] => simp [hb]
              | [a, b] =>
                simp [hb, kidsW]
                cases h1 : (wk d (p + 1) a).1
                · simp
                · cases h2 : (wk d (wk d (p + 1) a).2 b).1
                  · simp; rw [Prod.ext_iff]; exact ⟨h2, rfl⟩
                  · simp; rw [Prod.ext_iff]; exact ⟨h2, rfl⟩
              | a :: b :: c :: r => simp [hb]
          · simp [h]
        · by_cases h4 : k = 4
          · subst h4
            by_cases h : n = 0
            · subst h
              by_cases hb : isType s = true
              rotate_left
              · simp [hb]
              · match ks with
                | [] => simp [hb]
                | [a] =>
                  simp [hb, kidsW]
                  cases h1 : (wk d (p + 1) a).1
                  · simp; rw [Prod.ext_iff]; exact ⟨h1, rfl⟩
                  · simp; rw [Prod.ext_iff]; exact ⟨h1, rfl⟩
                | a :: b :: r => simp [hb]
            · simp [h]
          · simp [h1, h2, h3, h4]
theorem wk_bound {d p : Nat} {e : Ex} (h : p ≤ 12) : (wk d p e).2 ≤ 13 ∧ ((wk d p e).1 = true → (wk d p e).2 ≤ 12) := by
  have := wk_ofEx d p e h
  refine ⟨this.2.1, fun ht => ?_⟩
  rw [this.1] at ht
  unfold sOf at ht
  cases ho : ofEx d e with
  | none => rw [ho] at ht; cases ht
  | some t =>
    rw [ho] at ht
    have h2 := this.2.2.2 t ho (by rw [this.1]; unfold sOf; rw [ho]; exact ht)
    simp at ht
    omega
theorem kidsW_bound : ∀ (d : Nat) (ts : List Ex) (p : Nat), p ≤ 12 → (kidsW d p ts).2 ≤ 13 := by
  intro d ts
  induction ts with
  | nil => intro p h; simp only [kidsW]; omega
  | cons x ts ih =>
    intro p h
    simp only [kidsW]
    have hb := wk_bound (d := d) (e := x) h
    split
    · rename_i h1; exact ih _ (hb.2 h1)
    · exact hb.1
theorem kidsW_at (d p : Nat) {ts : List Ex} {j : Nat} (h : j < ts.length) : kidsW d p (ts.drop j) = if (wk d p ts[j]).1 = true then kidsW d (wk d p ts[j]).2 (ts.drop (j + 1)) else (false, (wk d p ts[j]).2) := by
  rw [List.drop_eq_getElem_cons h]; rfl
end Ilp
namespace Go.Proofs.YtfjmjlpobbjjdaaDoor
open Go.RowKit Ilp
set_option linter.unusedVariables false

/-- Where the program counts the parts. -/
structure WkS (W0 : World) (P p : Nat) (W : World) : Prop where
  be : Below W0.heap.size W0 W
  lt : W0.heap.size ≤ P
  blk : Blk W P 3 [.int .i64 (p : Int)]
theorem WkS.step {W0 W W' : World} {P p p' : Nat} (h : WkS W0 P p W) (hb : Blk W' P 3 [.int .i64 (p' : Int)]) (hk : Keep P W W') : WkS W0 P p' W' :=
  ⟨h.be.trans (hk.below h.lt h.be.size), h.lt, hb⟩
def WkR (b : Bool) (p' P : Nat) (W : World) (e : Ending) (W' : World) : Prop := e = .returned (.bool b) ∧ Blk W' P 3 [.int .i64 (p' : Int)] ∧ Keep P W W'

def WalkQ (d : Nat) : Prop := ∀ (p P : Nat) (D k n : Int) (g : ByteArray) (A : Option Addr) (l c : Nat) (t : Ex) (W0 W : World), IsEV W0 [.int .i64 k, .int .i64 n, .string g, .slice A l c] t → wgt t ≤ 1048576 → Tabs W0 → WkS W0 P p W → p ≤ 12 → D = 6 - (d : Int) →
  Calls Tryd.prog 66 #[.agg #[.int .i64 k, .int .i64 n, .string g, .slice A l c], .int .i64 D, .pointer (some ⟨P, 0, none⟩)] W (WkR (wk d p t).1 (wk d p t).2 P W)
def CloQ (d : Nat) : Prop := ∀ (p P G4 G5 : Nat) (D k n : Int) (g : ByteArray) (A : Option Addr) (l c : Nat) (t : Ex) (W0 W : World), IsEV W0 [.int .i64 k, .int .i64 n, .string g, .slice A l c] t → wgt t ≤ 1048576 → Tabs W0 → WkS W0 P p W → p ≤ 12 → D = 5 - (d : Int) →
  Blk W G4 3 [.int .i64 D] → Blk W G5 76 [.pointer (some ⟨P, 0, none⟩)] →
  Calls Tryd.prog 98 #[.agg #[.int .i64 k, .int .i64 n, .string g, .slice A l c], .pointer (some ⟨G4, 0, none⟩), .pointer (some ⟨G5, 0, none⟩)] W (WkR (!(wk d p t).1) (wk d p t).2 P W)
set_option maxHeartbeats 1000000 in
set_option maxRecDepth 20000 in
theorem clo_step (d : Nat) (hd : (d : Int) ≤ 10) (ih : WalkQ d) : CloQ d := by
  intro p P G4 G5 D k n g A l c t W0 W h hw hT hS hp hD h4 h5
  have hb0 : Below W.heap.size W (W.alloc (.cells #[.int .i64 k, .int .i64 n, .string g, .slice A l c] 25)) := by go_grown
  have hS1 : WkS W0 P p (W.alloc (.cells #[.int .i64 k, .int .i64 n, .string g, .slice A l c] 25)) := ⟨hS.be.trans (hb0.mono hS.be.size), hS.lt, hS.blk.alloc _⟩
  have HC := Lib.hid (ih p P (D + 1) k n g A l c t W0 _ h hw hT hS1 hp (by omega))
  have HB0 := Lib.hid hb0
  have c4 := (h4.alloc (.cells #[.int .i64 k, .int .i64 n, .string g, .slice A l c] 25)).cell 0
  have c5 := (h5.alloc (.cells #[.int .i64 k, .int .i64 n, .string g, .slice A l c] 25)).cell 0
  simp only [List.getElem?_cons_zero] at c4 c5
  have hd1 : -10 ≤ D := by omega
  have hd2 : D ≤ 10 := by omega
  clear hb0 hS1 ih h hw hT hS hp h4 h5 hD
  unfold WkR at HC
  go_enter Tryd.func98, Tryd.ntmps98
  go_wp2_with fail
  refine HC.out.mono ?_
  rintro e w1 ⟨rfl, hb1, hk1⟩
  have R : WkR (!(wk d p t).1) (wk d p t).2 P W (.returned (.bool (!(wk d p t).1))) w1 := ⟨rfl, hb1, (Keep.of HB0.out).trans hk1⟩
  have HR := Lib.hid R
  clear hb1 hk1 R
  generalize (wk d p t).1 = b at *
  generalize (wk d p t).2 = p' at *
  go_wp2_with fail
  go_ret
  exact HR.out

def IdxR (d p P : Nat) (ts : List Ex) (W : World) (e : Ending) (W' : World) : Prop := ∃ r : Int, e = .returned (.int .i64 r) ∧ (kidsW d p ts).1 = decide (r < 0) ∧ -1 ≤ r ∧ r ≤ 9223372036854775807 ∧ Blk W' P 3 [.int .i64 ((kidsW d p ts).2 : Int)] ∧ Keep P W W'
def IdxQ (d : Nat) : Prop := ∀ (p P G4 G5 : Nat) (D : Int) (A : Option Addr) (m cap dd : Nat) (ts : List Ex) (W0 W : World), Kids W0 (Low W0) dd A ts → Hid (ts.length = m) → Hid (wgts ts ≤ 1048576) → Hid (Tabs W0) → WkS W0 P p W → Hid (p ≤ 12) → Hid (D = 5 - (d : Int)) →
  Blk W G4 3 [.int .i64 D] → Blk W G5 76 [.pointer (some ⟨P, 0, none⟩)] → Hid (G4 ≠ P) → Hid (G5 ≠ P) →
  Calls Tryd.prog 112 #[.slice A m cap, .func (.func 98) #[] #[.pointer (some ⟨G4, 0, none⟩), .pointer (some ⟨G5, 0, none⟩)]] W (IdxR d p P ts W)
set_option maxHeartbeats 2000000 in
set_option maxRecDepth 20000 in
theorem idx_step (d : Nat) (ih : CloQ d) : IdxQ d := by
  intro p P G4 G5 D A m cap dd ts W0 W hk hl hw hT hS hp hD h4 h5 n4 n5
  have hm : (m : Int) ≤ 1048576 := by have := wgts_len ts; have h1 := hw.out; have h2 := hl.out; omega
  have HK := Lib.hid hk
  have HS := Lib.hid hS
  have H4 := Lib.hid h4
  have H5 := Lib.hid h5
  have IH := Lib.hid ih
  clear hk hS h4 h5 ih
  go_enter Tryd.func112, Tryd.ntmps112
  go_wp2_with fail
  go_loopw [8] (fun v wr => ∃ (j q : Nat), v = .int .i64 (j : Int) ∧ j ≤ m ∧ Hid (q ≤ 12) ∧ Hid (kidsW d p ts = kidsW d q (ts.drop j)) ∧ Blk wr P 3 [.int .i64 (q : Int)] ∧ Keep P W wr) (fun v _ => m - (intOf v).toNat)
  case atStart => exact ⟨0, p, rfl, Nat.zero_le _, hp, rfl, HS.out.blk, Keep.refl _ _⟩
  case round =>
    obtain ⟨j, q, rfl, hj, hq, he, hb, hkp⟩ := hrel
    have HB := Lib.hid hb
    have HKP := Lib.hid hkp
    clear hb hkp
    by_cases hlt : j < m
    · have hx : j < ts.length := by rw [hl.out]; exact hlt
      have hSw : WkS W0 P q wr := HS.out.step HB.out HKP.out
      obtain ⟨b, o, k', n', g', A', l', c', rfl, hbb, hev, e0, e1, e2, e3⟩ := IsEV.kid HK.out hx
      have f0 := (hSw.be.cell (p := ⟨b, o + j * 4, none⟩) hbb).trans e0
      have f1 := (hSw.be.cell (p := ⟨b, o + j * 4 + 1, none⟩) hbb).trans e1
      have f2 := (hSw.be.cell (p := ⟨b, o + j * 4 + 2, none⟩) hbb).trans e2
      have f3 := (hSw.be.cell (p := ⟨b, o + j * 4 + 3, none⟩) hbb).trans e3
      have hwk : wgt ts[j] ≤ 1048576 := by have := wgts_mem (List.getElem_mem hx); have := hw.out; omega
      have HC := Lib.hid (IH.out q P G4 G5 D k' n' g' A' l' c' ts[j] W0 wr hev hwk hT.out hSw hq.out hD.out (HKP.out.blk H4.out n4.out) (HKP.out.blk H5.out n5.out))
      have HNX := Lib.hid (kidsW_at d q hx)
      have HBD := Lib.hid (wk_bound (d := d) (e := ts[j]) hq.out)
      have h0 : (0 : Int) ≤ (j : Int) := by omega
      have h1 : (j : Int) < (m : Int) := by omega
      unfold WkR at HC
      generalize ts[j] = x at HC HNX HBD
      clear e0 e1 e2 e3 hev hwk hSw hx
      cases hf : (wk d q x).1 with
      | true =>
        have HN : Hid (kidsW d p ts = kidsW d (wk d q x).2 (ts.drop (j + 1))) := by unfold Hid; rw [he.out, HNX.out, if_pos hf]
        have HQ : Hid ((wk d q x).2 ≤ 12) := HBD.out.2 hf
        rw [hf] at HC
        clear hf
        generalize (wk d q x).2 = q' at *
        go_wp2_with fail
        refine HC.out.mono ?_
        rintro e w1 ⟨rfl, hb1, hk1⟩
        have HB1 := Lib.hid hb1
        have HK1 : Hid (Keep P W w1) := HKP.out.trans hk1
        clear hb1 hk1 f0 f1 f2 f3
        go_wp2_with fail
        go_roundw
        case rel => exact ⟨j + 1, q', by go_num, by omega, HQ, HN, HB1.out, HK1.out⟩
        case measure => simp [intOf]; omega
      | false =>
        have HN : Hid (kidsW d p ts = (false, (wk d q x).2)) := by unfold Hid; rw [he.out, HNX.out, if_neg (by rw [hf]; simp)]
        rw [hf] at HC
        clear hf
        generalize (wk d q x).2 = q' at *
        go_wp2_with fail
        refine HC.out.mono ?_
        rintro e w1 ⟨rfl, hb1, hk1⟩
        have R : IdxR d p P ts W (.returned (.int .i64 (j : Int))) w1 := ⟨j, rfl, by rw [HN.out]; simp, by omega, by omega, by rw [HN.out]; exact hb1, HKP.out.trans hk1⟩
        have HR := Lib.hid R
        clear hb1 hk1 f0 f1 f2 f3 R
        go_wp2_with fail
        go_ret
        exact HR.out
    · obtain rfl : j = m := by omega
      have HN : Hid (kidsW d p ts = (true, q)) := by unfold Hid; rw [he.out, List.drop_eq_nil_of_le (by rw [hl.out]; omega)]; rfl
      have R : IdxR d p P ts W (.returned (.int .i64 (-1))) wr := ⟨-1, rfl, by rw [HN.out]; rfl, by omega, by omega, by rw [HN.out]; exact HB.out, HKP.out⟩
      have HR := Lib.hid R
      clear R
      go_wp2_with fail
      go_ret
      exact HR.out
def ConQ (d : Nat) : Prop := ∀ (p P G4 G5 : Nat) (D : Int) (A : Option Addr) (m cap dd : Nat) (ts : List Ex) (W0 W : World), Kids W0 (Low W0) dd A ts → Hid (ts.length = m) → Hid (wgts ts ≤ 1048576) → Hid (Tabs W0) → WkS W0 P p W → Hid (p ≤ 12) → Hid (D = 5 - (d : Int)) →
  Blk W G4 3 [.int .i64 D] → Blk W G5 76 [.pointer (some ⟨P, 0, none⟩)] → Hid (G4 ≠ P) → Hid (G5 ≠ P) →
  Calls Tryd.prog 97 #[.slice A m cap, .func (.func 98) #[] #[.pointer (some ⟨G4, 0, none⟩), .pointer (some ⟨G5, 0, none⟩)]] W (WkR (!(kidsW d p ts).1) (kidsW d p ts).2 P W)
set_option maxHeartbeats 1000000 in
set_option maxRecDepth 20000 in
theorem con_step (d : Nat) (ih : IdxQ d) : ConQ d := by
  intro p P G4 G5 D A m cap dd ts W0 W hk hl hw hT hS hp hD h4 h5 n4 n5
  have HC := Lib.hid (ih p P G4 G5 D A m cap dd ts W0 W hk hl hw hT hS hp hD h4 h5 n4 n5)
  clear hk hS h4 h5 ih
  go_enter Tryd.func97, Tryd.ntmps97
  go_wp2_with fail
  refine HC.out.mono ?_
  rintro e w1 ⟨r, rfl, hr, hr1, hr2, hb1, hk1⟩
  have R : WkR (!(kidsW d p ts).1) (kidsW d p ts).2 P W (.returned (.bool (decide (0 ≤ r)))) w1 := ⟨by rw [hr]; congr 2; by_cases h : r < 0 <;> simp [h] <;> omega, hb1, hk1⟩
  have HR := Lib.hid R
  clear hr hb1 hk1 R
  go_wp2_with fail
  go_ret
  exact HR.out
end Go.Proofs.YtfjmjlpobbjjdaaDoor
