/- WA: the texts Wk Wl in one. -/
import Derived.Test.YtfjmjlpobbjjdaaDoorNA
import Derived.Test.YtfjmjlpobbjjdaaDoorPA
import Derived.Test.YtfjmjlpobbjjdaaDoorTA
import Derived.Deep.Cut
import Derived.Deep.CutBlock
import Derived.Deep.DeepCutAuto

namespace Ilp
def kidsW (d : Nat) : Nat → List Ex → Bool × Nat
  | p, [] => (true, p)
  | p, x :: xs => if (wk d p x).1 = true then kidsW d (wk d p x).2 xs else (false, (wk d p x).2)
theorem wk_zero (p : Nat) (t : Ex) : wk 0 p t = (false, p + 1) := by simp [wk]
theorem wk_step (d p : Nat) (t : Ex) : wk (d + 1) p t = if 12 < p + 1 then (false, p + 1) else if (okK t.kind t.num t.txt && (t.kids.length == kidsN t.kind)) = true then kidsW d (p + 1) t.kids else (false, p + 1) := by
  obtain ⟨k, n, s, ks⟩ := t
  simp only [wk, Ex.kind, Ex.num, Ex.txt, Ex.kids]
  by_cases hp : 12 < p + 1
  · rw [if_pos hp, if_pos hp]
  · rw [if_neg hp, if_neg hp]
    unfold okK kidsN
    by_cases h1 : k = 1
    · subst h1
      cases ks with
      | nil =>
        by_cases h : 0 ≤ n ∧ n ≤ 1000000 ∧ s = []
        · simp [h, kidsW]
        · have : ¬ (0 ≤ n ∧ n ≤ 1000000 ∧ s = []) := h
          simp [h]
          by_cases a : 0 ≤ n
          · by_cases b : n ≤ 1000000
            · by_cases c : s = []
              · exact absurd ⟨a, b, c⟩ h
              · simp [c]
            · simp [b]
          · simp [a]
      | cons a r => simp
    · by_cases h2 : k = 2
      · subst h2
        cases ks with
        | nil =>
          by_cases h : n = 0 <;> by_cases hb : isName s = true <;> simp [h, hb, kidsW]
        | cons a r => simp
      · by_cases h3 : k = 3
        · subst h3
          by_cases h : n = 0
          · subst h
            by_cases hb : (opOf s).isSome = true
            rotate_left
            · simp [hb]
            · match ks with
              | [] => simp [hb]
              | [a] => simp [hb]
              | [a, b] =>
                simp [hb, kidsW]
                cases h1 : (wk d (p + 1) a).1
                · simp
                · cases h2 : (wk d (wk d (p + 1) a).2 b).1
                  · simp; rw [Prod.ext_iff]; exact ⟨h2, rfl⟩
                  · simp; rw [Prod.ext_iff]; exact ⟨h2, rfl⟩
              | a :: b :: c :: r => simp [hb]
          · simp [h]
        · by_cases h4 : k = 4
          · subst h4
            by_cases h : n = 0
            · subst h
              by_cases hb : isType s = true
              rotate_left
              · simp [hb]
              · match ks with
                | [] => simp [hb]
                | [a] =>
                  simp [hb, kidsW]
                  cases h1 : (wk d (p + 1) a).1
                  · simp; rw [Prod.ext_iff]; exact ⟨h1, rfl⟩
                  · simp; rw [Prod.ext_iff]; exact ⟨h1, rfl⟩
                | a :: b :: r => simp [hb]
            · simp [h]
          · simp [h1, h2, h3, h4]
theorem wk_bound {d p : Nat} {e : Ex} (h : p ≤ 12) : (wk d p e).2 ≤ 13 ∧ ((wk d p e).1 = true → (wk d p e).2 ≤ 12) := by
  have := wk_ofEx d p e h
  refine ⟨this.2.1, fun ht => ?_⟩
  rw [this.1] at ht
  unfold sOf at ht
  cases ho : ofEx d e with
  | none => rw [ho] at ht; cases ht
  | some t =>
    rw [ho] at ht
    have h2 := this.2.2.2 t ho (by rw [this.1]; unfold sOf; rw [ho]; exact ht)
    simp at ht
    omega
theorem kidsW_bound : ∀ (d : Nat) (ts : List Ex) (p : Nat), p ≤ 12 → (kidsW d p ts).2 ≤ 13 := by
  intro d ts
  induction ts with
  | nil => intro p h; simp only [kidsW]; omega
  | cons x ts ih =>
    intro p h
    simp only [kidsW]
    have hb := wk_bound (d := d) (e := x) h
    split
    · rename_i h1; exact ih _ (hb.2 h1)
    · exact hb.1
theorem kidsW_at (d p : Nat) {ts : List Ex} {j : Nat} (h : j < ts.length) : kidsW d p (ts.drop j) = if (wk d p ts[j]).1 = true then kidsW d (wk d p ts[j]).2 (ts.drop (j + 1)) else (false, (wk d p ts[j]).2) := by
  rw [List.drop_eq_getElem_cons h]; rfl
end Ilp
namespace Go.Proofs.YtfjmjlpobbjjdaaDoor
open Go.RowKit Ilp
set_option linter.unusedVariables false

/-- Where the program counts the parts. -/
structure WkS (W0 : World) (P p : Nat) (W : World) : Prop where
  be : Below W0.heap.size W0 W
  lt : W0.heap.size ≤ P
  blk : Blk W P 3 [.int .i64 (p : Int)]
theorem WkS.step {W0 W W' : World} {P p p' : Nat} (h : WkS W0 P p W) (hb : Blk W' P 3 [.int .i64 (p' : Int)]) (hk : Keep P W W') : WkS W0 P p' W' :=
  ⟨h.be.trans (hk.below h.lt h.be.size), h.lt, hb⟩
def WkR (b : Bool) (p' P : Nat) (W : World) (e : Ending) (W' : World) : Prop := e = .returned (.bool b) ∧ Blk W' P 3 [.int .i64 (p' : Int)] ∧ Keep P W W'

def WalkQ (d : Nat) : Prop := ∀ (p P : Nat) (D k n : Int) (g : ByteArray) (A : Option Addr) (l c : Nat) (t : Ex) (W0 W : World), IsEV W0 [.int .i64 k, .int .i64 n, .string g, .slice A l c] t → wgt t ≤ 1048576 → Tabs W0 → WkS W0 P p W → p ≤ 12 → D = 6 - (d : Int) →
  Calls Tryd.prog 66 #[.agg #[.int .i64 k, .int .i64 n, .string g, .slice A l c], .int .i64 D, .pointer (some ⟨P, 0, none⟩)] W (WkR (wk d p t).1 (wk d p t).2 P W)
def CloQ (d : Nat) : Prop := ∀ (p P G4 G5 : Nat) (D k n : Int) (g : ByteArray) (A : Option Addr) (l c : Nat) (t : Ex) (W0 W : World), IsEV W0 [.int .i64 k, .int .i64 n, .string g, .slice A l c] t → wgt t ≤ 1048576 → Tabs W0 → WkS W0 P p W → p ≤ 12 → D = 5 - (d : Int) →
  Blk W G4 3 [.int .i64 D] → Blk W G5 76 [.pointer (some ⟨P, 0, none⟩)] →
  Calls Tryd.prog 98 #[.agg #[.int .i64 k, .int .i64 n, .string g, .slice A l c], .pointer (some ⟨G4, 0, none⟩), .pointer (some ⟨G5, 0, none⟩)] W (WkR (!(wk d p t).1) (wk d p t).2 P W)
set_option maxHeartbeats 1000000 in
set_option maxRecDepth 20000 in
theorem clo_step (d : Nat) (hd : (d : Int) ≤ 10) (ih : WalkQ d) : CloQ d := by
  intro p P G4 G5 D k n g A l c t W0 W h hw hT hS hp hD h4 h5
  have hb0 : Below W.heap.size W (W.alloc (.cells #[.int .i64 k, .int .i64 n, .string g, .slice A l c] 25)) := by go_grown
  have hS1 : WkS W0 P p (W.alloc (.cells #[.int .i64 k, .int .i64 n, .string g, .slice A l c] 25)) := ⟨hS.be.trans (hb0.mono hS.be.size), hS.lt, hS.blk.alloc _⟩
  have HC := Lib.hid (ih p P (D + 1) k n g A l c t W0 _ h hw hT hS1 hp (by omega))
  have HB0 := Lib.hid hb0
  have c4 := (h4.alloc (.cells #[.int .i64 k, .int .i64 n, .string g, .slice A l c] 25)).cell 0
  have c5 := (h5.alloc (.cells #[.int .i64 k, .int .i64 n, .string g, .slice A l c] 25)).cell 0
  simp only [List.getElem?_cons_zero] at c4 c5
  have hd1 : -10 ≤ D := by omega
  have hd2 : D ≤ 10 := by omega
  clear hb0 hS1 ih h hw hT hS hp h4 h5 hD
  unfold WkR at HC
  go_enter Tryd.func98, Tryd.ntmps98
  go_wp2_with fail
  refine HC.out.mono ?_
  rintro e w1 ⟨rfl, hb1, hk1⟩
  have R : WkR (!(wk d p t).1) (wk d p t).2 P W (.returned (.bool (!(wk d p t).1))) w1 := ⟨rfl, hb1, (Keep.of HB0.out).trans hk1⟩
  have HR := Lib.hid R
  clear hb1 hk1 R
  generalize (wk d p t).1 = b at *
  generalize (wk d p t).2 = p' at *
  go_wp2_with fail
  go_ret
  exact HR.out

def IdxR (d p P : Nat) (ts : List Ex) (W : World) (e : Ending) (W' : World) : Prop := ∃ r : Int, e = .returned (.int .i64 r) ∧ (kidsW d p ts).1 = decide (r < 0) ∧ -1 ≤ r ∧ r ≤ 9223372036854775807 ∧ Blk W' P 3 [.int .i64 ((kidsW d p ts).2 : Int)] ∧ Keep P W W'
def IdxQ (d : Nat) : Prop := ∀ (p P G4 G5 : Nat) (D : Int) (A : Option Addr) (m cap dd : Nat) (ts : List Ex) (W0 W : World), Kids W0 (Low W0) dd A ts → Hid (ts.length = m) → Hid (wgts ts ≤ 1048576) → Hid (Tabs W0) → WkS W0 P p W → Hid (p ≤ 12) → Hid (D = 5 - (d : Int)) →
  Blk W G4 3 [.int .i64 D] → Blk W G5 76 [.pointer (some ⟨P, 0, none⟩)] → Hid (G4 ≠ P) → Hid (G5 ≠ P) →
  Calls Tryd.prog 112 #[.slice A m cap, .func (.func 98) #[] #[.pointer (some ⟨G4, 0, none⟩), .pointer (some ⟨G5, 0, none⟩)]] W (IdxR d p P ts W)
set_option maxHeartbeats 2000000 in
set_option maxRecDepth 20000 in
theorem idx_step (d : Nat) (ih : CloQ d) : IdxQ d := by
  intro p P G4 G5 D A m cap dd ts W0 W hk hl hw hT hS hp hD h4 h5 n4 n5
  have hm : (m : Int) ≤ 1048576 := by have := wgts_len ts; have h1 := hw.out; have h2 := hl.out; omega
  have HK := Lib.hid hk
  have HS := Lib.hid hS
  have H4 := Lib.hid h4
  have H5 := Lib.hid h5
  have IH := Lib.hid ih
  clear hk hS h4 h5 ih
  go_enter Tryd.func112, Tryd.ntmps112
  go_wp2_with fail
  go_loopw [8] (fun v wr => ∃ (j q : Nat), v = .int .i64 (j : Int) ∧ j ≤ m ∧ Hid (q ≤ 12) ∧ Hid (kidsW d p ts = kidsW d q (ts.drop j)) ∧ Blk wr P 3 [.int .i64 (q : Int)] ∧ Keep P W wr) (fun v _ => m - (intOf v).toNat)
  case atStart => exact ⟨0, p, rfl, Nat.zero_le _, hp, rfl, HS.out.blk, Keep.refl _ _⟩
  case round =>
    obtain ⟨j, q, rfl, hj, hq, he, hb, hkp⟩ := hrel
    have HB := Lib.hid hb
    have HKP := Lib.hid hkp
    clear hb hkp
    by_cases hlt : j < m
    · have hx : j < ts.length := by rw [hl.out]; exact hlt
      have hSw : WkS W0 P q wr := HS.out.step HB.out HKP.out
      obtain ⟨b, o, k', n', g', A', l', c', rfl, hbb, hev, e0, e1, e2, e3⟩ := IsEV.kid HK.out hx
      have f0 := (hSw.be.cell (p := ⟨b, o + j * 4, none⟩) hbb).trans e0
      have f1 := (hSw.be.cell (p := ⟨b, o + j * 4 + 1, none⟩) hbb).trans e1
      have f2 := (hSw.be.cell (p := ⟨b, o + j * 4 + 2, none⟩) hbb).trans e2
      have f3 := (hSw.be.cell (p := ⟨b, o + j * 4 + 3, none⟩) hbb).trans e3
      have hwk : wgt ts[j] ≤ 1048576 := by have := wgts_mem (List.getElem_mem hx); have := hw.out; omega
      have HC := Lib.hid (IH.out q P G4 G5 D k' n' g' A' l' c' ts[j] W0 wr hev hwk hT.out hSw hq.out hD.out (HKP.out.blk H4.out n4.out) (HKP.out.blk H5.out n5.out))
      have HNX := Lib.hid (kidsW_at d q hx)
      have HBD := Lib.hid (wk_bound (d := d) (e := ts[j]) hq.out)
      have h0 : (0 : Int) ≤ (j : Int) := by omega
      have h1 : (j : Int) < (m : Int) := by omega
      unfold WkR at HC
      generalize ts[j] = x at HC HNX HBD
      clear e0 e1 e2 e3 hev hwk hSw hx
      cases hf : (wk d q x).1 with
      | true =>
        have HN : Hid (kidsW d p ts = kidsW d (wk d q x).2 (ts.drop (j + 1))) := by unfold Hid; rw [he.out, HNX.out, if_pos hf]
        have HQ : Hid ((wk d q x).2 ≤ 12) := HBD.out.2 hf
        rw [hf] at HC
        clear hf
        generalize (wk d q x).2 = q' at *
        go_wp2_with fail
        refine HC.out.mono ?_
        rintro e w1 ⟨rfl, hb1, hk1⟩
        have HB1 := Lib.hid hb1
        have HK1 : Hid (Keep P W w1) := HKP.out.trans hk1
        clear hb1 hk1 f0 f1 f2 f3
        go_wp2_with fail
        go_roundw
        case rel => exact ⟨j + 1, q', by go_num, by omega, HQ, HN, HB1.out, HK1.out⟩
        case measure => simp [intOf]; omega
      | false =>
        have HN : Hid (kidsW d p ts = (false, (wk d q x).2)) := by unfold Hid; rw [he.out, HNX.out, if_neg (by rw [hf]; simp)]
        rw [hf] at HC
        clear hf
        generalize (wk d q x).2 = q' at *
        go_wp2_with fail
        refine HC.out.mono ?_
        rintro e w1 ⟨rfl, hb1, hk1⟩
        have R : IdxR d p P ts W (.returned (.int .i64 (j : Int))) w1 := ⟨j, rfl, by rw [HN.out]; simp, by omega, by omega, by rw [HN.out]; exact hb1, HKP.out.trans hk1⟩
        have HR := Lib.hid R
        clear hb1 hk1 f0 f1 f2 f3 R
        go_wp2_with fail
        go_ret
        exact HR.out
    · obtain rfl : j = m := by omega
      have HN : Hid (kidsW d p ts = (true, q)) := by unfold Hid; rw [he.out, List.drop_eq_nil_of_le (by rw [hl.out]; omega)]; rfl
      have R : IdxR d p P ts W (.returned (.int .i64 (-1))) wr := ⟨-1, rfl, by rw [HN.out]; rfl, by omega, by omega, by rw [HN.out]; exact HB.out, HKP.out⟩
      have HR := Lib.hid R
      clear R
      go_wp2_with fail
      go_ret
      exact HR.out
def ConQ (d : Nat) : Prop := ∀ (p P G4 G5 : Nat) (D : Int) (A : Option Addr) (m cap dd : Nat) (ts : List Ex) (W0 W : World), Kids W0 (Low W0) dd A ts → Hid (ts.length = m) → Hid (wgts ts ≤ 1048576) → Hid (Tabs W0) → WkS W0 P p W → Hid (p ≤ 12) → Hid (D = 5 - (d : Int)) →
  Blk W G4 3 [.int .i64 D] → Blk W G5 76 [.pointer (some ⟨P, 0, none⟩)] → Hid (G4 ≠ P) → Hid (G5 ≠ P) →
  Calls Tryd.prog 97 #[.slice A m cap, .func (.func 98) #[] #[.pointer (some ⟨G4, 0, none⟩), .pointer (some ⟨G5, 0, none⟩)]] W (WkR (!(kidsW d p ts).1) (kidsW d p ts).2 P W)
set_option maxHeartbeats 1000000 in
set_option maxRecDepth 20000 in
theorem con_step (d : Nat) (ih : IdxQ d) : ConQ d := by
  intro p P G4 G5 D A m cap dd ts W0 W hk hl hw hT hS hp hD h4 h5 n4 n5
  have HC := Lib.hid (ih p P G4 G5 D A m cap dd ts W0 W hk hl hw hT hS hp hD h4 h5 n4 n5)
  clear hk hS h4 h5 ih
  go_enter Tryd.func97, Tryd.ntmps97
  go_wp2_with fail
  refine HC.out.mono ?_
  rintro e w1 ⟨r, rfl, hr, hr1, hr2, hb1, hk1⟩
  have R : WkR (!(kidsW d p ts).1) (kidsW d p ts).2 P W (.returned (.bool (decide (0 ≤ r)))) w1 := ⟨by rw [hr]; congr 2; by_cases h : r < 0 <;> simp [h] <;> omega, hb1, hk1⟩
  have HR := Lib.hid R
  clear hr hb1 hk1 R
  go_wp2_with fail
  go_ret
  exact HR.out
end Go.Proofs.YtfjmjlpobbjjdaaDoor

namespace Go.Proofs.YtfjmjlpobbjjdaaDoor
open Go.RowKit Ilp
set_option linter.unusedVariables false

/-- Behind the count: the boxes of the arguments, the count. -/
structure WkB (W : World) (P p : Nat) (D k n : Int) (g : ByteArray) (A : Option Addr) (l c : Nat) (w4 : World) : Prop where
  be : Blk w4 W.heap.size 25 [.int .i64 k, .int .i64 n, .string g, .slice A l c]
  bd : Blk w4 (W.heap.size + 1) 3 [.int .i64 D]
  bp : Blk w4 (W.heap.size + 1 + 1) 76 [.pointer (some ⟨P, 0, none⟩)]
  bc : Blk w4 P 3 [.int .i64 ((p : Int) + 1)]
  kp : Keep P W w4
theorem WkB.next {W w4 w5 : World} {P p : Nat} {D k n : Int} {g : ByteArray} {A : Option Addr} {l c : Nat} (h : WkB W P p D k n g A l c w4) (hb : Below w4.heap.size w4 w5) : WkB W P p D k n g A l c w5 :=
  ⟨h.be.below hb h.be.lt, h.bd.below hb h.bd.lt, h.bp.below hb h.bp.lt, h.bc.below hb h.bc.lt, h.kp.trans (Keep.of hb)⟩
theorem wkB_start (W : World) (P p : Nat) (D k n : Int) (g : ByteArray) (A : Option Addr) (l c : Nat) (h : Blk W P 3 [.int .i64 (p : Int)]) : WkB W P p D k n g A l c ((((W.alloc (.cells #[.int .i64 k, .int .i64 n, .string g, .slice A l c] 25)).alloc (.cells #[.int .i64 D] 3)).alloc (.cells #[.pointer (some ⟨P, 0, none⟩)] 76)).setCell ⟨P, 0, none⟩ (.int .i64 ((p : Int) + 1))) := by
  have hP := h.lt
  have n0 : W.heap.size ≠ P := by omega
  have n1 : W.heap.size + 1 ≠ P := by omega
  have n2 : W.heap.size + 1 + 1 ≠ P := by omega
  refine ⟨?_, ?_, ?_, ?_, ?_⟩
  · exact Blk.far (((Blk.alloc_ W 25 [.int .i64 k, .int .i64 n, .string g, .slice A l c]).alloc _).alloc _) n0 _
  · have := (Blk.alloc_ (W.alloc (.cells #[.int .i64 k, .int .i64 n, .string g, .slice A l c] 25)) 3 [.int .i64 D]).alloc (.cells #[.pointer (some ⟨P, 0, none⟩)] 76)
    simp only [World.size_alloc] at this
    exact Blk.far this n1 _
  · have := Blk.alloc_ ((W.alloc (.cells #[.int .i64 k, .int .i64 n, .string g, .slice A l c] 25)).alloc (.cells #[.int .i64 D] 3)) 76 [.pointer (some ⟨P, 0, none⟩)]
    simp only [World.size_alloc] at this
    exact Blk.far this n2 _
  · exact (((h.alloc _).alloc _).alloc _).put 0 (.int .i64 ((p : Int) + 1))
  · refine Keep.trans (Keep.of ?_) ((Keep.refl P _).set 0 _)
    go_grown

set_option maxHeartbeats 4000000 in
set_option maxRecDepth 20000 in
theorem walk_zero : WalkQ 0 := by
  intro p P D k n g A l c t W0 W h hw hT hS hp hD
  have hB := wkB_start W P p D k n g A l c hS.blk
  have c0 := (((hS.blk.alloc (.cells #[.int .i64 k, .int .i64 n, .string g, .slice A l c] 25)).alloc (.cells #[.int .i64 D] 3)).alloc (.cells #[.pointer (some ⟨P, 0, none⟩)] 76)).cell 0
  have f0 := (((hS.blk.alloc (.cells #[.int .i64 k, .int .i64 n, .string g, .slice A l c] 25)).alloc (.cells #[.int .i64 D] 3)).alloc (.cells #[.pointer (some ⟨P, 0, none⟩)] 76)).frozen 0
  simp only [List.getElem?_cons_zero] at c0
  have HB := Lib.hid hB
  have hp' : (p : Int) ≤ 12 := by omega
  obtain rfl : D = 6 := by simpa using hD
  rw [wk_zero]
  clear h hw hT hS hp hD hB
  go_enter Tryd.func66, Tryd.ntmps66
  go_upto_region 2 with (fail)
  generalize (((W.alloc (.cells #[.int .i64 k, .int .i64 n, .string g, .slice A l c] 25)).alloc (.cells #[.int .i64 6] 3)).alloc (.cells #[.pointer (some ⟨P, 0, none⟩)] 76)).setCell ⟨P, 0, none⟩ (.int .i64 ((p : Int) + 1)) = w4 at *
  have d0 := HB.out.bd.cell 0
  simp only [List.getElem?_cons_zero] at d0
  have R : WkR false (p + 1) P W (.returned (.bool false)) w4 := ⟨rfl, by have := HB.out.bc; rw [show ((p + 1 : Nat) : Int) = (p : Int) + 1 by omega]; exact this, HB.out.kp⟩
  have HR := Lib.hid R
  clear R c0 f0
  go_wp2_with fail
  go_ret
  exact HR.out

set_option maxHeartbeats 8000000 in
set_option maxRecDepth 20000 in
theorem walk_step (d : Nat) (hd5 : (d : Int) ≤ 10) (ih : ConQ d) : WalkQ (d + 1) := by
  intro p P D k n g A l c t W0 W h hw hT hS hp hD
  have hB := wkB_start W P p D k n g A l c hS.blk
  have c0 := (((hS.blk.alloc (.cells #[.int .i64 k, .int .i64 n, .string g, .slice A l c] 25)).alloc (.cells #[.int .i64 D] 3)).alloc (.cells #[.pointer (some ⟨P, 0, none⟩)] 76)).cell 0
  have f0 := (((hS.blk.alloc (.cells #[.int .i64 k, .int .i64 n, .string g, .slice A l c] 25)).alloc (.cells #[.int .i64 D] 3)).alloc (.cells #[.pointer (some ⟨P, 0, none⟩)] 76)).frozen 0
  simp only [List.getElem?_cons_zero] at c0
  have HB := Lib.hid hB
  have HS := Lib.hid hS
  have hp' : (p : Int) ≤ 12 := by omega
  have hD1 : D ≤ 5 := by omega
  have hD0 : -10 ≤ D := by omega
  have HD : Hid (D = 5 - (d : Int)) := by unfold Hid; omega
  obtain ⟨q1, q2, q3, q4, h5, h6, h7, dd, hk⟩ := h.parts
  have hgs : (g.size : Int) ≤ 1048576 := by have := wgt_eq t; rw [q3, mkB_size]; omega
  have hsd : g.data.toList = t.txt := by rw [q3, mkB_data]
  have hgl : g.data.toList = g.toList := (ByteArray.toList_eq g).symm
  have HFS : Hid (wk (d + 1) p t = if 12 < p + 1 then (false, p + 1) else if (okK k n g.data.toList && (l == kidsN k)) = true then kidsW d (p + 1) t.kids else (false, p + 1)) := by unfold Hid; rw [wk_step, hsd, q1, q2, q4]
  have HK := Lib.hid hk
  have HL : Hid (t.kids.length = l) := q4.symm
  have HW : Hid (wgts t.kids ≤ 1048576) := by have := wgt_eq t; unfold Hid; omega
  have HTW := Lib.hid hT
  have hlm : (l : Int) ≤ 9223372036854775807 := by unfold maxLen at h6; rw [q4]; omega
  have HIH := Lib.hid ih
  have HN := Lib.hid (fun w h => implName g w h hgs)
  have HO := Lib.hid (fun w => implTight g w)
  have HY := Lib.hid (fun w => implType g w)
  rw [hgl] at HFS
  simp only [hgl] at HN HO HY
  clear h hw hT hS hD hB ih q1 q2 q3 q4 h5 h6 h7 hk hgs hsd hgl
  go_enter Tryd.func66, Tryd.ntmps66
  go_upto_region 2 with (fail)
  generalize (((W.alloc (.cells #[.int .i64 k, .int .i64 n, .string g, .slice A l c] 25)).alloc (.cells #[.int .i64 D] 3)).alloc (.cells #[.pointer (some ⟨P, 0, none⟩)] 76)).setCell ⟨P, 0, none⟩ (.int .i64 ((p : Int) + 1)) = w4 at *
  have d0 := HB.out.bd.cell 0
  have d1 := HB.out.bp.cell 0
  have d2 := HB.out.bc.cell 0
  simp only [List.getElem?_cons_zero] at d0 d1 d2
  clear c0 f0
  by_cases hp2 : 12 < p + 1
  · have R : WkR (wk (d + 1) p t).1 (wk (d + 1) p t).2 P W (.returned (.bool false)) w4 := by
      rw [HFS.out, if_pos hp2]
      exact ⟨rfl, by have := HB.out.bc; rw [show ((p + 1 : Nat) : Int) = (p : Int) + 1 by omega]; exact this, HB.out.kp⟩
    have HR := Lib.hid R
    have hp3 : (12 : Int) < (p : Int) + 1 := by omega
    clear R
    go_wp2_with fail
    go_ret
    exact HR.out
  · have hp3 : (p : Int) + 1 ≤ 12 := by omega
    have HP : Hid (p + 1 ≤ 12) := by unfold Hid; omega
    have HFS2 : Hid (wk (d + 1) p t = if (okK k n g.toList && (l == kidsN k)) = true then kidsW d (p + 1) t.kids else (false, p + 1)) := by unfold Hid; rw [HFS.out, if_neg hp2]
    clear HFS hp2
    have a0 := HB.out.be.cell 0
    have a1 := HB.out.be.cell 1
    have a2 := HB.out.be.cell 2
    have a3 := HB.out.be.cell 3
    simp only [List.getElem?_cons_zero, List.getElem?_cons_succ] at a0 a1 a2 a3
    have HT4 : Hid (Tabs w4) := HTW.out.keep (HS.out.be.trans (HB.out.kp.below HS.out.lt HS.out.be.size))
    go_upto_block 0 with (fail)
    go_cut [7] (fun s7 wc => s7 = .bool (okK k n g.toList && ((l : Int) == (kidsN k : Int))) ∧ Below w4.heap.size w4 wc)
    case first =>
      by_cases k1 : k = 1
      · subst k1
        go_wp2_with (first | (go_at_call 87; refine (inS _ _ _ _).mono ?_; rintro e w1 ⟨rfl, rfl⟩))
        all_goals (go_meet; refine ⟨?_, Below.refl _ _⟩; simp_all [okK, kidsN] <;> (intros; omega))
      · by_cases k2 : k = 2
        · subst k2
          by_cases hn : n = 0
          · subst hn
            go_wp2_with (first | (go_at_call 96; refine (HN.out w4 HT4.out).mono ?_; rintro e w5 ⟨rfl, hb5⟩; have b3 := (HB.out.next hb5).be.cell 3; have HB5 := Lib.hid hb5; clear hb5; simp only [List.getElem?_cons_zero, List.getElem?_cons_succ] at b3))
            all_goals (go_meet; refine ⟨?_, HB5.out⟩; simp_all [okK, kidsN])
          · go_wp2_with fail
            all_goals (go_meet; refine ⟨?_, Below.refl _ _⟩; simp_all [okK, kidsN])
        · by_cases k3 : k = 3
          · subst k3
            by_cases hn : n = 0
            · subst hn
              have hto := tight_op g.toList
              have htn : (0 : Int) ≤ (tight g.toList : Int) := by omega
              by_cases hop : isOp g.toList = true
              · have htp : (0 : Int) < (tight g.toList : Int) := by have : 0 < tight g.toList := by rw [hto]; exact hop
                                                                    omega
                clear hto
                generalize tight g.toList = tt at *
                go_wp2_with (first | (go_at_call 81; refine (HO.out _).mono ?_; rintro e w1 ⟨rfl, rfl⟩))
                all_goals (go_meet; refine ⟨?_, Below.refl _ _⟩; simp_all [okK, kidsN, opOf_isOp] <;> (intros; omega))
              · have htp : tight g.toList = 0 := by
                  rcases Nat.eq_zero_or_pos (tight g.toList) with h | h
                  · exact h
                  · have h' : 0 < tight g.toList := h
                    rw [hto] at h'; exact absurd h' hop
                rw [htp] at HO
                clear hto htp htn
                go_wp2_with (first | (go_at_call 81; refine (HO.out _).mono ?_; rintro e w1 ⟨rfl, rfl⟩))
                all_goals (go_meet; refine ⟨?_, Below.refl _ _⟩; simp_all [okK, kidsN, opOf_isOp])
            · go_wp2_with fail
              all_goals (go_meet; refine ⟨?_, Below.refl _ _⟩; simp_all [okK, kidsN])
          · by_cases k4 : k = 4
            · subst k4
              by_cases hn : n = 0
              · subst hn
                go_wp2_with (first | (go_at_call 52; refine (HY.out _).mono ?_; rintro e w1 ⟨rfl, rfl⟩))
                all_goals (go_meet; refine ⟨?_, Below.refl _ _⟩; simp_all [okK, kidsN])
              · go_wp2_with fail
                all_goals (go_meet; refine ⟨?_, Below.refl _ _⟩; simp_all [okK, kidsN])
            · go_wp2_with fail
              all_goals (go_meet; refine ⟨?_, Below.refl _ _⟩; simp_all [okK, kidsN])
    case rest =>
      obtain ⟨rfl, hbw⟩ := hcut
      have HBc := Lib.hid (HB.out.next hbw)
      clear hbw a0 a1 a2 a3 d0 d1 d2 HT4
      have hlk : ((l : Int) == (kidsN k : Int)) = (l == kidsN k) := by rw [Bool.eq_iff_iff, beq_iff_eq, beq_iff_eq]; omega
      rw [hlk]
      generalize (okK k n g.toList && (l == kidsN k)) = ok at *
      cases ok with
      | false =>
        have R : WkR (wk (d + 1) p t).1 (wk (d + 1) p t).2 P W (.returned (.bool false)) wc := by
          rw [HFS2.out, if_neg (by simp)]
          exact ⟨rfl, by have := HBc.out.bc; rw [show ((p + 1 : Nat) : Int) = (p : Int) + 1 by omega]; exact this, HBc.out.kp⟩
        have HR := Lib.hid R
        clear R
        go_wp2_with fail
        go_ret
        exact HR.out
      | true =>
        have HFS3 : Hid (wk (d + 1) p t = kidsW d (p + 1) t.kids) := by unfold Hid; rw [HFS2.out, if_pos rfl]
        have a3 := HBc.out.be.cell 3
        simp only [List.getElem?_cons_zero, List.getElem?_cons_succ] at a3
        have hSc : WkS W0 P (p + 1) wc := HS.out.step (by have := HBc.out.bc; rw [show ((p + 1 : Nat) : Int) = (p : Int) + 1 by omega]; exact this) HBc.out.kp
        have n4 : Hid (W.heap.size + 1 ≠ P) := by have := HS.out.blk.lt; unfold Hid; omega
        have n5 : Hid (W.heap.size + 1 + 1 ≠ P) := by have := HS.out.blk.lt; unfold Hid; omega
        have HC := Lib.hid (HIH.out (p + 1) P (W.heap.size + 1) (W.heap.size + 1 + 1) D A l c dd t.kids W0 wc HK.out HL HW HTW hSc HP HD HBc.out.bd HBc.out.bp n4 n5)
        unfold WkR at HC
        clear HFS2 hSc n4 n5 HIH
        go_wp2_with fail
        refine HC.out.mono ?_
        rintro e w5 ⟨rfl, hb5, hk5⟩
        have R : WkR (wk (d + 1) p t).1 (wk (d + 1) p t).2 P W (.returned (.bool (wk (d + 1) p t).1)) w5 := ⟨rfl, by rw [HFS3.out]; exact hb5, HBc.out.kp.trans hk5⟩
        have hnn : (!!(wk (d + 1) p t).1) = (wk (d + 1) p t).1 := by simp
        rw [HFS3.out] at R hnn
        have HR := Lib.hid R
        have HR2 : Hid (wk (d + 1) p t = kidsW d (p + 1) t.kids) := HFS3
        clear hb5 hk5 R
        generalize kidsW d (p + 1) t.kids = kw at *
        obtain ⟨kb, kn⟩ := kw
        simp only at *
        go_wp2_with fail
        go_ret
        rw [HR2.out]
        exact HR.out
theorem walk_all : ∀ d : Nat, (d : Int) ≤ 10 → WalkQ d := by
  intro d
  induction d with
  | zero => intro _; exact walk_zero
  | succ d ih => intro h; exact walk_step d (by omega) (con_step d (idx_step d (clo_step d (by omega) (ih (by omega)))))

set_option maxHeartbeats 1000000 in
set_option maxRecDepth 20000 in
theorem implExprOk (k n : Int) (g : ByteArray) (A : Option Addr) (l c : Nat) (t : Ex) (W : World) (h : IsEV W [.int .i64 k, .int .i64 n, .string g, .slice A l c] t) (hw : wgt t ≤ 1048576) (hT : Tabs W) :
    Calls Tryd.prog 34 #[.agg #[.int .i64 k, .int .i64 n, .string g, .slice A l c]] W fun e w' => e = .returned (.bool (exprOk t)) ∧ Below W.heap.size W w' := by
  have HO := Lib.hid (wk_ok t)
  have hb0 : Below W.heap.size W ((W.alloc (.cells #[.int .i64 k, .int .i64 n, .string g, .slice A l c] 25)).alloc (.cells #[.int .i64 0] 3)) := by go_grown
  have hbl : Blk ((W.alloc (.cells #[.int .i64 k, .int .i64 n, .string g, .slice A l c] 25)).alloc (.cells #[.int .i64 0] 3)) (W.heap.size + 1) 3 [.int .i64 ((0 : Nat) : Int)] := by
    have := Blk.alloc_ (W.alloc (.cells #[.int .i64 k, .int .i64 n, .string g, .slice A l c] 25)) 3 [.int .i64 0]
    simpa using this
  have HC := Lib.hid (walk_all 5 (by omega) 0 (W.heap.size + 1) 1 k n g A l c t W _ h hw hT ⟨hb0, by omega, hbl⟩ (by omega) (by omega))
  have HB0 := Lib.hid hb0
  unfold WkR at HC
  clear h hw hT hb0 hbl
  go_enter Tryd.func34, Tryd.ntmps34
  go_wp2_with fail
  refine HC.out.mono ?_
  rintro e w1 ⟨rfl, hb1, hk1⟩
  have R : Below W.heap.size W w1 := HB0.out.trans (hk1.below (by omega) (by simp; omega))
  have HR := Lib.hid R
  rw [HO.out]
  clear hb1 hk1 R
  go_wp2_with fail
  go_ret
  exact ⟨rfl, HR.out⟩
end Go.Proofs.YtfjmjlpobbjjdaaDoor
