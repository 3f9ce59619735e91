/- Walks over what is reckoned: toExpr, a copy in new memory. -/
import Derived.Test.YtfjmjlpobbjjdaaDoorExS
namespace Go.Proofs.YtfjmjlpobbjjdaaDoor
open Go.RowKit Ilp
set_option linter.unusedVariables false

/-- Parts in blocks of their own, from block B on, which may be written. -/
def NewAt (T : TypeId) (w : World) (B : Nat) : Nat → Option Addr → Nat → Prop
  | 0, _, len => len = 0
  | d + 1, A, len => len = 0 ∨ ∃ g cs, A = some ⟨g, 0, none⟩ ∧ B ≤ g ∧ w.heap[g]? = some (.cells cs T (0, 0)) ∧ cs.size = len * 4 ∧ ∀ i, i < len → ∃ A' l' c', cs[i * 4 + 3]? = some (.slice A' l' c') ∧ NewAt T w B d A' l'
theorem NewAt.keep {T : TypeId} {w w' : World} {B B' : Nat} (hk : ∀ g, B ≤ g → g < w.heap.size → w'.heap[g]? = w.heap[g]?) (hB : B' ≤ B) : ∀ {d : Nat} {A : Option Addr} {len : Nat}, NewAt T w B d A len → NewAt T w' B' d A len := by
  intro d
  induction d with
  | zero => intro A len h; exact h
  | succ d ih =>
    intro A len h
    rcases h with h | ⟨g, cs, rfl, hg, hc, hs, hi⟩
    · exact .inl h
    · refine .inr ⟨g, cs, rfl, by omega, (hk g hg (Array.getElem?_eq_some_iff.1 hc).1).trans hc, hs, fun i h => ?_⟩
      obtain ⟨A', l', c', h1, h2⟩ := hi i h
      exact ⟨A', l', c', h1, ih h2⟩
abbrev Span (B : Nat) (w : World) : Nat → Prop := fun b => B ≤ b ∧ b < w.heap.size
theorem KidsOf.low {w : World} {B d : Nat} {A : Option Addr} {ts : List Ex} (h : Kids w (Span B w) d A ts) : Kids w (Low w) d A ts := h.keep (fun _ _ => rfl) (fun _ hb => hb.2)

/-- The parts up to k are made. -/
def Made (T : TypeId) (wr : World) (B0 d : Nat) (ks : List Ex) (k : Nat) (vs : List Value) : Prop :=
  ∀ i x, i < k → ks[i]? = some x → ∃ A' cap' d', d = d' + 1 ∧ vs[i * 4]? = some (.int .i64 x.kind) ∧ vs[i * 4 + 1]? = some (.int .i64 x.num) ∧ vs[i * 4 + 2]? = some (.string (mkB x.txt)) ∧ vs[i * 4 + 3]? = some (.slice A' x.kids.length cap') ∧
    x.kids.length ≤ cap' ∧ cap' ≤ maxLen ∧ x.txt.length ≤ maxLen ∧ Kids wr (Span (B0 + 1) wr) d' A' x.kids ∧ NewAt T wr (B0 + 1) d' A' x.kids.length
theorem Made.zero (T : TypeId) (wr : World) (B0 d : Nat) (ks : List Ex) (vs : List Value) : Made T wr B0 d ks 0 vs := fun i x h => by omega
theorem set_other {vs : List Value} {i j : Nat} {v : Value} (h : i ≠ j) : (vs.set i v)[j]? = vs[j]? := by rw [List.getElem?_set, if_neg h]
theorem set_self {vs : List Value} {i : Nat} {v : Value} (h : i < vs.length) : (vs.set i v)[i]? = some v := by rw [List.getElem?_set, if_pos rfl, if_pos h]
theorem Made.step {T : TypeId} {wr w1 w2 : World} {B0 d d' : Nat} {ks : List Ex} {k : Nat} {vs : List Value} (h : Made T wr B0 d ks k vs) {x : Ex} (hx : ks[k]? = some x) (hd : d = d' + 1) (hB : B0 < wr.heap.size) (hb1 : Below wr.heap.size wr w1)
    (h12 : ∀ g, B0 < g → w2.heap[g]? = w1.heap[g]?) (hs : w2.heap.size = w1.heap.size) {A' : Option Addr} {cap' : Nat} (hlen : k * 4 + 3 < vs.length)
    (g1 : x.kids.length ≤ cap') (g2 : cap' ≤ maxLen) (g3 : x.txt.length ≤ maxLen) (hk : Kids w1 (Span wr.heap.size w1) d' A' x.kids) (hn : NewAt T w1 wr.heap.size d' A' x.kids.length) :
    Made T w2 B0 d ks (k + 1) ((((vs.set (k * 4) (.int .i64 x.kind)).set (k * 4 + 1) (.int .i64 x.num)).set (k * 4 + 2) (.string (mkB x.txt))).set (k * 4 + 3) (.slice A' x.kids.length cap')) := by
  intro i y hi hy
  have hcell : ∀ p : Addr, B0 < p.block → w2.cell? p = w1.cell? p := fun p hp => World.cell?_of_block (w := w1) (h12 _ hp)
  have hsz := hb1.size
  by_cases hik : i = k
  · subst hik
    rw [hx] at hy
    injection hy with hy
    subst hy
    refine ⟨A', cap', d', hd, ?_, ?_, ?_, ?_, g1, g2, g3, ?_, ?_⟩
    · rw [set_other (by omega), set_other (by omega), set_other (by omega), set_self (by omega)]
    · rw [set_other (by omega), set_other (by omega), set_self (by simp; omega)]
    · rw [set_other (by omega), set_self (by simp; omega)]
    · rw [set_self (by simp; omega)]
    · exact hk.keep (fun p hp => hcell p (by have := hp.1; omega)) (fun b hb => ⟨by have := hb.1; omega, by rw [hs]; exact hb.2⟩)
    · exact hn.keep (fun g hg _ => h12 g (by omega)) (by omega)
  · obtain ⟨A2, cap2, d2, e2, v0, v1, v2, v3, k1, k2, k3, hk2, hn2⟩ := h i y (by omega) hy
    refine ⟨A2, cap2, d2, e2, ?_, ?_, ?_, ?_, k1, k2, k3, ?_, ?_⟩
    · rw [set_other (by omega), set_other (by omega), set_other (by omega), set_other (by omega)]; exact v0
    · rw [set_other (by omega), set_other (by omega), set_other (by omega), set_other (by omega)]; exact v1
    · rw [set_other (by omega), set_other (by omega), set_other (by omega), set_other (by omega)]; exact v2
    · rw [set_other (by omega), set_other (by omega), set_other (by omega), set_other (by omega)]; exact v3
    · exact hk2.keep (fun p hp => (hcell p (by have := hp.1; omega)).trans (hb1.cell hp.2)) (fun b hb => ⟨hb.1, by have := hb.2; omega⟩)
    · exact hn2.keep (fun g hg hl => (h12 g (by omega)).trans (hb1.block g hl)) (Nat.le_refl _)
theorem Made.done {T : TypeId} {w : World} {B0 d : Nat} {ks : List Ex} {vs : List Value} (h : Made T w B0 d ks ks.length vs) (hb : Blk w B0 T vs) (hl : vs.length = ks.length * 4) : Kids w (Span B0 w) d (some ⟨B0, 0, none⟩) ks ∧ NewAt T w B0 d (some ⟨B0, 0, none⟩) ks.length := by
  constructor
  · intro i x hx
    have hi := (List.getElem?_eq_some_iff.1 hx).1
    obtain ⟨A2, cap2, d2, e2, v0, v1, v2, v3, k1, k2, k3, hk2, hn2⟩ := h i x hi hx
    subst e2
    refine ⟨B0, 0, exC x A2 cap2, rfl, ⟨Nat.le_refl _, hb.lt⟩, ⟨A2, cap2, rfl, k1, k2, k3, hk2.keep (fun _ _ => rfl) (fun b hb => ⟨by have := hb.1; omega, hb.2⟩)⟩, fun j v hv => ?_⟩
    rw [hb.cell, Nat.zero_add]
    match j, hv with
    | 0, hv => simp [exC] at hv; subst hv; exact v0
    | 1, hv => simp [exC] at hv; subst hv; exact v1
    | 2, hv => simp [exC] at hv; subst hv; exact v2
    | 3, hv => simp [exC] at hv; subst hv; exact v3
    | j + 4, hv => simp [exC] at hv
  · cases d with
    | zero =>
      cases ks with
      | nil => rfl
      | cons x ks =>
        obtain ⟨_, _, d2, e2, _⟩ := h 0 x (by simp) rfl
        omega
    | succ d =>
      refine .inr ⟨B0, vs.toArray, rfl, Nat.le_refl _, hb, by simpa using hl, fun i hi => ?_⟩
      obtain ⟨A2, cap2, d2, e2, v0, v1, v2, v3, k1, k2, k3, hk2, hn2⟩ := h i ks[i] hi (List.getElem?_eq_getElem hi)
      obtain rfl : d = d2 := by omega
      exact ⟨A2, _, cap2, by simpa using v3, hn2.keep (fun _ _ _ => rfl) (by omega)⟩

theorem exInfo : (Tryd.prog.info? 25).map (fun i => (i.zero, i.size, i.bytes)) = some (some (.agg #[.int .i64 0, .int .i64 0, .string ByteArray.empty, .slice none 0 0]), 4, 56) := by kernel_rfl
theorem makeExs (n : Nat) (hn : (n : Int) ≤ 1048576) (w : World) :
    (Instr.makeSlice 23 (.int .i64 (n : Int)) (.int .i64 (n : Int))).run Tryd.prog w = .ok (.slice (some ⟨w.heap.size, 0, none⟩) n n) (w.alloc (.cells (madeCells (Value.cells (.agg #[.int .i64 0, .int .i64 0, .string ByteArray.empty, .slice none 0 0])) (n * 4)) 25)) := by
  obtain ⟨i0, hi, hz0, hz1, hz2⟩ := info_parts exInfo
  have h := run_make (P := Tryd.prog) w 23 25 i0 (.agg #[.int .i64 0, .int .i64 0, .string ByteArray.empty, .slice none 0 0]) Tryd.underlying23 hi hz0 .i64 .i64 (n : Int) (n : Int) (by omega) (by omega) (by rw [hz2]; omega) (by omega)
  rw [hz1, Int.toNat_natCast] at h
  exact h
def zeroEx (n : Nat) : List Value := (madeCells (Value.cells (.agg #[.int .i64 0, .int .i64 0, .string ByteArray.empty, .slice none 0 0])) (n * 4)).toList
theorem zeroEx_len (n : Nat) : (zeroEx n).length = n * 4 := by simp [zeroEx, size_madeCells]

def QTo (d : Nat) : Prop := ∀ (t : Ex) (A : Option Addr) (cap : Nat) (w : World), Kids w (Low w) d A t.kids → t.txt.length ≤ maxLen → wgts t.kids ≤ 1048576 →
  Calls Tryd.prog 20 #[.agg #[.int .i64 t.kind, .int .i64 t.num, .string (mkB t.txt), .slice A t.kids.length cap]] w fun e w' => ∃ A', e = .returned (.agg #[.int .i64 t.kind, .int .i64 t.num, .string (mkB t.txt), .slice A' t.kids.length t.kids.length]) ∧
    Kids w' (Span w.heap.size w') d A' t.kids ∧ NewAt 25 w' w.heap.size d A' t.kids.length ∧ Below w.heap.size w w'
def RTo (d : Nat) : Prop := ∀ (ks : List Ex) (A : Option Addr) (m cap : Nat) (w : World), Kids w (Low w) d A ks → Hid (ks.length = m) → wgts ks ≤ 1048576 →
  Calls Tryd.prog 55 #[.slice A m cap] w fun e w' => e = .returned (.slice (some ⟨w.heap.size, 0, none⟩) m m) ∧
    Kids w' (Span w.heap.size w') d (some ⟨w.heap.size, 0, none⟩) ks ∧ NewAt 25 w' w.heap.size d (some ⟨w.heap.size, 0, none⟩) m ∧ Below w.heap.size w w'

set_option maxHeartbeats 4000000 in
theorem toExprS_step (d : Nat) (ih : ∀ d', d = d' + 1 → QTo d') : RTo d := by
  intro ks A m cap w hk hl hw
  have hwl := wgts_len ks
  have hm : (m : Int) ≤ 1048576 := by have := hl.out; omega
  have HK := Lib.hid hk; clear hk
  have HIH := Lib.hid ih; clear ih
  have HW := Lib.hid hw; clear hw hwl
  have hmk := makeExs m hm w
  go_enter Tryd.func55, Tryd.ntmps55
  go_wp2
  clear hmk
  go_loopw [4] (fun v wr => ∃ (k : Nat) (vs : List Value), v = .int .i64 (k : Int) ∧ k ≤ m ∧ Blk wr w.heap.size 25 vs ∧ vs.length = m * 4 ∧ Hid (Made 25 wr w.heap.size d ks k vs) ∧ Below w.heap.size w wr) (fun v _ => m - (intOf v).toNat)
  case atStart =>
    refine ⟨0, zeroEx m, rfl, Nat.zero_le _, ?_, zeroEx_len m, Made.zero _ _ _ _ _ _, (Below.refl _ _).alloc (Nat.le_refl _) _⟩
    have := Blk.alloc_ w 25 (zeroEx m)
    rw [show (zeroEx m).toArray = madeCells (Value.cells (.agg #[.int .i64 0, .int .i64 0, .string ByteArray.empty, .slice none 0 0])) (m * 4) by simp [zeroEx]] at this
    exact this
  case round =>
    obtain ⟨k, vs, rfl, hk, hb, hvl, hmade, hbw⟩ := hrel
    by_cases hlt : k < m
    · have hx : k < ks.length := by rw [hl.out]; exact hlt
      obtain ⟨b, o, A', cap', d', rfl, hbb, hd, c0, c1, c2, c3, g1, g2, g3, hkk⟩ := (HK.out.below hbw).get hx
      have CT := Lib.hid (HIH.out d' hd ks[k] A' cap' wr hkk g3 (by have := HW.out; have h1 := wgts_mem (List.getElem_mem hx); have h2 := wgt_eq ks[k]; omega))
      have HX := Lib.hid (List.getElem?_eq_getElem hx)
      have HG := Lib.hid (And.intro g1 (And.intro g2 (And.intro g3 hd)))
      have HKL : Hid (ks[k].kids.length ≤ 1048576) := by
        have := HW.out; have h1 := wgts_mem (List.getElem_mem hx); have h2 := wgt_eq ks[k]; have h3 := wgts_len ks[k].kids; unfold Hid; omega
      obtain ⟨x, ex⟩ : ∃ x, x = ks[k] := ⟨_, rfl⟩
      rw [← ex] at c0 c1 c2 c3 CT HX HG HKL
      have HB := Lib.hid hb
      have HBW := Lib.hid hbw
      clear hkk ex hx g1 g2 g3 hb hbw hd
      go_wp2_with fail
      refine CT.out.mono ?_
      rintro e w1 ⟨A2, rfl, hkids, hnew, hb1⟩
      have hb2 := HB.out.below hb1 HB.out.lt
      have HB1 := Lib.hid hb1
      have HKN := Lib.hid (And.intro hkids hnew)
      clear c0 c1 c2 c3 hb1 hkids hnew CT
      have e0 : ∃ v, w1.cell? ⟨w.heap.size, k * 4, none⟩ = some v := ⟨_, by rw [hb2.cell]; exact List.getElem?_eq_getElem (by omega)⟩
      have e1 : ∃ v, w1.cell? ⟨w.heap.size, k * 4 + 1, none⟩ = some v := ⟨_, by rw [hb2.cell]; exact List.getElem?_eq_getElem (by omega)⟩
      have e2 : ∃ v, w1.cell? ⟨w.heap.size, k * 4 + 2, none⟩ = some v := ⟨_, by rw [hb2.cell]; exact List.getElem?_eq_getElem (by omega)⟩
      have e3 : ∃ v, w1.cell? ⟨w.heap.size, k * 4 + 3, none⟩ = some v := ⟨_, by rw [hb2.cell]; exact List.getElem?_eq_getElem (by omega)⟩
      obtain ⟨v0, e0⟩ := e0
      obtain ⟨v1, e1⟩ := e1
      obtain ⟨v2, e2⟩ := e2
      obtain ⟨v3, e3⟩ := e3
      have f0 := hb2.frozen (k * 4)
      have f1 := hb2.frozen (k * 4 + 1)
      have f2 := hb2.frozen (k * 4 + 2)
      have f3 := hb2.frozen (k * 4 + 3)
      have HB2 := Lib.hid hb2
      clear hb2
      go_wp2_with fail
      go_roundw
      case rel =>
        refine ⟨k + 1, _, by go_num, by omega, (((HB2.out.put (k * 4) (.int .i64 x.kind)).put (k * 4 + 1) (.int .i64 x.num)).put (k * 4 + 2) (.string (mkB x.txt))).put (k * 4 + 3) (.slice A2 x.kids.length x.kids.length), by simp; exact hvl, ?_, ?_⟩
        · exact hmade.out.step HX.out HG.out.2.2.2 HB.out.lt HB1.out (fun g hg => by
            rw [Below.heap_setCell _ _ _ _ (by simp; omega), Below.heap_setCell _ _ _ _ (by simp; omega), Below.heap_setCell _ _ _ _ (by simp; omega), Below.heap_setCell _ _ _ _ (by simp; omega)]) (by simp [World.setCell]) (by omega) (Nat.le_refl _) (by have := HKL.out; unfold maxLen; omega) HG.out.2.2.1 HKN.out.1 HKN.out.2
        · exact ((((HBW.out.trans (HB1.out.mono HBW.out.size)).setCell (Nat.le_refl _) _).setCell (Nat.le_refl _) _).setCell (Nat.le_refl _) _).setCell (Nat.le_refl _) _
      case measure => simp [intOf]; omega
    · obtain rfl : k = m := by omega
      have HD : Hid (Kids wr (Span w.heap.size wr) d (some ⟨w.heap.size, 0, none⟩) ks ∧ NewAt 25 wr w.heap.size d (some ⟨w.heap.size, 0, none⟩) k) := by
        have h := hmade.out
        have h2 := hl.out
        subst h2
        exact h.done hb hvl
      go_wp2
      go_ret
      exact ⟨rfl, HD.out.1, HD.out.2, hbw⟩
set_option maxHeartbeats 1000000 in
theorem toExpr_step (d : Nat) (ih : RTo d) : QTo d := by
  intro t A cap w hk hs hw
  have C := fun W (h : Below w.heap.size w W) => ih t.kids A t.kids.length cap W (hk.below h) rfl hw
  have HC := Lib.hid C
  clear C hk hw ih
  have hz : (⟨#[]⟩ : ByteArray) = ByteArray.empty := rfl
  generalize mkB t.txt = s at *
  generalize hml : t.kids.length = m at *
  have HML := Lib.hid hml
  clear hml hz
  go_enter Tryd.func20, Tryd.ntmps20
  go_wp2_with fail
  have hA : Blk (((w.alloc (.cells #[.int .i64 t.kind, .int .i64 t.num, .string s, .slice A m cap] 36)).alloc (.cells #[.int .i64 0, .int .i64 0, .string ⟨#[]⟩, .slice none 0 0] 25)).alloc (.cells #[.int .i64 t.kind, .int .i64 t.num, .string s, .slice none 0 0] 25)) (w.heap.size + 1 + 1) 25 [.int .i64 t.kind, .int .i64 t.num, .string s, .slice none 0 0] := by
    have := Blk.alloc_ ((w.alloc (.cells #[.int .i64 t.kind, .int .i64 t.num, .string s, .slice A m cap] 36)).alloc (.cells #[.int .i64 0, .int .i64 0, .string ⟨#[]⟩, .slice none 0 0] 25)) 25 [.int .i64 t.kind, .int .i64 t.num, .string s, .slice none 0 0]
    simpa using this
  have hB : Blk (((w.alloc (.cells #[.int .i64 t.kind, .int .i64 t.num, .string s, .slice A m cap] 36)).alloc (.cells #[.int .i64 0, .int .i64 0, .string ⟨#[]⟩, .slice none 0 0] 25)).alloc (.cells #[.int .i64 t.kind, .int .i64 t.num, .string s, .slice none 0 0] 25)) (w.heap.size + 1) 25 [.int .i64 0, .int .i64 0, .string ⟨#[]⟩, .slice none 0 0] := by
    have := (Blk.alloc_ (w.alloc (.cells #[.int .i64 t.kind, .int .i64 t.num, .string s, .slice A m cap] 36)) 25 [.int .i64 0, .int .i64 0, .string ⟨#[]⟩, .slice none 0 0]).alloc (.cells #[.int .i64 t.kind, .int .i64 t.num, .string s, .slice none 0 0] 25)
    simpa using this
  have hb0 : Below w.heap.size w (((w.alloc (.cells #[.int .i64 t.kind, .int .i64 t.num, .string s, .slice A m cap] 36)).alloc (.cells #[.int .i64 0, .int .i64 0, .string ⟨#[]⟩, .slice none 0 0] 25)).alloc (.cells #[.int .i64 t.kind, .int .i64 t.num, .string s, .slice none 0 0] 25)) := by go_grown
  have hsz : (((w.alloc (.cells #[.int .i64 t.kind, .int .i64 t.num, .string s, .slice A m cap] 36)).alloc (.cells #[.int .i64 0, .int .i64 0, .string ⟨#[]⟩, .slice none 0 0] 25)).alloc (.cells #[.int .i64 t.kind, .int .i64 t.num, .string s, .slice none 0 0] 25)).heap.size = w.heap.size + 1 + 1 + 1 := by simp
  generalize ((w.alloc (.cells #[.int .i64 t.kind, .int .i64 t.num, .string s, .slice A m cap] 36)).alloc (.cells #[.int .i64 0, .int .i64 0, .string ⟨#[]⟩, .slice none 0 0] 25)).alloc (.cells #[.int .i64 t.kind, .int .i64 t.num, .string s, .slice none 0 0] 25) = w0 at *
  refine (HC.out w0 hb0).mono ?_
  rintro e w1 ⟨rfl, hk1, hn1, hb1⟩
  have hA1 := hA.below hb1 hA.lt
  have hB1 := hB.below hb1 hB.lt
  have HB1 := Lib.hid hb1
  have HB0 := Lib.hid hb0
  have HK1 := Lib.hid hk1
  have HN1 := Lib.hid hn1
  clear hk1 hn1 hb1 hb0 hA hB
  have a0 := hA1.cell 0
  have a1 := hA1.cell 1
  have a2 := hA1.cell 2
  have a3 := hA1.cell 3
  have b0 := hB1.cell 0
  have b1 := hB1.cell 1
  have b2 := hB1.cell 2
  have b3 := hB1.cell 3
  simp only [List.getElem?_cons_zero, List.getElem?_cons_succ] at a0 a1 a2 a3 b0 b1 b2 b3
  have fa3 := hA1.frozen 3
  have fb0 := hB1.frozen 0
  have fb1 := hB1.frozen 1
  have fb2 := hB1.frozen 2
  have fb3 := hB1.frozen 3
  have HSZ := Lib.hid hsz
  have HBB := Lib.hid hB1
  clear hA1 hB1
  rw [hsz]
  clear hsz
  have fin : ∀ wf : World, (∀ g, w.heap.size + 1 + 1 < g → wf.heap[g]? = w1.heap[g]?) → wf.heap.size = w1.heap.size → Below w.heap.size w1 wf →
      Kids wf (Span w.heap.size wf) d (some ⟨w.heap.size + 1 + 1 + 1, 0, none⟩) t.kids ∧ NewAt 25 wf w.heap.size d (some ⟨w.heap.size + 1 + 1 + 1, 0, none⟩) m ∧ Below w.heap.size w wf := by
    intro wf h1 h2 h3
    have hk := HK1.out
    have hn := HN1.out
    have hz := HSZ.out
    rw [hz] at hn hk
    refine ⟨hk.keep (fun p hp => World.cell?_of_block (w := w1) (h1 _ (by have := hp.1; omega))) (fun b hb => ⟨by have := hb.1; omega, by rw [h2]; exact hb.2⟩),
      hn.keep (fun g hg _ => h1 g (by omega)) (by omega), (HB0.out.trans (HB1.out.mono HB0.out.size)).trans h3⟩
  have FIN := Lib.hid fin
  clear fin
  obtain ⟨v, hv⟩ : ∃ v : Value, v = .slice (some ⟨w.heap.size + 1 + 1 + 1, 0, none⟩) m m := ⟨_, rfl⟩
  have B0 := HBB.out.far (p := ⟨w.heap.size + 1 + 1, 3, none⟩) (by simp) v
  have B1 := B0.put 0 (.int .i64 t.kind)
  have B2 := B1.put 1 (.int .i64 t.num)
  have B3 := B2.put 2 (.string s)
  have B4 := B3.put 3 v
  have q0 := B1.cell 0
  have q1 := B2.cell 1
  have q2 := B3.cell 2
  have q3 := B4.cell 3
  simp only [List.set_cons_zero, List.set_cons_succ, List.getElem?_cons_zero, List.getElem?_cons_succ] at q0 q1 q2 q3
  subst hv
  clear B0 B1 B2 B3 B4
  go_wp2_with fail
  refine bodyPost_ret (v := .agg #[.int .i64 t.kind, .int .i64 t.num, .string s, .slice (some ⟨w.heap.size + 1 + 1 + 1, 0, none⟩) m m]) (by simp [results, Tryd.results20, go_sem, q0, q1, q2, q3]) rfl ?_
  refine ⟨_, rfl, FIN.out _ (fun g hg => ?_) (by simp [World.setCell]) ?_⟩
  · rw [Below.heap_setCell _ _ _ _ (by simp; omega), Below.heap_setCell _ _ _ _ (by simp; omega), Below.heap_setCell _ _ _ _ (by simp; omega), Below.heap_setCell _ _ _ _ (by simp; omega), Below.heap_setCell _ _ _ _ (by simp; omega)]
  · exact (((((Below.refl _ _).setCell (by simp; omega) _).setCell (by simp) _).setCell (by simp) _).setCell (by simp) _).setCell (by simp) _
theorem toExpr_all (d : Nat) : QTo d ∧ RTo d := by
  induction d with
  | zero => exact ⟨toExpr_step 0 (toExprS_step 0 fun d' h => by omega), toExprS_step 0 fun d' h => by omega⟩
  | succ d ih =>
    have h : RTo (d + 1) := toExprS_step (d + 1) fun d' h => by
      obtain rfl : d' = d := by omega
      exact ih.1
    exact ⟨toExpr_step _ h, h⟩
end Go.Proofs.YtfjmjlpobbjjdaaDoor
