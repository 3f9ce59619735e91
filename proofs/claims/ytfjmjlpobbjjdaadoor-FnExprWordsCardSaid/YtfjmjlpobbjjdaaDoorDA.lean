/- DA: the texts Str DrawS DrE in one. -/
import Derived.Test.YtfjmjlpobbjjdaaDoorGA
import Derived.Test.YtfjmjlpobbjjdaaDoorTA
import Derived.Test.YtfjmjlpobbjjdaaDoorXA

namespace Go.Proofs.YtfjmjlpobbjjdaaDoor
open Go.RowKit

theorem mk_app (a b : List UInt8) : (ByteArray.mk a.toArray) ++ (ByteArray.mk b.toArray) = ⟨(a ++ b).toArray⟩ := by
  apply ByteArray.ext; simp
theorem size_mk (l : List UInt8) : (ByteArray.mk l.toArray).size = l.length := by simp [ByteArray.size]
theorem cut_to (T : List UInt8) (k : Nat) : ((ByteArray.mk T.toArray).extract 0 k).toList = T.take k := by
  rw [ByteArray.extract_mk, ByteArray.toList_eq]; simp
theorem data_mk (l : List UInt8) : (ByteArray.mk l.toArray).data.toList = l := by simp
theorem mk_data (s : ByteArray) : s = ⟨s.data.toList.toArray⟩ := by apply ByteArray.ext; simp
theorem keep_alloc {g : Nat} {u w : World} (h : Keep g u w) (o : Obj) : Keep g u (w.alloc o) :=
  h.trans (Keep.of ((Below.refl _ _).alloc (Nat.le_refl _) _))
end Go.Proofs.YtfjmjlpobbjjdaaDoor

namespace Go.Proofs.YtfjmjlpobbjjdaaDoor
open Go.RowKit
set_option linter.unusedVariables false

def strV (ss : List (List UInt8)) : List Value := ss.map fun l => .string ⟨l.toArray⟩
theorem strV_get {ss : List (List UInt8)} {i : Nat} (h : i < ss.length) : (strV ss)[i]? = some (.string ⟨ss[i].toArray⟩) := by simp [strV, h]

set_option maxHeartbeats 1000000 in
theorem strOf (g p g' n c : Nat) (ss : List (List UInt8)) (w : World) (h : Rd w g p) (hp : (p : Int) ≤ 1000000000) (hb : Blk w g' 9 (strV ss)) (hg : Hid (g' ≠ g)) (hl : Hid (ss.length = n)) (h0 : 0 < n) (hn : (n : Int) ≤ 1000000) :
    Calls Tryd.prog 69 #[.pointer (some ⟨g, 0, none⟩), .slice (some ⟨g', 0, none⟩) n c] w (Drawn g p 1 (fun v => ∃ l ∈ ss, v = .string ⟨l.toArray⟩) w) := by
  go_enter Tryd.func69, Tryd.ntmps69
  go_wp2_with fail
  refine (pick g p n w h hp (by omega) (by omega)).mono ?_
  rintro e w' ⟨r, rfl, hr0, hr1, hR, hK, hs⟩
  have hr2 := hr1 (by omega)
  have hx : r < ss.length := by rw [hl.out]; omega
  have hc : w'.cell? ⟨g', r, none⟩ = some (.string ⟨ss[r].toArray⟩) := by rw [(hK.blk hb hg.out).cell, strV_get hx]
  have R : Drawn g p 1 (fun v => ∃ l ∈ ss, v = .string ⟨l.toArray⟩) w (.returned (.string ⟨ss[r].toArray⟩)) w' :=
    ⟨_, p + 1, rfl, ⟨ss[r], List.getElem_mem hx, rfl⟩, by omega, by omega, hR, hK⟩
  have HR := Lib.hid R; clear R hr0 hr1 hs
  have HX := Lib.hid hx
  go_wp2_with fail
  go_ret
  exact HR.out
end Go.Proofs.YtfjmjlpobbjjdaaDoor

namespace Go.Proofs.YtfjmjlpobbjjdaaDoor
open Go.RowKit Ilp
set_option linter.unusedVariables false

/-- These cells are this; its parts lie in blocks from B on. -/
def IsEN (B : Nat) (W : World) (cs : List Value) (t : Ex) : Prop := ∃ d, ExAt W (Span B W) d cs t
section
variable {B : Nat} {W W' : World} {cs : List Value} {t : Ex}
theorem IsEN.ev (h : IsEN B W cs t) : IsEV W cs t := by
  obtain ⟨d, h⟩ := h
  exact ⟨d, h.keep (fun _ _ => rfl) (fun _ hb => hb.2)⟩
theorem IsEN.keep {g : Nat} (h : IsEN B W cs t) (hk : Keep g W W') (hg : g < B) : IsEN B W' cs t := by
  obtain ⟨d, h⟩ := h
  exact ⟨d, h.keep (fun p hp => hk.cell hp.2 (by have := hp.1; omega)) (fun b hb => ⟨hb.1, Nat.lt_of_lt_of_le hb.2 hk.size⟩)⟩
theorem IsEN.below (h : IsEN B W cs t) (hk : Below W.heap.size W W') : IsEN B W' cs t := by
  obtain ⟨d, h⟩ := h
  exact ⟨d, h.keep (fun p hp => hk.cell hp.2) (fun b hb => ⟨hb.1, Nat.lt_of_lt_of_le hb.2 hk.size⟩)⟩
theorem IsEN.down {B' : Nat} (h : IsEN B W cs t) (hB : B' ≤ B) : IsEN B' W cs t := by
  obtain ⟨d, h⟩ := h
  exact ⟨d, h.keep (fun _ _ => rfl) (fun b hb => ⟨Nat.le_trans hB hb.1, hb.2⟩)⟩
end
theorem exC_mk (k n : Int) (s : ByteArray) (ks : List Ex) (A : Option Addr) (l c : Nat) (hl : ks.length = l) : [Value.int .i64 k, .int .i64 n, .string s, .slice A l c] = exC (.mk k n s.data.toList ks) A c := by
  subst hl; simp [exC, Ex.kind, Ex.num, Ex.txt, Ex.kids, data_mkB]
theorem isEN_leaf (B : Nat) (W : World) (k n : Int) (s : ByteArray) (hs : s.size ≤ maxLen) : IsEN B W [.int .i64 k, .int .i64 n, .string s, .slice none 0 0] (.mk k n s.data.toList []) :=
  ⟨1, none, 0, exC_mk k n s [] none 0 0 rfl, Nat.le_refl _, Nat.zero_le _, hs, KidsOf.nil _ _ _ _⟩
theorem isEN_one {B b : Nat} {W : World} {T : TypeId} {v0 v1 v2 v3 : Value} {x : Ex} (hb : Blk W b T [v0, v1, v2, v3]) (hB : B ≤ b) (hx : IsEN B W [v0, v1, v2, v3] x) (k n : Int) (s : ByteArray) (hs : s.size ≤ maxLen) :
    IsEN B W [.int .i64 k, .int .i64 n, .string s, .slice (some ⟨b, 0, none⟩) 1 1] (.mk k n s.data.toList [x]) := by
  obtain ⟨d, hx⟩ := hx
  refine ⟨d + 1, some ⟨b, 0, none⟩, 1, exC_mk k n s [x] _ 1 1 rfl, by simp [Ex.kids], by unfold maxLen; omega, hs, ?_⟩
  intro i y hy
  cases i with
  | zero =>
    simp only [Ex.kids, List.getElem?_cons_zero, Option.some.injEq] at hy; subst hy
    refine ⟨b, 0, _, rfl, ⟨hB, hb.lt⟩, hx, fun j v hv => ?_⟩
    rw [show 0 + 0 * 4 + j = j by omega, hb.cell]; exact hv
  | succ i => simp [Ex.kids] at hy
theorem isEN_two {B b : Nat} {W : World} {T : TypeId} {v0 v1 v2 v3 u0 u1 u2 u3 : Value} {x y : Ex} (hb : Blk W b T [v0, v1, v2, v3, u0, u1, u2, u3]) (hB : B ≤ b) (hx : IsEN B W [v0, v1, v2, v3] x) (hy : IsEN B W [u0, u1, u2, u3] y) (k n : Int) (s : ByteArray) (hs : s.size ≤ maxLen) :
    IsEN B W [.int .i64 k, .int .i64 n, .string s, .slice (some ⟨b, 0, none⟩) 2 2] (.mk k n s.data.toList [x, y]) := by
  obtain ⟨d, hx⟩ := hx
  obtain ⟨d', hy⟩ := hy
  refine ⟨max d d' + 1, some ⟨b, 0, none⟩, 2, exC_mk k n s [x, y] _ 2 2 rfl, by simp [Ex.kids], by unfold maxLen; omega, hs, ?_⟩
  intro i z hz
  match i with
  | 0 =>
    simp only [Ex.kids, List.getElem?_cons_zero, Option.some.injEq] at hz; subst hz
    refine ⟨b, 0, _, rfl, ⟨hB, hb.lt⟩, hx.deep (Nat.le_max_left _ _), fun j v hv => ?_⟩
    rw [show 0 + 0 * 4 + j = j by omega, hb.cell]
    have hj := (List.getElem?_eq_some_iff.1 hv).1
    simp only [List.length_cons, List.length_nil] at hj
    match j with
    | 0 => exact hv
    | 1 => exact hv
    | 2 => exact hv
    | 3 => exact hv
  | 1 =>
    simp only [Ex.kids, List.getElem?_cons_zero, List.getElem?_cons_succ, Option.some.injEq] at hz; subst hz
    refine ⟨b, 0, _, rfl, ⟨hB, hb.lt⟩, hy.deep (Nat.le_max_right _ _), fun j v hv => ?_⟩
    rw [show 0 + 1 * 4 + j = j + 4 by omega, hb.cell]
    simpa using hv
  | i + 2 => simp [Ex.kids] at hz
end Go.Proofs.YtfjmjlpobbjjdaaDoor
