/- Walks: the program's last, over slices.Backward. -/
import Derived.Test.YtfjmjlpobbjjdaaDoorLa
namespace Go.Proofs.YtfjmjlpobbjjdaaDoor
open Go.RowKit Go.Shelf Ilp
set_option linter.unusedVariables false
attribute [local go_sem] Oper.semAt_some

theorem lastI_upto_none {zs : List ByteArray} {s : ByteArray} {len : Nat} (hl : zs.length = len) (h : ∀ p ∈ uptoF (backF zs len) len, p.2 ≠ s) : lastI zs s = -1 := by
  apply lastI_none
  intro j hj e
  refine h (backF zs len (len - 1 - j)) ?_ ?_
  · simp only [uptoF, List.mem_map, List.mem_range]; exact ⟨len - 1 - j, by omega, rfl⟩
  · unfold backF
    have : len - 1 - (len - 1 - j) = j := by omega
    simp only [this, List.getElem?_eq_getElem hj, Option.getD_some]; exact e
theorem lastI_upto_some {zs : List ByteArray} {s : ByteArray} {len k : Nat} (hl : zs.length = len) (hk : k < len) (h1 : (backF zs len k).2 = s) (h : ∀ p ∈ uptoF (backF zs len) k, p.2 ≠ s) : lastI zs s = ((backF zs len k).1 : Int) := by
  have hx : len - 1 - k < zs.length := by omega
  refine lastI_some (k := len - 1 - k) hx ?_ ?_
  · unfold backF at h1; simpa [List.getElem?_eq_getElem hx] using h1
  · intro j hj hkj e
    refine h (backF zs len (len - 1 - j)) ?_ ?_
    · simp only [uptoF, List.mem_map, List.mem_range]; exact ⟨len - 1 - j, by omega, rfl⟩
    · unfold backF
      have : len - 1 - (len - 1 - j) = j := by omega
      simp only [this, List.getElem?_eq_getElem hj, Option.getD_some]; exact e

set_option maxRecDepth 100000 in
set_option maxHeartbeats 4000000 in
theorem last_in (F : Fence) (n : Nat) (hfl : F.fn 74) (hfb : F.fn 100) (hf1 : F.fn 113) (hro : F.round = none) (hn : 3 ≤ n)
    (A : Option Addr) (len cap : Nat) (zs : List ByteArray) (s : ByteArray) (w : World) (hr : Row w w.heap.size A (strB zs)) (hzl : zs.length = len) (hlen : (len : Int) ≤ 1048576) :
    CallsIn F n Tryd.prog 74 #[.slice A len cap, .string s] w fun e W' => e = .returned (.int .i64 (lastI zs s)) ∧ Below w.heap.size w W' := by
  have h1 : 1 ≤ n := by omega
  refine callsIn_of_wp_marks Tryd.func74 rfl hfl ?_ hro
  simp only [Tryd.ntmps74, List.size_toArray, List.length_cons, List.length_nil, Nat.reduceAdd, Nat.reduceSub, Array.replicate_succ, Array.replicate_zero, List.push_toArray, List.append_toArray, List.nil_append, List.cons_append]
  gi_wp2_with (gi_at_call 100; refine (back_in F (n - 1) hfb hro _ _ _ _).mono ?_; rintro e w' ⟨rfl, rfl⟩)
  have c0 := Boxed.new w 9 (.string s)
  have c1 := Boxed.new (w.alloc (.cells #[.string s] 9)) 3 (.int .i64 0)
  have c2 := Boxed.new ((w.alloc (.cells #[.string s] 9)).alloc (.cells #[.int .i64 0] 3)) 26 (.slice A len cap)
  simp only [World.size_alloc] at c1 c2
  have hB0 : Below w.heap.size w (((w.alloc (.cells #[.string s] 9)).alloc (.cells #[.int .i64 0] 3)).alloc (.cells #[.slice A len cap] 26)) := (((Below.refl _ w).alloc (Nat.le_refl _) _).alloc (by simp) _).alloc (by simp; omega) _
  refine wpIn_rangeFunc_ownF hro h1 (gf := 113) (lb := #[.pointer (some ⟨w.heap.size + 1 + 1, 0, none⟩)]) rfl hf1 (enters_of Tryd.func113 (by kernel_rfl) rfl)
    (back_stops F (n - 1) hf1 hro (by omega) (w.heap.size + 1 + 1) w.heap.size len cap A zs hlen hzl _ (by simp) (by omega) (fun _ _ => trivial) c2.cell (hr.below hB0)) belowK_t (belowK_b (by simp)) (Below.refl _ _) (fun _ => rfl)
    (fun pre W => ((∀ y ∈ pre, y.2 ≠ s) ∧ W.cell? ⟨w.heap.size, 0, none⟩ = some (.string s) ∧ W.cell? ⟨w.heap.size + 1, 0, none⟩ = some (.int .i64 0) ∧ W.frozen? ⟨w.heap.size + 1, 0, none⟩ = false) ∧ Below w.heap.size w W)
    (fun c pre W => (c = .ret ∧ ∃ ini lst, pre = ini ++ [lst] ∧ (∀ p ∈ ini, p.2 ≠ s) ∧ lst.2 = s ∧ W.cell? ⟨w.heap.size + 1, 0, none⟩ = some (.int .i64 (lst.1 : Int))) ∧ Below w.heap.size w W)
    (OwnFrom.and (Own.from (fun s A B row hs hg hr => ⟨hs.1, cell_kept hs.2.1 hg hr, cell_kept hs.2.2.1 hg hr, (frozen_kept hs.2.2.1 hg hr).trans hs.2.2.2⟩) _) (ownFrom_below (Nat.le_refl _) (by simp; omega)))
    (fun c => OwnFrom.and (Own.from (fun s A B row hs hg hr => by obtain ⟨hc, ini, lst, e1, e2, e3, e4⟩ := hs; exact ⟨hc, ini, lst, e1, e2, e3, cell_kept e4 hg hr⟩) _) (ownFrom_below (Nat.le_refl _) (by simp; omega)))
    ⟨⟨by simp, ((c0.alloc _).alloc _).cell, (c1.alloc _).cell, (c1.alloc _).frozen⟩, hB0⟩
    (fun x => { tmps := #[.slice A len cap, .string s, undef, .pointer (some ⟨w.heap.size, 0, none⟩), .pointer (some ⟨w.heap.size + 1, 0, none⟩), .int .i64 (x.1 : Int), .string x.2, .slice A len cap, .func (.func 113) #[] #[.pointer (some ⟨w.heap.size + 1 + 1, 0, none⟩)], .int .i64 (x.1 : Int), .string x.2, undef, undef, undef, undef], defers := [] }) ?assign ?body ?done ?stop
  case assign =>
    intro l x W K hK
    gi_wp2
    exact hK
  case body =>
    rintro l pre x W ⟨⟨hp, hcw, hcr, hfr⟩, hB⟩ _
    by_cases hxs : x.2 = s
    · have hq : (x.2.toList == s.toList) = true := by rw [hxs]; simp
      gi_wp2
      exact ⟨KeepsOthers.setCell _ _ _, ⟨rfl, pre, x, rfl, hp, hxs, World.cell?_setCell_same' _ _ _ (by rw [hcr]; rfl)⟩, hB.setCell (p := ⟨w.heap.size + 1, 0, none⟩) (by simp) _⟩
    · have hq : (x.2.toList == s.toList) = false := by
        rw [beq_eq_false_iff_ne]; intro e; apply hxs
        rw [ByteArray.toList_eq, ByteArray.toList_eq] at e; exact ByteArray.ext (Array.ext' e)
      gi_wp2
      exact ⟨KeepsOthers.refl _, Below.refl _ _, ⟨fun y hy => (List.mem_append.1 hy).elim (hp y) (fun e e' => by simp at e; subst e; exact hxs e'), hcw, hcr, hfr⟩, hB⟩
  case done =>
    rintro D ys W hD rfl ⟨⟨hne, _, hcr, hfr⟩, hB⟩ hK
    have HL := lastI_upto_none hzl hne
    gi_wp2
    have hK' := (KeepsOthers.setCell W ⟨w.heap.size + 1, 0, none⟩ (.int .i64 (-1))).same D _ hK rfl
    refine ⟨by simp, .inl ⟨_, _, rfl, run_takeDeferred hK', ?_⟩⟩
    have hc5 := cell_kept (World.cell?_setCell_same' W ⟨w.heap.size + 1, 0, none⟩ (.int .i64 (-1)) (by rw [hcr]; rfl)) (grownBy_putObj' _ D (.deferred none)) (fun r e => by cases e; exact ⟨_, hK', rfl⟩)
    refine ⟨.int .i64 (-1), ?_, by rw [HL], (hB.setCell (p := ⟨w.heap.size + 1, 0, none⟩) (by simp) _).trans (belowK_b (w := w) (Nat.le_refl _) _ D _ _ (by simp at hD; omega) hK' rfl rfl)⟩
    simp [results, Tryd.f74, go_sem, hc5]
  case stop =>
    rintro D c pre W hD ⟨k, hk, rfl⟩ ⟨⟨rfl, ini, lst, e1, e2, e3, hcr⟩, hB⟩ hK
    obtain ⟨k', rfl⟩ : ∃ k', k = k' + 1 := by
      cases k with
      | zero => simp [uptoF] at e1
      | succ k' => exact ⟨k', rfl⟩
    rw [uptoF_succ] at e1
    obtain ⟨rfl, e5⟩ := List.append_inj' e1 rfl
    obtain rfl : backF zs len k' = lst := by simpa using e5
    have HL := lastI_upto_some hzl (by omega) e3 e2
    gi_wp2
    refine ⟨by simp, .inl ⟨_, _, rfl, run_takeDeferred hK, ?_⟩⟩
    have hc5 := cell_kept hcr (grownBy_putObj' _ D (.deferred none)) (fun r e => by cases e; exact ⟨_, hK, rfl⟩)
    refine ⟨.int .i64 ((backF zs len k').1 : Int), ?_, by first | rfl | rw [HL], hB.trans (belowK_b (w := w) (Nat.le_refl _) W D _ _ (by simp at hD; omega) hK rfl rfl)⟩
    simp [results, Tryd.f74, go_sem, hc5]

theorem implLast (A : Option Addr) (len cap : Nat) (zs : List ByteArray) (s : ByteArray) (w : World) (hr : Row w w.heap.size A (strB zs)) (hzl : zs.length = len) (hlen : (len : Int) ≤ 1048576) :
    Calls Tryd.prog 74 #[.slice A len cap, .string s] w fun e W' => e = .returned (.int .i64 (lastI zs s)) ∧ Below w.heap.size w W' :=
  callsIn_wide.1 (last_in Fence.wide 3 trivial trivial trivial rfl (Nat.le_refl _) A len cap zs s w hr hzl hlen)
end Go.Proofs.YtfjmjlpobbjjdaaDoor
