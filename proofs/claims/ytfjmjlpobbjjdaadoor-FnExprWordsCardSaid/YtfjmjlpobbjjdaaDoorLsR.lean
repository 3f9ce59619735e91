/- FnExprLast: what holds all the way through its first region. -/
import Derived.Test.YtfjmjlpobbjjdaaDoorLsI
namespace Go.Proofs.YtfjmjlpobbjjdaaDoor
open Go.RowKit Ilp
set_option linter.unusedVariables false
set_option linter.unusedSimpArgs false

theorem upd_self (f : Nat → Value) (i : Nat) (v : Value) : upd f i v i = v := by unfold upd; rw [if_pos rfl]
theorem upd_ne (f : Nat → Value) {i j : Nat} (v : Value) (h : i ≠ j) : upd f i v j = f j := by unfold upd; rw [if_neg (fun e => h e.symm)]
/-- A row being made, by the operations that make it: begun, appended to, the second list, appended to again. -/
def GrAt (bs : Nat) (T : TypeId) (us : List Value) (u : Value) (m a l b : Nat) (listed : Array Bool) (f : Nat → Value) (W : World) : Prop :=
  Gr bs T us u (listed.getD m false) (listed.getD a false) (listed.getD b false) (listed.getD l false) (f m) (f a) (f b) (f l) W
section
variable {bs : Nat} {T : TypeId} {us : List Value} {u : Value} {m a l b : Nat} {listed : Array Bool} {f : Nat → Value} {W W' : World}
theorem grAt_other {i : Nat} {v : Value} (h : GrAt bs T us u m a l b listed f W) (d : i ≠ m ∧ i ≠ a ∧ i ≠ l ∧ i ≠ b) : GrAt bs T us u m a l b (listed.setIfInBounds i true) (upd f i v) W := by
  obtain ⟨d1, d2, d3, d4⟩ := d
  unfold GrAt at h ⊢
  rw [getD_set_same d1, getD_set_same d2, getD_set_same d3, getD_set_same d4, upd_ne f v d1, upd_ne f v d2, upd_ne f v d3, upd_ne f v d4]
  exact h
theorem grAt_m (h : GrAt bs T us u m a l b listed f W) (hs : m < listed.size) (d : m ≠ a ∧ m ≠ l ∧ m ≠ b) (nm : ¬ got listed m) (na : ¬ got listed a) (nb : ¬ got listed b) (hbs : bs ≤ W.heap.size) : GrAt bs T us u m a l b (listed.setIfInBounds m true) (upd f m (.slice (some ⟨W.heap.size, 0, none⟩) 0 0)) (W.alloc (.cells #[] T)) := by
  obtain ⟨d1, d2, d3⟩ := d
  unfold GrAt at h ⊢
  rw [got_set_self hs, getD_set_same d1, getD_set_same d2, getD_set_same d3, upd_self, upd_ne f _ d1, upd_ne f _ d2, upd_ne f _ d3]
  rw [ngot_false nm, ngot_false na, ngot_false nb] at h
  rw [ngot_false na, ngot_false nb]
  exact h.begin hbs
theorem grAt_l (h : GrAt bs T us u m a l b listed f W) (hs : l < listed.size) (d : l ≠ m ∧ l ≠ a ∧ l ≠ b) (nl : ¬ got listed l) (nb : ¬ got listed b) : GrAt bs T us u m a l b (listed.setIfInBounds l true) (upd f l (.slice (some ⟨W.heap.size, 0, none⟩) 1 1)) (W.alloc (.cells #[u] T)) := by
  obtain ⟨d1, d2, d3⟩ := d
  unfold GrAt at h ⊢
  rw [got_set_self hs, getD_set_same d1, getD_set_same d2, getD_set_same d3, upd_self, upd_ne f _ d1, upd_ne f _ d2, upd_ne f _ d3]
  rw [ngot_false nl, ngot_false nb] at h
  rw [ngot_false nb]
  exact h.laid
theorem grAt_a (h : GrAt bs T us u m a l b listed f W) (hs : a < listed.size) (d : a ≠ m ∧ a ≠ l ∧ a ≠ b) (gm : got listed m) (na : ¬ got listed a) (nb : ¬ got listed b) {v' : Value} (hown : W'.ownsRow bs T 1 v' us.length us) (hg : W.grownBy W' (f m).ownBlock) (hat : v'.ownBlock = (f m).ownBlock ∨ v'.ownBlock = some W.heap.size) : GrAt bs T us u m a l b (listed.setIfInBounds a true) (upd f a v') W' := by
  obtain ⟨d1, d2, d3⟩ := d
  unfold GrAt at h ⊢
  rw [got_set_self hs, getD_set_same d1, getD_set_same d2, getD_set_same d3, upd_self, upd_ne f _ d1, upd_ne f _ d2, upd_ne f _ d3]
  rw [show listed.getD m false = true from gm, ngot_false na, ngot_false nb] at h
  rw [show listed.getD m false = true from gm, ngot_false nb]
  exact h.app1 hown hg hat
theorem grAt_b (h : GrAt bs T us u m a l b listed f W) (hs : b < listed.size) (d : b ≠ m ∧ b ≠ a ∧ b ≠ l) (gm : got listed m) (ga : got listed a) (gl : got listed l) (nb : ¬ got listed b) {v' : Value} (hown : W'.ownsRow bs T 1 v' (us.length + 1) (us ++ [u])) : GrAt bs T us u m a l b (listed.setIfInBounds b true) (upd f b v') W' := by
  obtain ⟨d1, d2, d3⟩ := d
  unfold GrAt at h ⊢
  rw [got_set_self hs, getD_set_same d1, getD_set_same d2, getD_set_same d3, upd_self, upd_ne f _ d1, upd_ne f _ d2, upd_ne f _ d3]
  rw [show listed.getD m false = true from gm, show listed.getD a false = true from ga, show listed.getD l false = true from gl, ngot_false nb] at h
  rw [show listed.getD m false = true from gm, show listed.getD a false = true from ga, show listed.getD l false = true from gl]
  exact h.app2 hown
end
theorem grAt_alloc {bs : Nat} {T : TypeId} {us : List Value} {u : Value} {m a l b : Nat} {listed : Array Bool} {f : Nat → Value} {W : World} (h : GrAt bs T us u m a l b listed f W) (o : Obj) : GrAt bs T us u m a l b listed f (W.alloc o) := Gr.alloc h o
theorem own_cells {W : World} {bs n : Nat} {T : TypeId} {v : Value} {xs : List Value} (h : W.ownsRow bs T 1 v n xs) : ∀ k, v.ownBlock = some k → ∃ cs, W.heap[k]? = some (.cells cs T (0, 0)) := by
  intro k hk
  rcases h.2 with ⟨rfl, _⟩ | ⟨g, cap, cur, rfl, _, hg, _⟩
  · simp [Value.ownBlock] at hk
  · simp only [Value.ownBlock, Option.some.injEq] at hk
    subst hk; exact ⟨cur, hg⟩
theorem grAt_keep {bs : Nat} {T T' : TypeId} {us : List Value} {u : Value} {m a l b : Nat} {listed : Array Bool} {f : Nat → Value} {W W' : World} (h : GrAt bs T us u m a l b listed f W) {bs' n : Nat} {v : Value} {xs : List Value} (ho : W.ownsRow bs' T' 1 v n xs) (hT : T' ≠ T) (hg : W.grownBy W' v.ownBlock) : GrAt bs T us u m a l b listed f W' :=
  Gr.keep h hg fun k hk => by obtain ⟨cs, hc⟩ := own_cells ho k hk; exact ⟨cs, T', hc, hT⟩
theorem row_add3 {w : World} {B b o : Nat} {vs : List Value} (h : Row w B (some ⟨b, o, none⟩) vs) : ∀ j u, vs[j]? = some u → w.cell? ((Addr.mk b o none).add j) = some u := by
  intro j u hu
  obtain ⟨b', o', e, hb, hc⟩ := h j u hu
  simp only [Option.some.injEq, Addr.mk.injEq] at e
  obtain ⟨rfl, rfl, _⟩ := e
  have : (Addr.mk b o none).add j = ⟨b, o + j, none⟩ := by unfold Addr.add; split <;> simp_all
  rw [this]; exact hc
/-- Which comes behind which. -/
def lsE : List (Nat × Nat) := [(3, 1), (5, 3), (5, 4), (8, 6), (10, 8), (10, 9), (11, 5), (11, 10), (11, 0), (12, 11), (13, 12), (14, 12), (15, 13), (16, 14)]
/-- What each leaves in its slot. -/
def LsC (ag names nums tup vn vb : Value) : Nat → Value → Prop
  | 0, v => v = ag
  | 2, v => v = names
  | 7, v => v = nums
  | 11, v => v = tup
  | 12, v => v = tup
  | 13, v => v = vn
  | 14, v => v = vb
  | 15, v => v = vn
  | 16, v => v = vb
  | _, _ => True
def unusedB : ByteArray := ⟨#[117, 110, 117, 115, 101, 100]⟩
structure LsO (V : World) (ag names nums tup vn vb : Value) (ns : List ByteArray) (xs : List Int) (listed : Array Bool) (f : Nat → Value) (W : World) : Prop where
  be : Below V.heap.size V W
  gs : ¬ got listed 11 → GrAt V.heap.size 9 (strB ns) (.string unusedB) 1 3 4 5 listed f W
  gi : ¬ got listed 11 → GrAt V.heap.size 3 (ints xs) (.int .i64 77) 6 8 9 10 listed f W
  cv : ∀ j, got listed j → LsC ag names nums tup vn vb j (f j)
  od : ∀ p ∈ lsE, got listed p.1 → got listed p.2
theorem LsO.step {V : World} {ag names nums tup vn vb : Value} {ns : List ByteArray} {xs : List Int} {listed : Array Bool} {f : Nat → Value} {W W' : World} (h : LsO V ag names nums tup vn vb ns xs listed f W) {i : Nat} (ho : ∀ j, (i, j) ∈ lsE → got listed j) {v : Value} (hv : LsC ag names nums tup vn vb i v) (be : Below V.heap.size V W')
    (gs : ¬ got listed 11 → i ≠ 11 → GrAt V.heap.size 9 (strB ns) (.string unusedB) 1 3 4 5 (listed.setIfInBounds i true) (upd f i v) W')
    (gi : ¬ got listed 11 → i ≠ 11 → GrAt V.heap.size 3 (ints xs) (.int .i64 77) 6 8 9 10 (listed.setIfInBounds i true) (upd f i v) W') (hs : listed.size = 17) (hi : i < 17) : LsO V ag names nums tup vn vb ns xs (listed.setIfInBounds i true) (upd f i v) W' := by
  refine ⟨be, fun hn => ?_, fun hn => ?_, fun j hg => ?_, fun p hp hg => ?_⟩
  · refine gs (fun g => hn (got_keep g)) (fun e => ?_)
    subst e; exact hn (got_set_self (by omega))
  · refine gi (fun g => hn (got_keep g)) (fun e => ?_)
    subst e; exact hn (got_set_self (by omega))
  · by_cases e : i = j
    · subst e; rw [upd_self]; exact hv
    · rcases got_set hg with hg | hg
      · rw [upd_ne f v e]; exact h.cv j hg
      · exact absurd hg.symm e
  · rcases got_set hg with hg | hg
    · exact got_keep (h.od p hp hg)
    · obtain ⟨p1, p2⟩ := p
      simp only at hg
      subst hg
      exact got_keep (ho p2 hp)
end Go.Proofs.YtfjmjlpobbjjdaaDoor
