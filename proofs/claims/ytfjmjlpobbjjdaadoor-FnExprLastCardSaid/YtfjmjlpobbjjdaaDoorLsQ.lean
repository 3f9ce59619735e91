/- FnExprLast: two rows, each begun with what is laid and appended to once: what holds all the way. -/
import Derived.Test.YtfjmjlpobbjjdaaDoorLsR
import Derived.Laws.OwnMore
namespace Go.Proofs.YtfjmjlpobbjjdaaDoor
open Go.RowKit Ilp
set_option linter.unusedVariables false
set_option linter.unusedSimpArgs false

/-- Two rows that are made: b begun, a appended to. -/
structure Gq (bs : Nat) (T1 T2 : TypeId) (n1 n2 : Nat) (ws1 us1 ws2 us2 : List Value) (b1 a1 b2 a2 : Bool) (vb1 va1 vb2 va2 : Value) (W : World) : Prop where
  o1 : b1 = true → a1 = false → W.ownsRow bs T1 1 vb1 n1 ws1
  p1 : a1 = true → W.ownsRow bs T1 1 va1 (n1 + us1.length) (ws1 ++ us1)
  o2 : b2 = true → a2 = false → W.ownsRow bs T2 1 vb2 n2 ws2
  p2 : a2 = true → W.ownsRow bs T2 1 va2 (n2 + us2.length) (ws2 ++ us2)
  df : b1 = true → b2 = true → ∀ k, (if a1 = true then va1 else vb1).ownBlock = some k → (if a2 = true then va2 else vb2).ownBlock ≠ some k
section
variable {bs : Nat} {T1 T2 : TypeId} {n1 n2 : Nat} {ws1 us1 ws2 us2 : List Value} {b1 a1 b2 a2 : Bool} {vb1 va1 vb2 va2 : Value} {W W' : World}
theorem Gq.swap (h : Gq bs T1 T2 n1 n2 ws1 us1 ws2 us2 b1 a1 b2 a2 vb1 va1 vb2 va2 W) : Gq bs T2 T1 n2 n1 ws2 us2 ws1 us1 b2 a2 b1 a1 vb2 va2 vb1 va1 W :=
  ⟨h.o2, h.p2, h.o1, h.p1, fun x y k e e' => h.df y x k e' e⟩
/-- The first row is begun. -/
theorem Gq.begin (h : Gq bs T1 T2 n1 n2 ws1 us1 ws2 us2 false false b2 a2 vb1 va1 vb2 va2 W) (hab : a2 = true → b2 = true) (hbs : bs ≤ W.heap.size) (hn : ws1.length = n1) (hm : n1 ≤ maxLen) : Gq bs T1 T2 n1 n2 ws1 us1 ws2 us2 true false b2 a2 (.slice (some ⟨W.heap.size, 0, none⟩) n1 n1) va1 vb2 va2 (W.alloc (.cells ws1.toArray T1)) := by
  have hg := World.grownBy_alloc W (.cells ws1.toArray T1) none
  refine ⟨fun _ _ => ?_, (fun x => by cases x), fun x y => own_apart (h.o2 x y) hg (fun k _ e => by cases e), fun x => own_apart (h.p2 x) hg (fun k _ e => by cases e), fun _ x k e e' => ?_⟩
  · have := World.ownsRow_lit (base := bs) (e := T1) (size := 1) W ws1.toArray n1 hbs hm (by simp [hn])
    simpa using this
  · simp only [Bool.false_eq_true, if_false, Value.ownBlock, Option.some.injEq] at e
    subst e
    cases a2 with
    | true => simp only [if_true] at e'; have := ((h.p2 rfl).lt _ e').2; omega
    | false => simp only [Bool.false_eq_true, if_false] at e'; have := ((h.o2 x rfl).lt _ e').2; omega
/-- The first row is appended to. -/
theorem Gq.app (h : Gq bs T1 T2 n1 n2 ws1 us1 ws2 us2 true false b2 a2 vb1 va1 vb2 va2 W) (hab : a2 = true → b2 = true) {v' : Value} (hown : W'.ownsRow bs T1 1 v' (n1 + us1.length) (ws1 ++ us1)) (hg : W.grownBy W' vb1.ownBlock) (hat : v'.ownBlock = vb1.ownBlock ∨ v'.ownBlock = some W.heap.size) : Gq bs T1 T2 n1 n2 ws1 us1 ws2 us2 true true b2 a2 vb1 v' vb2 va2 W' := by
  have hd : ∀ (hb : b2 = true), ∀ k, vb1.ownBlock = some k → (if a2 = true then va2 else vb2).ownBlock ≠ some k := fun hb k e => h.df rfl hb k (by simpa using e)
  have hl : ∀ (hb : b2 = true), ∀ k, (if a2 = true then va2 else vb2).ownBlock = some k → k < W.heap.size := fun hb k e => by
    cases a2 with
    | true => simp only [if_true] at e; exact ((h.p2 rfl).lt _ e).2
    | false => simp only [Bool.false_eq_true, if_false] at e; exact ((h.o2 hb rfl).lt _ e).2
  refine ⟨(fun _ x => by cases x), fun _ => hown, fun x y => own_apart (h.o2 x y) hg (fun k hk e => ?_), fun x => own_apart (h.p2 x) hg (fun k hk e => ?_), fun _ x k e e' => ?_⟩
  · subst y; exact hd x k e (by simpa using hk)
  · subst x; exact hd (hab rfl) k e (by simpa using hk)
  · simp only [if_true] at e
    rcases hat with e2 | e2
    · rw [e2] at e; exact hd x k e e'
    · rw [e2] at e; simp only [Option.some.injEq] at e; have := hl x k e'; omega
end
/-- The same, by the operations: begun, appended to; of either row. -/
def GqAt (bs : Nat) (T1 T2 : TypeId) (n1 n2 : Nat) (ws1 us1 ws2 us2 : List Value) (b1 a1 b2 a2 : Nat) (listed : Array Bool) (f : Nat → Value) (W : World) : Prop :=
  Gq bs T1 T2 n1 n2 ws1 us1 ws2 us2 (listed.getD b1 false) (listed.getD a1 false) (listed.getD b2 false) (listed.getD a2 false) (f b1) (f a1) (f b2) (f a2) W
section
variable {bs : Nat} {T1 T2 : TypeId} {n1 n2 : Nat} {ws1 us1 ws2 us2 : List Value} {b1 a1 b2 a2 : Nat} {listed : Array Bool} {f : Nat → Value} {W W' : World}
theorem GqAt.swap (h : GqAt bs T1 T2 n1 n2 ws1 us1 ws2 us2 b1 a1 b2 a2 listed f W) : GqAt bs T2 T1 n2 n1 ws2 us2 ws1 us1 b2 a2 b1 a1 listed f W := Gq.swap h
theorem gqAt_other {i : Nat} {v : Value} (h : GqAt bs T1 T2 n1 n2 ws1 us1 ws2 us2 b1 a1 b2 a2 listed f W) (d : i ≠ b1 ∧ i ≠ a1 ∧ i ≠ b2 ∧ i ≠ a2) : GqAt bs T1 T2 n1 n2 ws1 us1 ws2 us2 b1 a1 b2 a2 (listed.setIfInBounds i true) (upd f i v) W := by
  obtain ⟨d1, d2, d3, d4⟩ := d
  unfold GqAt at h ⊢
  rw [getD_set_same d1, getD_set_same d2, getD_set_same d3, getD_set_same d4, upd_ne f v d1, upd_ne f v d2, upd_ne f v d3, upd_ne f v d4]
  exact h
theorem gqAt_b (h : GqAt bs T1 T2 n1 n2 ws1 us1 ws2 us2 b1 a1 b2 a2 listed f W) (hs : b1 < listed.size) (d : b1 ≠ a1 ∧ b1 ≠ b2 ∧ b1 ≠ a2) (nb : ¬ got listed b1) (na : ¬ got listed a1) (hab : got listed a2 → got listed b2) (hbs : bs ≤ W.heap.size) (hn : ws1.length = n1) (hm : n1 ≤ maxLen) : GqAt bs T1 T2 n1 n2 ws1 us1 ws2 us2 b1 a1 b2 a2 (listed.setIfInBounds b1 true) (upd f b1 (.slice (some ⟨W.heap.size, 0, none⟩) n1 n1)) (W.alloc (.cells ws1.toArray T1)) := by
  obtain ⟨d1, d2, d3⟩ := d
  unfold GqAt at h ⊢
  rw [got_set_self hs, getD_set_same d1, getD_set_same d2, getD_set_same d3, upd_self, upd_ne f _ d1, upd_ne f _ d2, upd_ne f _ d3]
  rw [ngot_false nb, ngot_false na] at h
  rw [ngot_false na]
  exact h.begin hab hbs hn hm
theorem gqAt_a (h : GqAt bs T1 T2 n1 n2 ws1 us1 ws2 us2 b1 a1 b2 a2 listed f W) (hs : a1 < listed.size) (d : a1 ≠ b1 ∧ a1 ≠ b2 ∧ a1 ≠ a2) (gb : got listed b1) (na : ¬ got listed a1) (hab : got listed a2 → got listed b2) {v' : Value} (hown : W'.ownsRow bs T1 1 v' (n1 + us1.length) (ws1 ++ us1)) (hg : W.grownBy W' (f b1).ownBlock) (hat : v'.ownBlock = (f b1).ownBlock ∨ v'.ownBlock = some W.heap.size) : GqAt bs T1 T2 n1 n2 ws1 us1 ws2 us2 b1 a1 b2 a2 (listed.setIfInBounds a1 true) (upd f a1 v') W' := by
  obtain ⟨d1, d2, d3⟩ := d
  unfold GqAt at h ⊢
  rw [got_set_self hs, getD_set_same d1, getD_set_same d2, getD_set_same d3, upd_self, upd_ne f _ d1, upd_ne f _ d2, upd_ne f _ d3]
  rw [show listed.getD b1 false = true from gb, ngot_false na] at h
  rw [show listed.getD b1 false = true from gb]
  exact h.app hab hown hg hat
end
/-- What each leaves in its slot, the call being the eighth operation. -/
def LqC (ag names vals tup : Value) (k : Nat → Value → Prop) : Nat → Value → Prop
  | 0, v => v = ag
  | 2, v => v = names
  | 5, v => v = vals
  | 7, v => v = tup
  | j + 8, v => k j v
  | _, _ => True
structure LqO (V : World) (T2 : TypeId) (ag names vals tup : Value) (k : Nat → Value → Prop) (E : List (Nat × Nat)) (ws1 us1 ws2 us2 : List Value) (listed : Array Bool) (f : Nat → Value) (W : World) : Prop where
  be : Below V.heap.size V W
  gq : ¬ got listed 7 → GqAt V.heap.size 9 T2 3 3 ws1 us1 ws2 us2 1 3 4 6 listed f W
  cv : ∀ j, got listed j → LqC ag names vals tup k j (f j)
  od : ∀ p ∈ E, got listed p.1 → got listed p.2
theorem LqO.step {V : World} {T2 : TypeId} {ag names vals tup : Value} {k : Nat → Value → Prop} {E : List (Nat × Nat)} {ws1 us1 ws2 us2 : List Value} {listed : Array Bool} {f : Nat → Value} {W W' : World} (h : LqO V T2 ag names vals tup k E ws1 us1 ws2 us2 listed f W) {i : Nat} (ho : ∀ j, (i, j) ∈ E → got listed j) {v : Value} (hv : LqC ag names vals tup k i v) (be : Below V.heap.size V W')
    (gq : ¬ got listed 7 → i ≠ 7 → GqAt V.heap.size 9 T2 3 3 ws1 us1 ws2 us2 1 3 4 6 (listed.setIfInBounds i true) (upd f i v) W') (hs : i < listed.size) : LqO V T2 ag names vals tup k E ws1 us1 ws2 us2 (listed.setIfInBounds i true) (upd f i v) W' := by
  refine ⟨be, fun hn => ?_, fun j hg => ?_, fun p hp hg => ?_⟩
  · refine gq (fun g => hn (got_keep g)) (fun e => ?_)
    subst e; exact hn (got_set_self hs)
  · by_cases e : i = j
    · subst e; rw [upd_self]; exact hv
    · rcases got_set hg with hg | hg
      · rw [upd_ne f v e]; exact h.cv j hg
      · exact absurd hg.symm e
  · rcases got_set hg with hg | hg
    · exact got_keep (h.od p hp hg)
    · obtain ⟨p1, p2⟩ := p
      simp only at hg
      subst hg
      exact got_keep (ho p2 hp)
end Go.Proofs.YtfjmjlpobbjjdaaDoor
