/- The program's reader of words: held: what holds while a type behind 'as' is read. -/
import Derived.Test.YtfjmjlpobbjjdaaDoorRdC
import Derived.Deep.CutBlock
namespace Go.Proofs.YtfjmjlpobbjjdaaDoor
open Go.RowKit Ilp
set_option linter.unusedVariables false
set_option linter.unusedSimpArgs false

/-- The result's cell, what is read so far. -/
structure HdB (R X4 X5 : Nat) (e : List Value) (u : Ex) (W0 W : World) : Prop where
  b4 : Blk W X4 25 zero4
  b5 : Blk W X5 25 e
  eu : IsEY (W0.heap.size + 1) X5 W e u
  kk : Keep R W0 W
section
variable {V W0 W W' : World} {R X4 X5 : Nat} {e : List Value} {u : Ex}
theorem HdB.below (h : HdB R X4 X5 e u W0 W) (hb : Below W.heap.size W W') : HdB R X4 X5 e u W0 W' :=
  ⟨h.b4.below hb h.b4.lt, h.b5.below hb h.b5.lt, h.eu.below hb, h.kk.trans (Keep.of hb)⟩
theorem HdB.keep (h : HdB R X4 X5 e u W0 W) (hk : Keep R W W') (h4 : R ≠ X4) (h5 : R ≠ X5) (hR : R < W0.heap.size + 1) : HdB R X4 X5 e u W0 W' :=
  ⟨hk.blk h.b4 (fun e => h4 e.symm), hk.blk h.b5 (fun e => h5 e.symm), h.eu.keep hk (.inl hR), h.kk.trans hk⟩
/-- What is read is put in its cell. -/
theorem HdB.put {k n : Int} {s : ByteArray} {A : Option Addr} {l c : Nat} {t : Ex} (h : HdB R X4 X5 e u W0 W) (he : e.length = 4) (h5 : X4 ≠ X5) (hX : W0.heap.size ≤ X5) (hn : IsEY (W0.heap.size + 1) X5 W [.int .i64 k, .int .i64 n, .string s, .slice A l c] t) : HdB R X4 X5 [.int .i64 k, .int .i64 n, .string s, .slice A l c] t W0 (put4 W X5 k n s A l c) := by
  have kX := put4_keep W X5 k n s A l c
  have b5 := (((h.b5.put 0 (.int .i64 k)).put 1 (.int .i64 n)).put 2 (.string s)).put 3 (.slice A l c)
  obtain ⟨v0, v1, v2, v3, rfl⟩ : ∃ v0 v1 v2 v3, e = [v0, v1, v2, v3] := by
    match e, he with
    | [a, b, c, d], _ => exact ⟨a, b, c, d, rfl⟩
  exact ⟨kX.blk h.b4 h5, b5, hn.keep kX (.inr rfl), keep_far h.kk kX hX⟩
end
theorem isEY_leaf (B Y : Nat) (W : World) (k n : Int) (s : ByteArray) (hs : s.size ≤ maxLen) : IsEY B Y W [.int .i64 k, .int .i64 n, .string s, .slice none 0 0] (.mk k n s.data.toList []) :=
  isEN_ey (B' := B + Y + 1) (isEN_leaf _ W k n s hs) (by omega) (by omega)
/-- What holds all the way through the region. -/
structure HdK (C0 C2 : Value) (ag : Value → Value → Value) (B P1 : World → Prop) (Q1 T3 : Value → World → Prop) (F : World → Prop) (listed : Array Bool) (f : Nat → Value) (W : World) : Prop where
  c0 : got listed 0 → f 0 = C0
  c2 : got listed 2 → f 2 = C2
  bb : ¬ got listed 5 → B W
  n1 : ¬ got listed 1 → P1 W
  y1 : got listed 1 → ¬ got listed 5 → Q1 (f 1) W
  t3 : got listed 3 → ¬ got listed 5 → T3 (f 3) W
  t4 : got listed 4 → f 4 = ag (f 1) (f 3)
  fin : got listed 5 → F W
  o4 : got listed 4 → got listed 1 ∧ got listed 3
  o5 : got listed 5 → ∀ j, j < 5 → got listed j
section
variable {C0 C2 : Value} {ag : Value → Value → Value} {B P1 : World → Prop} {Q1 T3 : Value → World → Prop} {F : World → Prop} {listed : Array Bool} {f : Nat → Value} {W W' : World}
theorem HdK.con (h : HdK C0 C2 ag B P1 Q1 T3 F listed f W) {i : Nat} {v : Value} (hi : i = 0 ∧ v = C0 ∨ i = 2 ∧ v = C2) (hn : ¬ got listed i) : HdK C0 C2 ag B P1 Q1 T3 F (listed.setIfInBounds i true) (upd f i v) W := by
  have n5 : ¬ got listed 5 := fun g => hn (h.o5 g i (by omega))
  have hk : ∀ j, j ≠ i → upd f i v j = f j := fun j hj => upd_ne f _ (fun e => hj e.symm)
  refine ⟨fun g => ?_, fun g => ?_, fun _ => h.bb n5, fun e => h.n1 (fun g => e (got_keep g)), fun g _ => ?_, fun g _ => ?_, fun g => ?_, fun g => absurd (got_ne g (by omega)) n5, fun g => ?_, fun g => absurd (got_ne g (by omega)) n5⟩
  · by_cases e : 0 = i
    · subst e
      rcases hi with ⟨_, rfl⟩ | ⟨e, _⟩
      · exact upd_self _ _ _
      · omega
    · rw [hk 0 e]; exact h.c0 (got_ne g e)
  · by_cases e : 2 = i
    · subst e
      rcases hi with ⟨e, _⟩ | ⟨_, rfl⟩
      · omega
      · exact upd_self _ _ _
    · rw [hk 2 e]; exact h.c2 (got_ne g e)
  · rw [hk 1 (by omega)]; exact h.y1 (got_ne g (by omega)) n5
  · rw [hk 3 (by omega)]; exact h.t3 (got_ne g (by omega)) n5
  · rw [hk 4 (by omega), hk 1 (by omega), hk 3 (by omega)]; exact h.t4 (got_ne g (by omega))
  · have := h.o4 (got_ne g (by omega))
    exact ⟨got_keep this.1, got_keep this.2⟩
theorem HdK.s1 (h : HdK C0 C2 ag B P1 Q1 T3 F listed f W) (hn : ¬ got listed 1) {v : Value} (hb : B W') (hq : Q1 v W') (ht : ∀ x, T3 x W → T3 x W') (hs : 1 < listed.size) : HdK C0 C2 ag B P1 Q1 T3 F (listed.setIfInBounds 1 true) (upd f 1 v) W' := by
  have n5 : ¬ got listed 5 := fun g => hn (h.o5 g 1 (by omega))
  have n4 : ¬ got listed 4 := fun g => hn (h.o4 g).1
  have hk : ∀ j, j ≠ 1 → upd f 1 v j = f j := fun j hj => upd_ne f _ (fun e => hj e.symm)
  refine ⟨fun g => ?_, fun g => ?_, fun _ => hb, fun e => absurd (got_set_self hs) e, fun _ _ => by rw [upd_self]; exact hq, fun g _ => ?_, fun g => absurd (got_ne g (by omega)) n4, fun g => absurd (got_ne g (by omega)) n5, fun g => absurd (got_ne g (by omega)) n4, fun g => absurd (got_ne g (by omega)) n5⟩
  · rw [hk 0 (by omega)]; exact h.c0 (got_ne g (by omega))
  · rw [hk 2 (by omega)]; exact h.c2 (got_ne g (by omega))
  · rw [hk 3 (by omega)]; exact ht _ (h.t3 (got_ne g (by omega)) n5)
theorem HdK.s3 (h : HdK C0 C2 ag B P1 Q1 T3 F listed f W) (hn : ¬ got listed 3) {v : Value} (hb : B W') (hq : T3 v W') (hp : P1 W → P1 W') (ht : ∀ x, Q1 x W → Q1 x W') (hs : 3 < listed.size) : HdK C0 C2 ag B P1 Q1 T3 F (listed.setIfInBounds 3 true) (upd f 3 v) W' := by
  have n5 : ¬ got listed 5 := fun g => hn (h.o5 g 3 (by omega))
  have n4 : ¬ got listed 4 := fun g => hn (h.o4 g).2
  have hk : ∀ j, j ≠ 3 → upd f 3 v j = f j := fun j hj => upd_ne f _ (fun e => hj e.symm)
  refine ⟨fun g => ?_, fun g => ?_, fun _ => hb, fun e => hp (h.n1 (fun g => e (got_keep g))), fun g _ => ?_, fun _ _ => by rw [upd_self]; exact hq, fun g => absurd (got_ne g (by omega)) n4, fun g => absurd (got_ne g (by omega)) n5, fun g => absurd (got_ne g (by omega)) n4, fun g => absurd (got_ne g (by omega)) n5⟩
  · rw [hk 0 (by omega)]; exact h.c0 (got_ne g (by omega))
  · rw [hk 2 (by omega)]; exact h.c2 (got_ne g (by omega))
  · rw [hk 1 (by omega)]; exact ht _ (h.y1 (got_ne g (by omega)) n5)
theorem HdK.s4 (h : HdK C0 C2 ag B P1 Q1 T3 F listed f W) (hn : ¬ got listed 4) (g1 : got listed 1) (g3 : got listed 3) : HdK C0 C2 ag B P1 Q1 T3 F (listed.setIfInBounds 4 true) (upd f 4 (ag (f 1) (f 3))) W := by
  have n5 : ¬ got listed 5 := fun g => hn (h.o5 g 4 (by omega))
  have hk : ∀ j, j ≠ 4 → upd f 4 (ag (f 1) (f 3)) j = f j := fun j hj => upd_ne f _ (fun e => hj e.symm)
  refine ⟨fun g => ?_, fun g => ?_, fun _ => h.bb n5, fun e => absurd (got_keep g1) e, fun g _ => ?_, fun g _ => ?_, fun _ => ?_, fun g => absurd (got_ne g (by omega)) n5, fun _ => ⟨got_keep g1, got_keep g3⟩, fun g => absurd (got_ne g (by omega)) n5⟩
  · rw [hk 0 (by omega)]; exact h.c0 (got_ne g (by omega))
  · rw [hk 2 (by omega)]; exact h.c2 (got_ne g (by omega))
  · rw [hk 1 (by omega)]; exact h.y1 g1 n5
  · rw [hk 3 (by omega)]; exact h.t3 g3 n5
  · rw [upd_self, hk 1 (by omega), hk 3 (by omega)]
theorem HdK.s5 (h : HdK C0 C2 ag B P1 Q1 T3 F listed f W) (hall : ∀ j, j < 5 → got listed j) (hv : F W') (hs : 5 < listed.size) : HdK C0 C2 ag B P1 Q1 T3 F (listed.setIfInBounds 5 true) f W' :=
  ⟨fun _ => h.c0 (hall 0 (by omega)), fun _ => h.c2 (hall 2 (by omega)), fun e => absurd (got_set_self hs) e, fun e => absurd (got_keep (hall 1 (by omega))) e, fun _ e => absurd (got_set_self hs) e, fun _ e => absurd (got_set_self hs) e, fun _ => h.t4 (hall 4 (by omega)), fun _ => hv, fun _ => ⟨got_keep (hall 1 (by omega)), got_keep (hall 3 (by omega))⟩, fun _ j hj => got_keep (hall j hj)⟩
end
/-- What is left of the words, whatever the rest of the reader. -/
def RdE (V : World) (R : Nat) (zs : List ByteArray) (W : World) : Prop := ∃ (bd : Bool) (dp : Int) (A : Option Addr) (m c : Nat), RdS V R zs bd dp A m c W
def HdQ (V : World) (R : Nat) (zs : List ByteArray) (v : Value) (W : World) : Prop := ∃ (s : ByteArray) (us : List ByteArray), v = .string s ∧ s.size ≤ 8 ∧ us.length ≤ zs.length ∧ RdE V R us W
def HdT (X5 : Nat) (e : List Value) (v : Value) (W : World) : Prop := ∃ g, v = .slice (some ⟨g, 0, none⟩) 1 1 ∧ Blk W g 25 e ∧ X5 < g
theorem RdE.below {V : World} {R : Nat} {zs : List ByteArray} {W W' : World} (h : RdE V R zs W) (hb : Below W.heap.size W W') : RdE V R zs W' := by
  obtain ⟨bd, dp, A, m, c, h⟩ := h
  exact ⟨bd, dp, A, m, c, h.below hb⟩
end Go.Proofs.YtfjmjlpobbjjdaaDoor
