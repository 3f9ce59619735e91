/- Rows that a region makes and appends to each other in an order that it draws: what holds all the way. -/
import Derived.Test.YtfjmjlpobbjjdaaDoorLsR
import Derived.Maps.Range
import Derived.Deep.Onto
import Derived.OwnWalk
namespace Go.Proofs.YtfjmjlpobbjjdaaDoor
open Go.RowKit Ilp
set_option linter.unusedVariables false

/-- A row lives from its making to its use. -/
def lv (c0 : Nat) (use : Nat → Nat) (listed : Array Bool) (j : Nat) : Prop := (j = c0 ∨ got listed j) ∧ ¬ got listed (use j)
/-- The rows that live: each the call's own, no two in one block. -/
structure RowsI (bs : Nat) (T : TypeId) (sz : Nat) (R : List Nat) (c0 : Nat) (use ln : Nat → Nat) (xs : Nat → List Value) (listed : Array Bool) (g : Nat → Value) (W : World) : Prop where
  own : ∀ j ∈ R, lv c0 use listed j → W.ownsRow bs T sz (g j) (ln j) (xs j)
  ap : ∀ j ∈ R, ∀ j' ∈ R, j ≠ j' → lv c0 use listed j → lv c0 use listed j' → ∀ k, (g j).ownBlock = some k → (g j').ownBlock ≠ some k
section
variable {bs : Nat} {T : TypeId} {sz : Nat} {R : List Nat} {c0 : Nat} {use ln : Nat → Nat} {xs : Nat → List Value} {listed : Array Bool} {g : Nat → Value} {W W' : World}
theorem lv_set {i j : Nat} (hs : i < listed.size) (h : lv c0 use (listed.setIfInBounds i true) j) (hij : j ≠ i) : lv c0 use listed j ∧ use j ≠ i := by
  refine ⟨⟨?_, fun e => h.2 (got_keep e)⟩, fun e => h.2 (by rw [e]; exact got_set_self hs)⟩
  rcases h.1 with e | e
  · exact .inl e
  · rcases got_set e with e | e
    · exact .inr e
    · exact absurd e hij
theorem RowsI.next (h : RowsI bs T sz R c0 use ln xs listed g W) {i : Nat} (hs : i < listed.size) {r : Option Nat} (hg : W.grownBy W' r)
    (hr : r = none ∨ (∀ k, r = some k → k < bs) ∨ ∃ a ∈ R, lv c0 use listed a ∧ use a = i ∧ r = (g a).ownBlock) {v : Value} (hc : i = c0 → v = g c0)
    (hv : i ∈ R → i ≠ c0 → W'.ownsRow bs T sz v (ln i) (xs i) ∧ ∀ k, v.ownBlock = some k → W.heap.size ≤ k ∨ ∃ a ∈ R, lv c0 use listed a ∧ use a = i ∧ (g a).ownBlock = some k) :
    RowsI bs T sz R c0 use ln xs (listed.setIfInBounds i true) (upd g i v) W' := by
  have hold : ∀ j ∈ R, lv c0 use listed j → use j ≠ i → W'.ownsRow bs T sz (g j) (ln j) (xs j) := by
    intro j hj hl hu
    refine own_apart (h.own j hj hl) hg (fun k hk e => ?_)
    rcases hr with e2 | e2 | ⟨a, ha, hla, hua, e2⟩
    · rw [e2] at e; cases e
    · have h1 := e2 k e
      have h2 := ((h.own j hj hl).lt k hk).1
      omega
    · rw [e2] at e
      exact h.ap a ha j hj (by rintro rfl; exact hu hua) hla hl k e hk
  have hlt : ∀ j ∈ R, lv c0 use listed j → ∀ k, (g j).ownBlock = some k → k < W.heap.size := fun j hj hl k e => ((h.own j hj hl).lt k e).2
  have hci : i = c0 → lv c0 use (listed.setIfInBounds i true) i → lv c0 use listed i ∧ use i ≠ i := fun e hl => ⟨⟨.inl e, fun e2 => hl.2 (got_keep e2)⟩, fun e2 => hl.2 (by rw [e2]; exact got_set_self hs)⟩
  have key : ∀ j ∈ R, j ≠ i → lv c0 use (listed.setIfInBounds i true) j → lv c0 use (listed.setIfInBounds i true) i → i ∈ R → ∀ k, v.ownBlock = some k → (g j).ownBlock ≠ some k := by
    intro j hj hji hlj hli hiR k hk e
    obtain ⟨l1, l2⟩ := lv_set hs hlj hji
    by_cases hic : i = c0
    · rw [hc hic] at hk
      obtain ⟨l3, _⟩ := hci hic hli
      rw [← hic] at hk
      exact h.ap i hiR j hj (fun e => hji e.symm) l3 l1 k hk e
    · rcases (hv hiR hic).2 k hk with e2 | ⟨a, ha, hla, hua, e2⟩
      · have := hlt j hj l1 k e; omega
      · exact h.ap a ha j hj (by rintro rfl; exact l2 hua) hla l1 k e2 e
  refine ⟨fun j hj hl => ?_, fun j hj j' hj' hne hl hl' k hk => ?_⟩
  · by_cases e : j = i
    · subst e
      rw [upd_self]
      by_cases hic : j = c0
      · rw [hc hic, ← hic]
        obtain ⟨l1, l2⟩ := hci hic hl
        exact hold j hj l1 l2
      · exact (hv hj hic).1
    · obtain ⟨l1, l2⟩ := lv_set hs hl e
      rw [upd_ne g v (fun e2 => e e2.symm)]
      exact hold j hj l1 l2
  · by_cases e : j = i
    · subst e
      rw [upd_self] at hk
      rw [upd_ne g v hne]
      exact key j' hj' (fun e => hne e.symm) hl' hl hj k hk
    · rw [upd_ne g v (fun e2 => e e2.symm)] at hk
      by_cases e' : j' = i
      · subst e'
        rw [upd_self]
        intro e2
        exact key j hj e hl hl' hj' k e2 hk
      · rw [upd_ne g v (fun e2 => e' e2.symm)]
        exact h.ap j hj j' hj' hne (lv_set hs hl e).1 (lv_set hs hl' e').1 k hk
end
theorem below_grown {w w' : World} (h : Below w.heap.size w w') (r : Option Nat) : w.grownBy w' r := ⟨h.os, h.tape, h.output, h.size, fun k hk _ => h.block k hk⟩
/-- What holds all the way: the rows, and what the other operations leave in their slots. -/
structure RgI (w0 : World) (r0 : Option Nat) (T : TypeId) (sz : Nat) (R : List Nat) (c0 N : Nat) (v0 : Value) (use ln : Nat → Nat) (xs : Nat → List Value) (C : Nat → Value) (listed : Array Bool) (f g : Nat → Value) (W : World) : Prop where
  be : w0.grownBy W r0
  rw : RowsI w0.heap.size T sz R c0 use ln xs listed g W
  fg : ∀ j ∈ R, got listed j → f j = g j
  cv : ∀ j, j ∉ R → got listed j → f j = C j
  g0 : g c0 = v0
  fl : ¬ got listed N → f N = v0
  al : got listed N → ∀ j, j < N → got listed j
  lt : ∀ k, r0 = some k → k < w0.heap.size
section
variable {w0 : World} {r0 : Option Nat} {T : TypeId} {sz : Nat} {R : List Nat} {c0 N : Nat} {v0 : Value} {use ln : Nat → Nat} {xs : Nat → List Value} {C : Nat → Value} {listed : Array Bool} {f g : Nat → Value} {W W' : World}
theorem RgI.hold (h : RgI w0 r0 T sz R c0 N v0 use ln xs C listed f g W) {i : Nat} (hi : i < N) (hn : ¬ got listed i) : ¬ got listed N := fun e => hn (h.al e i hi)
theorem RgI.step (h : RgI w0 r0 T sz R c0 N v0 use ln xs C listed f g W) {i : Nat} {v : Value} (hs : i < listed.size) (hn : ¬ got listed i) (hi : i < N ∨ i = N ∧ ∀ j, j < N → got listed j) (hbe : w0.grownBy W' r0) (hrw : RowsI w0.heap.size T sz R c0 use ln xs (listed.setIfInBounds i true) (upd g i v) W') (hv : i ∉ R → v = C i) (hc : i = c0 → v = v0) :
    RgI w0 r0 T sz R c0 N v0 use ln xs C (listed.setIfInBounds i true) (upd f i v) (upd g i v) W' := by
  refine ⟨hbe, hrw, fun j hj hg => ?_, fun j hj hg => ?_, ?_, fun hN => ?_, fun hN j hj => ?_, h.lt⟩
  · by_cases e : i = j
    · subst e; rw [upd_self, upd_self]
    · rcases got_set hg with hg | hg
      · rw [upd_ne f v e, upd_ne g v e]; exact h.fg j hj hg
      · exact absurd hg.symm e
  · by_cases e : i = j
    · subst e; rw [upd_self]; exact hv hj
    · rcases got_set hg with hg | hg
      · rw [upd_ne f v e]; exact h.cv j hj hg
      · exact absurd hg.symm e
  · by_cases e : i = c0
    · rw [← e, upd_self]; exact hc e
    · rw [upd_ne g v e]; exact h.g0
  · have : i ≠ N := by
      rintro rfl; exact hN (got_set_self hs)
    rw [upd_ne f v this]; exact h.fl (fun e => hN (got_keep e))
  · rcases got_set hN with e | e
    · exact got_keep (h.al e j hj)
    · rcases hi with hi | ⟨_, hi⟩
      · omega
      · exact got_keep (hi j hj)
theorem RowsI.next' (h : RgI w0 r0 T sz R c0 N v0 use ln xs C listed f g W) {i : Nat} (hs : i < listed.size) (hc0 : i ≠ c0) {r : Option Nat} (hg : W.grownBy W' r) (hr : r = none ∨ r = r0) {v : Value}
    (hv : i ∈ R → W'.ownsRow w0.heap.size T sz v (ln i) (xs i) ∧ ∀ k, v.ownBlock = some k → W.heap.size ≤ k ∨ ∃ a ∈ R, lv c0 use listed a ∧ use a = i ∧ (g a).ownBlock = some k) : RowsI w0.heap.size T sz R c0 use ln xs (listed.setIfInBounds i true) (upd g i v) W' :=
  h.rw.next hs hg (by rcases hr with e | e; exact .inl e; exact .inr (.inl fun k hk => h.lt k (by rw [← e]; exact hk))) (fun e => absurd e hc0) (fun hR _ => hv hR)
theorem RgI.grow (h : RgI w0 r0 T sz R c0 N v0 use ln xs C listed f g W) {r : Option Nat} (hg : W.grownBy W' r) (hr : r = none ∨ r = r0) : w0.grownBy W' r0 :=
  h.be.andThen hg fun j hj => by rcases hr with e | e; exact (by rw [e] at hj; cases hj); exact .inr (by rw [← e]; exact hj)
/-- An operation that makes no row. -/
theorem RgI.quiet (h : RgI w0 r0 T sz R c0 N v0 use ln xs C listed f g W) {i : Nat} (hs : i < listed.size) (hn : ¬ got listed i) (hi : i < N) (hR : i ∉ R) (h0 : i ≠ c0) {v : Value} (hv : v = C i) {r : Option Nat} (hg : W.grownBy W' r) (hr : r = none ∨ r = r0) : RgI w0 r0 T sz R c0 N v0 use ln xs C (listed.setIfInBounds i true) (upd f i v) (upd g i v) W' :=
  h.step hs hn (.inl hi) (h.grow hg hr) (RowsI.next' h hs h0 hg hr (fun e => absurd e hR)) (fun _ => hv) (fun e => absurd e h0)
/-- The row that is there at the start is read. -/
theorem RgI.start (h : RgI w0 r0 T sz R c0 N v0 use ln xs C listed f g W) {i : Nat} (hs : i < listed.size) (hn : ¬ got listed i) (hi : i < N) (h0 : i = c0) (hR : i ∈ R) : RgI w0 r0 T sz R c0 N v0 use ln xs C (listed.setIfInBounds i true) (upd f i v0) (upd g i v0) W :=
  h.step hs hn (.inl hi) h.be (h.rw.next hs (World.grownBy.refl W none) (.inl rfl) (fun _ => h.g0.symm) (fun _ e => absurd h0 e)) (fun e => absurd hR e) (fun _ => rfl)
/-- A row is made. -/
theorem RgI.fresh (h : RgI w0 r0 T sz R c0 N v0 use ln xs C listed f g W) {i : Nat} (hs : i < listed.size) (hn : ¬ got listed i) (hi : i < N) (hR : i ∈ R) (h0 : i ≠ c0) {v : Value} {r : Option Nat} (hg : W.grownBy W' r) (hr : r = none ∨ r = r0) {n : Nat} {zs : List Value} (hv : W'.ownsRow W.heap.size T sz v n zs) (hl : n = ln i) (hz : zs = xs i) : RgI w0 r0 T sz R c0 N v0 use ln xs C (listed.setIfInBounds i true) (upd f i v) (upd g i v) W' := by
  subst hl hz
  exact h.step hs hn (.inl hi) (h.grow hg hr) (RowsI.next' h hs h0 hg hr (fun _ => ⟨hv.mono h.be.size, fun k hk => .inl (hv.lt k hk).1⟩)) (fun e => absurd hR e) (fun e => absurd e h0)
/-- A row is appended to another. -/
theorem RgI.app (h : RgI w0 r0 T sz R c0 N v0 use ln xs C listed f g W) {i a : Nat} (hs : i < listed.size) (hn : ¬ got listed i) (hi : i < N) (hR : i ∈ R) (h0 : i ≠ c0) (ha : a ∈ R) (hua : use a = i) (ga : got listed a) {v : Value} {n : Nat} {zs : List Value} (hv : W'.ownsRow w0.heap.size T sz v n zs) (hln : n = ln i) (hz : zs = xs i)
    (hg : W.grownBy W' (f a).ownBlock) (hat : v.ownBlock = (f a).ownBlock ∨ v.ownBlock = some W.heap.size) : RgI w0 r0 T sz R c0 N v0 use ln xs C (listed.setIfInBounds i true) (upd f i v) (upd g i v) W' := by
  subst hln hz
  rw [h.fg a ha ga] at hg hat
  have hla : lv c0 use listed a := ⟨.inr ga, by rw [hua]; exact hn⟩
  refine h.step hs hn (.inl hi) (h.be.andThen hg fun q hq => .inl ((h.rw.own a ha hla).lt q hq).1) (h.rw.next hs hg (.inr (.inr ⟨a, ha, hla, hua, rfl⟩)) (fun e => absurd e h0) (fun _ _ => ⟨hv, fun k hk => ?_⟩)) (fun e => absurd hR e) (fun e => absurd e h0)
  rcases hat with e | e
  · exact .inr ⟨a, ha, hla, hua, by rw [← e]; exact hk⟩
  · rw [e] at hk; simp only [Option.some.injEq] at hk; exact .inl (by omega)
/-- A row is handed on, last of all. -/
theorem RgI.pass (h : RgI w0 r0 T sz R c0 N v0 use ln xs C listed f g W) {a : Nat} (hs : N < listed.size) (hn : ¬ got listed N) (hall : ∀ j, j < N → got listed j) (hR : N ∈ R) (h0 : N ≠ c0) (ha : a ∈ R) (hua : use a = N) (ga : got listed a) (hl : ln a = ln N) (hz : xs a = xs N) : RgI w0 r0 T sz R c0 N v0 use ln xs C (listed.setIfInBounds N true) (upd f N (f a)) (upd g N (f a)) W := by
  have hla : lv c0 use listed a := ⟨.inr ga, by rw [hua]; exact hn⟩
  have ho := h.rw.own a ha hla
  rw [h.fg a ha ga]
  exact h.step hs hn (.inr ⟨rfl, hall⟩) h.be (RowsI.next' h hs h0 (World.grownBy.refl W none) (.inl rfl) (fun _ => ⟨by rw [← hl, ← hz]; exact ho, fun k hk => .inr ⟨a, ha, hla, hua, hk⟩⟩)) (fun e => absurd hR e) (fun e => absurd e h0)
theorem RgI.own (h : RgI w0 r0 T sz R c0 N v0 use ln xs C listed f g W) {j : Nat} (hj : j ∈ R) (gj : got listed j) (hu : ¬ got listed (use j)) : W.ownsRow w0.heap.size T sz (f j) (ln j) (xs j) := by
  rw [h.fg j hj gj]; exact h.rw.own j hj ⟨.inr gj, hu⟩
/-- Before the first operation. -/
theorem RgI.init {n : Nat} (hbe : w0.grownBy W r0) (hlt : ∀ k, r0 = some k → k < w0.heap.size) (hown : c0 ∈ R → W.ownsRow w0.heap.size T sz v0 (ln c0) (xs c0)) (hf : f N = v0) : RgI w0 r0 T sz R c0 N v0 use ln xs C (Array.replicate n false) f (fun _ => v0) W := by
  have hng : ∀ j, ¬ got (Array.replicate n false) j := fun j e => by
    unfold got at e
    rw [Array.getD_eq_getD_getElem?, Array.getElem?_replicate] at e
    split at e <;> cases e
  have hc : ∀ j, lv c0 use (Array.replicate n false) j → j = c0 := fun j hl => by rcases hl.1 with e | e; exact e; exact absurd e (hng j)
  refine ⟨hbe, ⟨fun j hj hl => ?_, fun j hj j' hj' hne hl hl' => ?_⟩, fun j _ e => absurd e (hng j), fun j _ e => absurd e (hng j), rfl, fun _ => hf, fun e => absurd e (hng N), hlt⟩
  · have e := hc j hl
    subst e
    exact hown hj
  · exact absurd ((hc j hl).trans (hc j' hl').symm) hne
theorem ngot_out {j : Nat} (h : listed.size ≤ j) : ¬ got listed j := by
  unfold got; rw [Array.getD_eq_getD_getElem?, Array.getElem?_eq_none h]; simp
end
/-- Where a row lies, for an append that reads it. -/
theorem own_src {w : World} {base sz n : Nat} {e : TypeId} {v : Value} {xs : List Value} (h : w.ownsRow base e sz v n xs) (hn : 0 < n) : ∃ b c, v = .slice (some ⟨b, 0, none⟩) n c ∧ n ≤ maxLen ∧ ∀ j u, xs[j]? = some u → w.cell? ((⟨b, 0, none⟩ : Addr).add j) = some u := by
  rcases h.2 with ⟨_, rfl⟩ | ⟨g, cap, cur, rfl, _, _, h1, h2, _⟩
  · omega
  · exact ⟨g, cap, rfl, by omega, h.cells (g := g) rfl⟩
/-- An append of one row of the call's own to another. -/
theorem wpList_append_rows {P : Program} {w : World} {ops : Array Oper} {rest : List Oper} {o : Oper} {a : Act} {Q : Exit → Act → World → Prop} (hgd : o.guard = none) (s x : Operand) (t : TypeId)
    (ho : o.op = .call { callee := .builtin .append, args := #[s, x], argTypes := #[t, t] })
    (base base' : Nat) (e : TypeId) (i : TypeInfo) (z : Value) (size bytes : Nat) (ht : P.underlying t = some (.slice e)) (hi : P.info? e = some i) (hz : i.zero = some z)
    (hsize : i.size = size) (hby : i.bytes = bytes) (hzs : z.cells.size = size) (hsz : 0 < size)
    (v : Value) (n : Nat) (xs : List Value) (hs : a.eval s = v) (hown : w.ownsRow base e size v n xs)
    (u : Value) (m : Nat) (news : List Value) (hx : a.eval x = u) (hsrc : w.ownsRow base' e size u m news) (hm : 0 < m) (h1 : ∀ u ∈ news, u.oneCell' = true)
    (h63 : n + m ≤ 1000000) (hby2 : bytes ≤ 1000000) (hbase : base ≤ w.heap.size)
    (h : ∀ v' w', w'.ownsRow base e size v' (n + m) (xs ++ news) → w.grownBy w' v.ownBlock → (v'.ownBlock = v.ownBlock ∨ v'.ownBlock = some w.heap.size) → wpList P ops Q rest (a.put o.dst v') w') :
    wpList P ops Q (o :: rest) a w := by
  obtain ⟨b, c, rfl, _, hc⟩ := own_src hsrc hm
  exact wpList_append_own_at w hgd s x t ho base e i z size bytes ht hi hz hsize hby hzs hsz v n xs hs hown ⟨b, 0, none⟩ m c news hx hsrc.1 hc h1 (by unfold maxLen; omega)
    (Nat.le_trans (Nat.mul_le_mul h63 hby2) (by decide)) hbase (fun v' w' k1 k2 _ k4 => h v' w' k1 k2 k4)
theorem below_of {w w' : World} (h : w.grownBy w' none) : Below w.heap.size w w' := ⟨h.os, h.tape, h.output, h.size, fun k hk => h.block k hk (by simp)⟩
/-- A row in one more block, behind a call. -/
theorem own_behind {w0 w1 : World} {T : TypeId} (hb : Below (w0.alloc (.cells #[] T)).heap.size (w0.alloc (.cells #[] T)) w1) : w1.ownsRow w0.heap.size T 1 (.slice (some ⟨w0.heap.size, 0, none⟩) 0 0) 0 [] ∧ w0.grownBy w1 none :=
  ⟨own_apart (World.ownsRow_made w0 #[] 0 (Nat.le_refl _) (by unfold maxLen; omega) rfl) (below_grown hb none) (fun k _ e => by cases e), (World.grownBy_alloc w0 _ none).trans (below_grown hb none)⟩
/-- Cells of one part. -/
def Cel (b o : Nat) (k n : Int) (g : ByteArray) (A : Option Addr) (l c : Nat) (W : World) : Prop :=
  W.cell? ⟨b, o, none⟩ = some (.int .i64 k) ∧ W.cell? ⟨b, o + 1, none⟩ = some (.int .i64 n) ∧ W.cell? ⟨b, o + 2, none⟩ = some (.string g) ∧ W.cell? ⟨b, o + 3, none⟩ = some (.slice A l c)
theorem Cel.below {b o : Nat} {k n : Int} {g : ByteArray} {A : Option Addr} {l c : Nat} {V W : World} (h : Cel b o k n g A l c V) (hb : Below V.heap.size V W) : Cel b o k n g A l c W :=
  ⟨cell_next h.1 hb, cell_next h.2.1 hb, cell_next h.2.2.1 hb, cell_next h.2.2.2 hb⟩
/-- A box in memory that goes on, before which all that was stays. -/
structure BoxC (V : World) (X : Nat) (k n : Int) (g : ByteArray) (A : Option Addr) (l c : Nat) (W : World) : Prop where
  bl : Blk W X 25 [.int .i64 k, .int .i64 n, .string g, .slice A l c]
  bv : Below V.heap.size V W
theorem BoxC.box {V : World} {X : Nat} {k n : Int} {g : ByteArray} {A : Option Addr} {l c : Nat} {W : World} (h : BoxC V X k n g A l c W) : W.cell? ⟨X, 0, none⟩ = some (.int .i64 k) ∧ W.cell? ⟨X, 1, none⟩ = some (.int .i64 n) ∧ W.cell? ⟨X, 2, none⟩ = some (.string g) ∧ W.cell? ⟨X, 3, none⟩ = some (.slice A l c) := blkE_cells h.bl
theorem BoxC.grown {V : World} {X : Nat} {k n : Int} {g : ByteArray} {A : Option Addr} {l c : Nat} {W W' : World} (h : BoxC V X k n g A l c W) {r0 : Option Nat} (hg : W.grownBy W' r0) (hX : r0 ≠ some X) (hr : ∀ k, r0 = some k → V.heap.size ≤ k) : BoxC V X k n g A l c W' :=
  ⟨blk_apart h.bl hg hX, h.bv.grown hg h.bv.size hr⟩
theorem BoxC.made {V W : World} (hb : Below V.heap.size V W) (k n : Int) (g : ByteArray) (A : Option Addr) (l c : Nat) : BoxC V W.heap.size k n g A l c (W.alloc (.cells #[.int .i64 k, .int .i64 n, .string g, .slice A l c] 25)) :=
  ⟨Blk.alloc_ W 25 [.int .i64 k, .int .i64 n, .string g, .slice A l c], hb.alloc hb.size _⟩
/-- What holds all the way, in one word. -/
def RgK (n : Nat) (act : (Nat → Value) → (Nat → Value) → Act) (gA : Nat → Value) (X : Array Bool → World → Prop) (I : Array Bool → (Nat → Value) → (Nat → Value) → World → Prop) (listed : Array Bool) (a : Act) (W : World) : Prop := listed.size = n ∧ X listed W ∧ ∃ f g', a = act gA f ∧ I listed f g' W
theorem region_of {P : Program} {c : Code} {Q : Exit → Act → World → Prop} {arr : Array Value} {W : World} (h : ∀ arr', arr' = arr → c.wp P Q { tmps := arr', defers := [] } W) : c.wp P Q { tmps := arr, defers := [] } W := h arr rfl
/-- With the order told, nothing is left where nothing is ready. -/
def topo (ops : Array Oper) : Bool := (List.range ops.size).all fun i => match ops[i]? with
  | some o => o.after.toList.all fun ed => !Region.binds .any ed || decide (ed.on < i)
  | none => true
theorem ready_all {ops : Array Oper} {listed : Array Bool} (ht : topo ops = true) (hsz : listed.size = ops.size) (hr : Region.ready .any ops listed = []) : ∀ j, j < ops.size → got listed j := by
  intro j
  induction j using Nat.strongRecOn with
  | ind j ih =>
    intro hj
    rcases Bool.eq_false_or_eq_true (listed.getD j true) with e | e
    · unfold got; rw [Array.getD_eq_getD_getElem?] at e ⊢; rw [Array.getElem?_eq_getElem (by omega)] at e ⊢; exact e
    · have : j ∈ ([] : List Nat) := by
        rw [← hr]
        refine mem_ready.2 ⟨e, ops[j], Array.getElem?_eq_getElem hj, ?_⟩
        intro ed hed hbn
        have h1 := List.all_eq_true.1 ht j (List.mem_range.2 hj)
        rw [Array.getElem?_eq_getElem hj] at h1
        simp only at h1
        have h2 := List.all_eq_true.1 h1 ed (by simpa using hed)
        rw [hbn] at h2
        have h3 : ed.on < j := by simpa using h2
        exact ih ed.on h3 (by omega)
      cases this
end Go.Proofs.YtfjmjlpobbjjdaaDoor
