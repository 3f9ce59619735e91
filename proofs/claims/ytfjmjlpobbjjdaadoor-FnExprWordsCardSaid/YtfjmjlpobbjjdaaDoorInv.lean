/- A region that draws its order, by what holds all the way. -/
import Derived.Orders
import Derived.Tactics
namespace Ilp
def cnt : List Bool → Nat
  | [] => 0
  | b :: l => (if b = true then 0 else 1) + cnt l
theorem cnt_set : ∀ (l : List Bool) (i : Nat), l[i]? = some false → cnt (l.set i true) + 1 = cnt l := by
  intro l
  induction l with
  | nil => intro i h; simp at h
  | cons b l ih =>
    intro i h
    cases i with
    | zero => simp at h; subst h; simp [cnt]; omega
    | succ i => simp at h; simp only [List.set_cons_succ, cnt]; have := ih i h; omega
theorem cnt_zero : ∀ (l : List Bool) (i : Nat), cnt l = 0 → l[i]? ≠ some false := by
  intro l
  induction l with
  | nil => intro i _ h; simp at h
  | cons b l ih =>
    intro i h e
    simp only [cnt] at h
    cases i with
    | zero => simp at e; subst e; simp at h
    | succ i => simp at e; exact ih i (by omega) e
end Ilp
namespace Go.Proofs.YtfjmjlpobbjjdaaDoor
open Go Ilp
section
variable {P : Program} {ops : Array Oper} {Q : Exit → Act → World → Prop} {md : Region.Mode}
theorem ready_false {j : Nat} {listed : Array Bool} (h : j ∈ Region.ready md ops listed) : listed.toList[j]? = some false := by
  have h1 := (mem_ready.1 h).1
  rw [Array.getElem?_toList]
  cases hj : listed[j]? with
  | none => simp [Array.getD_eq_getD_getElem?, hj] at h1
  | some b => simp [Array.getD_eq_getD_getElem?, hj] at h1; rw [h1]
theorem wpAny_inv (I : Array Bool → Act → World → Prop) (hs : ∀ listed a w i, I listed a w → i ∈ Region.ready md ops listed → wpOp P ops Q i (I (listed.setIfInBounds i true)) a w)
    (hd : ∀ listed a w, I listed a w → Region.ready md ops listed = [] → Q .normal a w) : ∀ (fuel : Nat) (listed : Array Bool) (a : Act) (w : World), cnt listed.toList ≤ fuel → I listed a w → wpAny P md ops Q fuel listed a w := by
  intro fuel
  induction fuel with
  | zero =>
    intro listed a w hc hI
    have hr : Region.ready md ops listed = [] := by
      rw [List.eq_nil_iff_forall_not_mem]
      intro j hj
      exact cnt_zero _ j (by omega) (ready_false hj)
    exact ⟨hr, hd _ _ _ hI hr⟩
  | succ fuel ih =>
    intro listed a w hc hI
    refine ⟨fun hr => hd _ _ _ hI hr, fun i hi => wpOp_mono (fun a w h => ih _ a w ?_ h) (hs listed a w i hI hi)⟩
    have := cnt_set _ i (ready_false hi)
    rw [Array.toList_setIfInBounds]; omega
theorem cnt_start (n : Nat) : cnt (Array.replicate n false).toList = n := by
  rw [Array.toList_replicate]
  induction n with
  | zero => rfl
  | succ n ih => rw [List.replicate_succ, cnt, ih]; simp; omega
/-- The region, by what holds all the way. -/
theorem wp_region_inv {id : Nat} {a : Act} {w : World} (hm : P.follows .mixedOrders = true) (I : Array Bool → Act → World → Prop) (h0 : I (Array.replicate ops.size false) a w.drew)
    (hs : ∀ listed a w i, I listed a w → i ∈ Region.ready .any ops listed → wpOp P ops Q i (I (listed.setIfInBounds i true)) a w)
    (hd : ∀ listed a w, I listed a w → Region.ready .any ops listed = [] → Q .normal a w) : (Code.region id ops true).wp P Q a w :=
  wp_region_any hm (wpAny_inv I hs hd _ _ _ _ (by rw [cnt_start]; exact Nat.le_refl _) h0)
/-- The post of a list of one. -/
def postOne (K : Act → World → Prop) (Q : Exit → Act → World → Prop) : Exit → Act → World → Prop
  | .normal, a, w => K a w
  | e, a, w => Q e a w
theorem upon_of {o : Oper} {a : Act} {K : Act → World → Prop} {r : Result Next} (h : o.upon P a K (postOne K Q) r) : o.upon P a K Q r := by
  cases r with
  | ok n w' =>
    cases n <;> first
      | exact h
      | exact Calls.mono h (fun e w'' he => by cases e <;> exact he)
  | halt x w' => cases x <;> exact h
/-- One operation, as a list of one. -/
theorem wpOp_of_list {i : Nat} {o : Oper} {K : Act → World → Prop} {a : Act} {w : World} (ho : ops[i]? = some o) (h : wpList P ops (postOne K Q) [o] a w) : wpOp P ops Q i K a w := by
  unfold wpOp
  rw [ho]
  simp only [wpList] at h ⊢
  split at h
  · rename_i hw
    rw [if_pos hw]
    rcases h with h | ⟨h1, h2⟩
    · exact .inl (upon_of h)
    · exact .inr ⟨h1, h2⟩
  · rename_i hw
    rw [if_neg hw]
    exact h
end
end Go.Proofs.YtfjmjlpobbjjdaaDoor
