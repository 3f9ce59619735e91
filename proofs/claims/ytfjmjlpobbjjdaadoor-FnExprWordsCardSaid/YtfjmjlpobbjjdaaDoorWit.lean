/- A world for the witness: the listed variables hold what the text lays; and what a row's list gives the walks. -/
import Derived.Test.YtfjmjlpobbjjdaaDoorRows
import Derived.Test.YtfjmjlpobbjjdaaDoorGA
import Derived.Deep.DeepHandedRow
import Derived.Deep.DeepWitnessRowRef
import Derived.Lib.LaidTab
import Derived.Lib.Itoa
import Derived.Lay
import Derived.Stop.LaidErr
import Derived.Shelf.Strconv.Itoa3
import Derived.Carry
import Derived.ChangeVars
import Derived.ChangeOld
import Derived.Deep.Slices
namespace Go.Proofs.YtfjmjlpobbjjdaaDoor
open Go.RowKit
set_option linter.unusedVariables false

abbrev ownName : String := "loop.example/interlinear/impl.ownWords"
def ownL : List (List UInt8) := [[108, 101, 116], [115, 97, 121], [119, 104, 101, 110], [97, 115], [112, 114, 105, 110, 116], [105, 102], [105, 110, 116], [98, 111, 111, 108]]
def ownB : List ByteArray := ownL.map fun l => ⟨l.toArray⟩
/-- What the walks read of the library's variables. -/
structure Tabs (w : World) : Prop where
  syn : ∃ tp p, w.var? Tryd.prog "strconv.ErrSyntax" = some #[.iface tp p]
  rng : ∃ tp p, w.var? Tryd.prog "strconv.ErrRange" = some #[.iface tp p]
  pow : Lib.TabIs Tryd.prog w "internal/strconv.uint64pow10" .u64 Lib.pow10Tab
  own : ∃ b o c, w.var? Tryd.prog ownName = some #[.slice (some ⟨b, o, none⟩) 8 c] ∧ 8 ≤ c ∧ ∀ (j : Nat) x, ownB[j]? = some x → w.cell? ⟨b, o + j, none⟩ = some (.string x)

theorem var_below {P : Program} {w w' : World} {n : String} {cs : Array Value} (h : w.var? P n = some cs) (hb : Below w.heap.size w w') : w'.var? P n = some cs := by
  unfold World.var? at h ⊢
  cases hg : P.globalNamed n with
  | none => simp [hg] at h
  | some g =>
    simp only [hg, Option.bind_some] at h ⊢
    have hlt : g < w.heap.size := by
      rcases Nat.lt_or_ge g w.heap.size with h' | h'
      · exact h'
      · simp [Array.getElem?_eq_none h'] at h
    rw [hb.block g hlt]; exact h
theorem Tabs.keep {w w' : World} (h : Tabs w) (hb : Below w.heap.size w w') : Tabs w' := by
  obtain ⟨⟨a, b, h1⟩, ⟨c, d, h2⟩, h3, ⟨e, o, k, h4, h5, h6⟩⟩ := h
  exact ⟨⟨a, b, var_below h1 hb⟩, ⟨c, d, var_below h2 hb⟩, var_below h3 hb, ⟨e, o, k, var_below h4 hb, h5, fun j x hj => (hb.cell (cell_lt (h6 j x hj))).trans (h6 j x hj)⟩⟩
theorem Tabs.lasts {B : Nat} {w w' : World} (h : Tabs w) (hb : Below B w w') (hB : w.heap.size ≤ B) : Tabs w' := h.keep (hb.mono hB)

abbrev laidList : List (String × DataW Unit) := Rows.fnExactExprOkRow.laid
theorem starErr : "*" ++ "errors.errorString" = "*errors.errorString" := by decide
theorem rowErr (u : TypeId) (h : Tryd.prog.typeName? 3 u = some "*errors.errorString") : u = 158 :=
  typeName_ptr_named (nm := "errors.errorString") (by rw [starErr]; kernel_rfl) (by kernel_rfl) (by decide) u (by rw [starErr]; exact h)
open Go.ChangeShapes Go.WideShapes Go.Deep in
theorem own_laid {W : World} (h : laidMet Tryd.prog [(ownName, .slice (ownL.map fun l => .lit (.string l)) [])] W) :
    ∃ b o c, W.var? Tryd.prog ownName = some #[.slice (some ⟨b, o, none⟩) 8 c] ∧ 8 ≤ c ∧ ∀ (j : Nat) x, ownB[j]? = some x → W.cell? ⟨b, o + j, none⟩ = some (.string x) := by
  obtain ⟨ps, ⟨g0, t0, cs0, f0, p0, q0, hg0, ht0, hv0, hd0, _, e0⟩, _, hrows⟩ := h
  obtain rfl := Option.some.inj ((show Tryd.prog.globalNamed ownName = some 0 by kernel_rfl).symm.trans hg0)
  obtain rfl := Option.some.inj ((show (Tryd.prog.globals[0]?).map (·.type) = some 26 by kernel_rfl).symm.trans ht0)
  obtain ⟨cs⟩ := cs0
  simp only at hd0 hv0
  rcases DataW.trod_slice Tryd.underlying26 hd0 with ⟨_, he⟩ | ⟨a, len, cap, elems, rest, m, hm, hcs, hx, _, hl, hcap, hel, hat, _, _⟩
  · simp at he
  · subst hcs
    simp only [Prod.mk.injEq, DataW.slice.injEq] at hx
    obtain ⟨⟨hx1, _⟩, _⟩ := hx
    have c1 : Tryd.prog.cellsOf 9 = 1 := by kernel_rfl
    rw [c1] at hat
    have h8 : len = 8 := by
      have := congrArg List.length hx1
      simp [ownL] at this
      omega
    subst h8
    have key : ∀ (j : Nat) l, ownL[j]? = some l → W.cell? (a.add j) = some (.string ⟨l.toArray⟩) := by
      intro j l hj
      have hj8 : j < 8 := (List.getElem?_eq_some_iff.1 hj).1
      have h1 := hat j hj8
      rw [List.getElem?_eq_getElem (by omega)] at h1
      obtain ⟨ds, hd, ht⟩ := Option.bind_eq_some_iff.1 h1
      obtain ⟨s, hs, hy, _⟩ := DataW.trod_string Tryd.underlying9 ht
      subst hs
      obtain ⟨_, hcl, hc⟩ := World.cells?_some hd
      have h2 := hc 0 (by simp)
      have h3 : (elems.map (·.1))[j]? = some (DataW.lit (.string l)) := by rw [← hx1]; simp [hj]
      rw [List.getElem?_map, List.getElem?_eq_getElem (by omega)] at h3
      simp only [Option.map_some, Option.some.injEq] at h3
      rw [hy] at h3
      simp only [DataW.lit.injEq, Lit.string.injEq] at h3
      subst h3
      have ha : (a.add (j * 1)).add 0 = a.add j := by rw [Nat.mul_one]; unfold Addr.add; simp
      rw [ha] at h2
      simpa using h2
    obtain ⟨b, o, sp⟩ := a
    have k0 := key 0 _ rfl
    have hsp : sp = none := by
      have := World.cell?_spot k0
      simpa [Addr.add] using this
    subst hsp
    refine ⟨b, o, cap, hv0, hl, fun j x hj => ?_⟩
    unfold ownB at hj
    rw [List.getElem?_map] at hj
    obtain ⟨l, hl2, rfl⟩ := Option.map_eq_some_iff.1 hj
    have := key j l hl2
    rw [show (Addr.mk b o none).add j = ⟨b, o + j, none⟩ by unfold Addr.add; split <;> simp_all] at this
    exact this
theorem laid_tabs {W : World} (hL : laidMetH Tryd.prog laidList W) (_ : W.ShapedOpen Tryd.prog) : Tabs W := by
  have h0 : laidMet Tryd.prog laidList W := hL
  have h2 := h0.tail.tail
  have h3 := h2.tail
  have h4 := h3.tail
  obtain ⟨a1, s1, e1, _⟩ := laid_sentinel h3 (show Tryd.prog.globalNamed "strconv.ErrRange" = some 4 by kernel_rfl) (show (Tryd.prog.globals[4]?).map (·.type) = some 101 by kernel_rfl) Tryd.underlying101 rowErr Tryd.underlying158 Tryd.underlying160 rfl rfl Tryd.underlying9 (by kernel_rfl) (by kernel_rfl)
  obtain ⟨a2, s2, e2, _⟩ := laid_sentinel h4 (show Tryd.prog.globalNamed "strconv.ErrSyntax" = some 3 by kernel_rfl) (show (Tryd.prog.globals[3]?).map (·.type) = some 101 by kernel_rfl) Tryd.underlying101 rowErr Tryd.underlying158 Tryd.underlying160 rfl rfl Tryd.underlying9 (by kernel_rfl) (by kernel_rfl)
  have e3 := Lib.tabIs_of_head (k := .u64) (zs := Lib.pow10Tab) (name := "internal/strconv.uint64pow10") (g := 2) (t := 143) (e := 129) (n := 20) (by kernel_rfl) (by kernel_rfl) Tryd.underlying143 Tryd.underlying129 (by kernel_rfl) (by kernel_rfl) (show laidMet Tryd.prog (("internal/strconv.uint64pow10", Lib.tabData .u64 Lib.pow10Tab) :: _) W from h2)
  exact ⟨⟨_, _, e2⟩, ⟨_, _, e1⟩, e3, own_laid h4.tail⟩

noncomputable def laidWorld (os : Os) : World := World.laidAll Tryd.prog os laidList
set_option maxRecDepth 100000 in
theorem laid_met (os : Os) (args : Array Value) : laidMet Tryd.prog laidList ((laidWorld os).forCall (fun _ _ => 0) ⟨#[], args, []⟩).memory :=
  laidMet_laidAll args (by kernel_rfl) (by kernel_rfl)
/-- The listed variable reads behind the call as it did. -/
theorem var_gs {H : Type} {enc : TypeId × Value → H} {W : World} {gs : List (DataW H)} {ps : List MemPlace} (h : DataW.TrodVars enc Tryd.prog W (fun _ => true) [ownName] gs ps) : ∃ d, gs = [d] := by
  obtain ⟨g, t, cs, fuel, d, p, e, _⟩ := Go.ChangeShapes.trodVars_one h
  exact ⟨d, e⟩
open Go.ChangeShapes Go.WideShapes in
theorem var_stays {H : Type} {enc : TypeId × Value → H} {W W' : World} {gs : List (DataW H)} {ps : List MemPlace} (h : DataW.TrodVars enc Tryd.prog W (fun _ => true) [ownName] gs ps) (hb : Below W.heap.size W W') : ∃ pv, DataW.TrodVars enc Tryd.prog W' (fun b => decide (b < W.heap.size)) [ownName] gs pv := by
  obtain ⟨g, t, cs, fuel, d, p, rfl, hg, ht, hv, hd, _⟩ := trodVars_one h
  obtain rfl := Option.some.inj ((show Tryd.prog.globalNamed ownName = some 0 by kernel_rfl).symm.trans hg)
  obtain rfl := Option.some.inj ((show (Tryd.prog.globals[0]?).map (·.type) = some 26 by kernel_rfl).symm.trans ht)
  have one : ∃ v : Value, cs.toList = v.cells.toList := by
    rcases DataW.trod_slice Tryd.underlying26 hd with ⟨hcs, _⟩ | ⟨a, len, cap, elems, rest, m, hm, hcs, _⟩
    · exact ⟨.slice none 0 0, by rw [hcs]; rfl⟩
    · exact ⟨.slice (some a) len cap, by rw [hcs]; rfl⟩
  obtain ⟨v, hcv⟩ := one
  rw [hcv] at hd
  have hlt : ∀ x ∈ p, x.block < W.heap.size := DataW.trod_lt _ _ _ _ hd
  obtain ⟨fuel', hd'⟩ := Below.trod (show laidOutB Tryd.prog = true by kernel_rfl) (show Tryd.prog.readableRec 26 = true by kernel_rfl) (of_decide_eq_true (by kernel_rfl)) (show DataW.Trod enc Tryd.prog W 0 (fun _ => true) true 26 v d p from ⟨fuel, hd⟩) hb hlt
  rw [← hcv] at hd'
  exact ⟨_, trodVars_mk1 hg ht (var_below hv hb) hd'⟩
end Go.Proofs.YtfjmjlpobbjjdaaDoor
