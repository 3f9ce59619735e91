/- Walks: the reader of the drawn code: l12Open, pick. -/
import Derived.Test.YtfjmjlpobbjjdaaDoorGround
import Derived.Deep.QuietTactic
import Derived.BigQuiet
import Derived.Outline
namespace Go.Proofs.YtfjmjlpobbjjdaaDoor
open Go.RowKit
set_option linter.unusedVariables false

/-- A reader in block g, which has read p bytes; the code's bytes lie below it. -/
def Rd (w : World) (g p : Nat) : Prop :=
  ∃ (A : Option Addr) (n c : Nat) (zs : List Int), zs.length = n ∧ (n : Int) ≤ 2000 ∧ Blk w g 90 [.slice A n c, .int .i64 (p : Int)] ∧ Row w g A (zs.map (.int .u8)) ∧ ∀ z ∈ zs, 0 ≤ z ∧ z ≤ 255

theorem Rd.keep {w w' : World} {g p : Nat} (h : Rd w g p) (hb : Below w.heap.size w w') : Rd w' g p := by
  obtain ⟨A, n, c, zs, h1, h2, h3, h4, h5⟩ := h
  have := h3.lt
  exact ⟨A, n, c, zs, h1, h2, h3.below hb this, h4.below (hb.mono (by omega)), h5⟩
theorem Rd.lt {w : World} {g p : Nat} (h : Rd w g p) : g < w.heap.size := by
  obtain ⟨A, n, c, zs, h1, h2, h3, h4, h5⟩ := h
  exact h3.lt

/-- What a draw below m leaves. -/
def Picked (g p : Nat) (m : Int) (w : World) (e : Ending) (w' : World) : Prop :=
  ∃ r : Nat, e = .returned (.int .i64 (r : Int)) ∧ (m < 1 → r = 0) ∧ (1 ≤ m → (r : Int) < m) ∧ Rd w' g (p + 1) ∧ Keep g w w' ∧ w'.heap.size = w.heap.size

theorem rd_put {w : World} {g p : Nat} {A : Option Addr} {n c : Nat} {zs : List Int} (h1 : zs.length = n) (h2 : (n : Int) ≤ 2000) (h3 : Blk w g 90 [.slice A n c, .int .i64 (p : Int)])
    (h4 : Row w g A (zs.map (.int .u8))) (h5 : ∀ z ∈ zs, 0 ≤ z ∧ z ≤ 255) (k : Nat) : Rd ((w.setCell ⟨g, 1, none⟩ (.int .i64 ((p : Int) + 1))).drewN k) g (p + 1) := by
  refine ⟨A, n, c, zs, h1, h2, ?_, ?_, h5⟩
  · have := h3.put 1 (.int .i64 ((p : Int) + 1))
    have e : [Value.slice A n c, Value.int .i64 (p : Int)].set 1 (.int .i64 ((p : Int) + 1)) = [.slice A n c, .int .i64 ((p + 1 : Nat) : Int)] := by simp
    rw [e] at this; exact this
  · exact h4.keep fun q hq => by
      show ((w.setCell ⟨g, 1, none⟩ (.int .i64 ((p : Int) + 1))).drewN k).cell? q = _
      rw [show ((w.setCell ⟨g, 1, none⟩ (.int .i64 ((p : Int) + 1))).drewN k).cell? q = (w.setCell ⟨g, 1, none⟩ (.int .i64 ((p : Int) + 1))).cell? q from rfl]
      exact World.cell?_of_block (Below.heap_setCell _ _ _ _ (by show q.block ≠ g; omega))
theorem keep_put {w : World} {g : Nat} (v : Value) (k : Nat) : Keep g w ((w.setCell ⟨g, 1, none⟩ v).drewN k) ∧ ((w.setCell ⟨g, 1, none⟩ v).drewN k).heap.size = w.heap.size :=
  ⟨((Keep.refl g w).set 1 v).drewN k, by show (w.setCell ⟨g, 1, none⟩ v).heap.size = _; simp [World.setCell]⟩

theorem xor_nonneg (a b : Nat) (ha : a < 4611686018427387904) (hb : b < 4611686018427387904) : 0 ≤ bits .xor .i64 (a : Int) (b : Int) := by
  have hx : a ^^^ b < 2 ^ 62 := Nat.xor_lt_two_pow (by omega) (by omega)
  have h1 : (BitVec.ofInt 64 (a : Int)).toNat = a := by
    rw [BitVec.ofInt_natCast, BitVec.toNat_ofNat]; exact Nat.mod_eq_of_lt (by omega)
  have h2 : (BitVec.ofInt 64 (b : Int)).toNat = b := by
    rw [BitVec.ofInt_natCast, BitVec.toNat_ofNat]; exact Nat.mod_eq_of_lt (by omega)
  show 0 ≤ IntKind.i64.wrap ((BitVec.ofInt 64 (a : Int) ^^^ BitVec.ofInt 64 (b : Int)).toNat : Int)
  rw [BitVec.toNat_xor, h1, h2, IntKind.wrap_i64]
  omega

set_option maxHeartbeats 1000000 in
theorem pick (g p : Nat) (m : Int) (w : World) (h : Rd w g p) (hp : (p : Int) ≤ 1000000000) (hm0 : -1000000000 ≤ m) (hm1 : m ≤ 1000000000) :
    Calls Tryd.prog 46 #[.pointer (some ⟨g, 0, none⟩), .int .i64 m] w (Picked g p m w) := by
  obtain ⟨A, n, c, zs, h1, h2, h3, h4, h5⟩ := h
  have c0 : w.cell? ⟨g, 0, none⟩ = some (.slice A n c) := by rw [h3.cell]; rfl
  have c1 : w.cell? ⟨g, 1, none⟩ = some (.int .i64 (p : Int)) := by rw [h3.cell]; rfl
  have f1 := h3.frozen 1
  have P := Lib.hid (rd_put h1 h2 h3 h4 h5)
  by_cases hm : m < 1
  · have R : Picked g p m w (.returned (.int .i64 0)) (w.setCell ⟨g, 1, none⟩ (.int .i64 ((p : Int) + 1))) :=
      ⟨0, rfl, fun _ => rfl, fun h => by omega, P.out 0, (keep_put _ 0).1, (keep_put _ 0).2⟩
    have HR := Lib.hid R; clear R
    go_enter Tryd.func46, Tryd.ntmps46
    go_wp2
    go_ret
    exact HR.out
  · have hm' : 1 ≤ m := by omega
    by_cases hn : n = 0
    · have R : Picked g p m w (.returned (.int .i64 0)) (w.setCell ⟨g, 1, none⟩ (.int .i64 ((p : Int) + 1))) :=
        ⟨0, rfl, fun _ => rfl, fun h => by omega, P.out 0, (keep_put _ 0).1, (keep_put _ 0).2⟩
      have HR := Lib.hid R; clear R
      subst hn
      go_enter Tryd.func46, Tryd.ntmps46
      go_wp2
      go_ret
      exact HR.out
    · have hn' : ((n : Int) == 0) = false := by simp; omega
      by_cases hk : p < n
      · obtain ⟨b, o, rfl, hb, hc⟩ := h4.at_ (i := p) (by simp; omega)
        have hz : p < zs.length := by omega
        have hc2 : ∀ v, (w.setCell ⟨g, 1, none⟩ v).cell? ⟨b, o + p, none⟩ = some (.int .u8 zs[p]) := fun v => by
          rw [World.cell?_of_block (w := w) (Below.heap_setCell _ _ _ _ (by show b ≠ g; omega)), hc]; simp
        have hzz := h5 zs[p] (List.getElem_mem hz)
        obtain ⟨z, ez⟩ : ∃ z : Nat, zs[p] = (z : Int) := ⟨zs[p].toNat, by omega⟩
        rw [ez] at hzz
        have hc3 := hc2 (.int .i64 ((p : Int) + 1))
        rw [ez] at hc3
        have R : Picked g p m w (.returned (.int .i64 ((z : Int) % m))) (w.setCell ⟨g, 1, none⟩ (.int .i64 ((p : Int) + 1))) :=
          ⟨((z : Int) % m).toNat, by rw [Int.toNat_of_nonneg (Int.emod_nonneg _ (by omega))], fun h => by omega, fun _ => by
            rw [Int.toNat_of_nonneg (Int.emod_nonneg _ (by omega))]; exact Int.emod_lt_of_pos _ (by omega), P.out 0, (keep_put _ 0).1, (keep_put _ 0).2⟩
        have HR := Lib.hid R; clear R
        have hk' : (p : Int) < (n : Int) := by omega
        clear hc hc2 ez h4 h5 h3 h1
        go_enter Tryd.func46, Tryd.ntmps46
        go_wp2
        go_ret
        exact HR.out
      · have hn0 : 0 < n := by omega
        have hi1 : p % n < n := Nat.mod_lt _ hn0
        have hi2 : (p * 7 + 3) % n < n := Nat.mod_lt _ hn0
        have hq : p / n ≤ p := Nat.div_le_self _ _
        obtain ⟨b, o, rfl, hb, hc⟩ := h4.at_ (i := p % n) (by simp; omega)
        obtain ⟨b', o', eA, hb', hc'⟩ := h4.at_ (i := (p * 7 + 3) % n) (by simp; omega)
        simp only [Option.some.injEq, Addr.mk.injEq] at eA
        obtain ⟨rfl, rfl, _⟩ := eA
        have hz1 : p % n < zs.length := by omega
        have hz2 : (p * 7 + 3) % n < zs.length := by omega
        have hcell : ∀ v q, (w.setCell ⟨g, 1, none⟩ v).cell? ⟨b, q, none⟩ = w.cell? ⟨b, q, none⟩ := fun v q =>
          World.cell?_of_block (w := w) (Below.heap_setCell _ _ _ _ (by show b ≠ g; omega))
        have ha1 := h5 zs[p % n] (List.getElem_mem hz1)
        have ha2 := h5 zs[(p * 7 + 3) % n] (List.getElem_mem hz2)
        obtain ⟨a1, e1⟩ : ∃ z : Nat, zs[p % n] = (z : Int) := ⟨zs[p % n].toNat, by omega⟩
        obtain ⟨a2, e2⟩ : ∃ z : Nat, zs[(p * 7 + 3) % n] = (z : Int) := ⟨zs[(p * 7 + 3) % n].toNat, by omega⟩
        rw [e1] at ha1
        rw [e2] at ha2
        have d1 : (w.setCell ⟨g, 1, none⟩ (.int .i64 ((p : Int) + 1))).cell? ⟨b, o + p % n, none⟩ = some (.int .u8 (a1 : Int)) := by rw [hcell, hc]; simp [e1]
        have d2 : (w.setCell ⟨g, 1, none⟩ (.int .i64 ((p : Int) + 1))).cell? ⟨b, o + (p * 7 + 3) % n, none⟩ = some (.int .u8 (a2 : Int)) := by rw [hcell, hc']; simp [e2]
        have t1 : (p : Int).tmod n = ((p % n : Nat) : Int) := by rw [Int.tmod_eq_emod_of_nonneg (by omega)]; rfl
        have t2 : ((p : Int) * 7 + 3).tmod n = (((p * 7 + 3) % n : Nat) : Int) := by rw [Int.tmod_eq_emod_of_nonneg (by omega)]; rfl
        have t3 : (p : Int).tdiv n = ((p / n : Nat) : Int) := by rw [Int.tdiv_eq_ediv_of_nonneg (by omega)]; rfl
        clear hc hc' hcell e1 e2 h4 h5 h3 h1 hz1 hz2
        generalize p % n = i1 at *
        generalize (p * 7 + 3) % n = i2 at *
        generalize p / n = q at *
        have w1 : IntKind.i64.wrap ((p : Int) * 7) = (p : Int) * 7 := by rw [IntKind.wrap_i64]; omega
        have w2 : IntKind.i64.wrap ((p : Int) * 7 + 3) = (p : Int) * 7 + 3 := by rw [IntKind.wrap_i64]; omega
        have w3 : IntKind.i64.wrap ((a1 : Int) * 131) = (a1 : Int) * 131 := by rw [IntKind.wrap_i64]; omega
        have w4 : IntKind.i64.wrap ((a2 : Int) * 1117) = (a2 : Int) * 1117 := by rw [IntKind.wrap_i64]; omega
        have w5 : IntKind.i64.wrap ((a1 : Int) * 131 + (a2 : Int) * 1117) = (a1 : Int) * 131 + (a2 : Int) * 1117 := by rw [IntKind.wrap_i64]; omega
        have w6 : IntKind.i64.wrap ((p : Int) * 29) = (p : Int) * 29 := by rw [IntKind.wrap_i64]; omega
        have w7 : IntKind.i64.wrap ((a1 : Int) * 131 + (a2 : Int) * 1117 + (p : Int) * 29) = (a1 : Int) * 131 + (a2 : Int) * 1117 + (p : Int) * 29 := by rw [IntKind.wrap_i64]; omega
        have w8 : IntKind.i64.wrap ((q : Int) * 53) = (q : Int) * 53 := by rw [IntKind.wrap_i64]; omega
        have w9 : IntKind.i64.wrap ((a1 : Int) * 131 + (a2 : Int) * 1117 + (p : Int) * 29 + (q : Int) * 53) = (a1 : Int) * 131 + (a2 : Int) * 1117 + (p : Int) * 29 + (q : Int) * 53 := by rw [IntKind.wrap_i64]; omega
        have hx : 0 ≤ bits .xor .i64 ((a1 : Int) * 131 + (a2 : Int) * 1117 + (p : Int) * 29 + (q : Int) * 53) (((a1 : Int) * 131 + (a2 : Int) * 1117 + (p : Int) * 29 + (q : Int) * 53) / 64) := by
          have := xor_nonneg (a1 * 131 + a2 * 1117 + p * 29 + q * 53) ((a1 * 131 + a2 * 1117 + p * 29 + q * 53) / 64) (by omega) (by omega)
          simpa using this
        have HX := Lib.hid hx; clear hx
        have R : ∀ (x : Int) (k : Nat), 0 ≤ x → Picked g p m w (.returned (.int .i64 (x.tmod m))) ((w.setCell ⟨g, 1, none⟩ (.int .i64 ((p : Int) + 1))).drewN k) := fun x k h0 => by
          have e : x.tmod m = x % m := Int.tmod_eq_emod_of_nonneg h0
          have h3 := Int.emod_nonneg x (by omega : m ≠ 0)
          have h4 := Int.emod_lt_of_pos x (by omega : 0 < m)
          exact ⟨(x % m).toNat, by rw [e, Int.toNat_of_nonneg h3], fun h => by omega, fun _ => by rw [Int.toNat_of_nonneg h3]; exact h4, P.out k, (keep_put _ k).1, (keep_put _ k).2⟩
        have HR := Lib.hid R; clear R
        have hn1 : ((n : Int) == 0) = false := hn'
        have hi1' : (i1 : Int) < (n : Int) := by omega
        have hi2' : (i2 : Int) < (n : Int) := by omega
        go_enter Tryd.func46, Tryd.ntmps46
        go_wp2_with fail
        go_quiet (fail)
        go_wp2_with fail
        go_ret
        exact HR.out _ _ HX.out
end Go.Proofs.YtfjmjlpobbjjdaaDoor
