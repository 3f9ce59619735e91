/- Walks of the reference: whether an expression is as it must be. -/
import Derived.Test.YtfjmjlpobbjjdaaDoorNa
import Derived.Test.YtfjmjlpobbjjdaaDoorExV
import Derived.Deep.Cut
import Derived.Deep.DeepCutAuto
import Derived.Deep.CutBlock
namespace Ilp
set_option linter.unusedSimpArgs false
def okK (k n : Int) (s : List UInt8) : Bool := if k = 1 then decide (0 ≤ n) && decide (n ≤ 1000000) && (s == []) else if k = 2 then decide (n = 0) && isName s else if k = 3 then decide (n = 0) && (opOf s).isSome else if k = 4 then decide (n = 0) && isType s else false
def kidsN (k : Int) : Nat := if k = 3 then 2 else if k = 4 then 1 else 0
def form : Nat → Ex → Bool
  | 0, _ => false
  | d + 1, .mk k n s ks => okK k n s && (ks.length == kidsN k) && ks.all (form d)
theorem form_step (d : Nat) (t : Ex) : form (d + 1) t = (okK t.kind t.num t.txt && (t.kids.length == kidsN t.kind) && t.kids.all (form d)) := by cases t; rfl
theorem form_ofEx : ∀ (d : Nat) (t : Ex), form d t = (ofEx d t).isSome := by
  intro d
  induction d with
  | zero => intro t; rfl
  | succ d ih =>
    intro t
    obtain ⟨k, n, s, ks⟩ := t
    unfold form ofEx okK kidsN
    by_cases h1 : k = 1
    · subst h1
      by_cases h : 0 ≤ n ∧ n ≤ 1000000 ∧ s = []
      · obtain ⟨a, b, rfl⟩ := h
        cases ks <;> simp [a, b]
      · have : (decide (0 ≤ n) && decide (n ≤ 1000000) && (s == [])) = false := by
          rw [Bool.eq_false_iff]; intro e; simp only [Bool.and_eq_true, decide_eq_true_eq, beq_iff_eq] at e; exact h ⟨e.1.1, e.1.2, e.2⟩
        simp [h, this]
        intro a b c; exact absurd ⟨a, b, c⟩ h
    · by_cases h2 : k = 2
      · subst h2
        by_cases h : n = 0 ∧ isName s = true
        · obtain ⟨rfl, b⟩ := h
          cases ks <;> simp [b]
        · simp [h]
      · by_cases h3 : k = 3
        · subst h3
          by_cases h : n = 0
          · subst h
            cases ho : opOf s with
            | none => simp
            | some o =>
              match ks with
              | [] => simp
              | [a] => simp
              | [a, b] =>
                simp [ih]
                cases ofEx d a <;> cases ofEx d b <;> simp
              | a :: b :: c :: r => simp
          · simp [h]
        · by_cases h4 : k = 4
          · subst h4
            by_cases h : n = 0
            · subst h
              rw [← typeOf_isType]
              cases ho : typeOf s with
              | none => simp
              | some o =>
                match ks with
                | [] => simp
                | [a] =>
                  simp [ih]
                  cases ofEx d a <;> simp
                | a :: b :: r => simp
            · simp [h]
          · simp [h1, h2, h3, h4]
end Ilp
namespace Go.Proofs.YtfjmjlpobbjjdaaDoor
open Go.RowKit Ilp
set_option linter.unusedVariables false

theorem IsEV.kid {W : World} {d : Nat} {A : Option Addr} {ts : List Ex} (h : Kids W (Low W) d A ts) {i : Nat} (hi : i < ts.length) : ∃ (b o : Nat) (k n : Int) (g : ByteArray) (A' : Option Addr) (l c : Nat), A = some ⟨b, o, none⟩ ∧ b < W.heap.size ∧ IsEV W [.int .i64 k, .int .i64 n, .string g, .slice A' l c] ts[i] ∧
    W.cell? ⟨b, o + i * 4, none⟩ = some (.int .i64 k) ∧ W.cell? ⟨b, o + i * 4 + 1, none⟩ = some (.int .i64 n) ∧ W.cell? ⟨b, o + i * 4 + 2, none⟩ = some (.string g) ∧ W.cell? ⟨b, o + i * 4 + 3, none⟩ = some (.slice A' l c) := by
  obtain ⟨b, o, A', cap', d', rfl, hb, rfl, c0, c1, c2, c3, h1, h2, h3, hk⟩ := h.get hi
  exact ⟨b, o, _, _, _, _, _, _, rfl, hb, IsEV.mk h1 h2 h3 hk, c0, c1, c2, c3⟩
theorem str_empty (s : ByteArray) : (s.toList == []) = (s.data.toList == []) := by rw [ByteArray.toList_eq]
theorem all_take_next {p : Ex → Bool} {ts : List Ex} {j : Nat} (h : j < ts.length) : (ts.take (j + 1)).all p = ((ts.take j).all p && p ts[j]) := by
  rw [List.take_succ_eq_append_getElem h, List.all_append]; simp

def FormQ (d : Nat) : Prop := ∀ (k n : Int) (g : ByteArray) (A : Option Addr) (l c : Nat) (t : Ex) (W : World), IsEV W [.int .i64 k, .int .i64 n, .string g, .slice A l c] t → wgt t ≤ 1048576 →
  Calls Tryd.prog 64 #[.agg #[.int .i64 k, .int .i64 n, .string g, .slice A l c], .int .i64 (d : Int)] W fun e w' => e = .returned (.bool (form d t)) ∧ Below W.heap.size W w'
set_option maxHeartbeats 4000000 in
set_option maxRecDepth 20000 in
theorem specForm (d : Nat) (hd : (d : Int) ≤ 1000) : FormQ d := by
  induction d with
  | zero =>
    intro k n g A l c t W h hw
    have hf : form 0 t = false := by unfold form; rfl
    rw [hf]
    go_enter Tryd.func64, Tryd.ntmps64
    go_wp2_with fail
    go_ret
    exact ⟨rfl, by go_grown⟩
  | succ d ih =>
    intro k n g A l c t W h hw
    have IH := Lib.hid (ih (by omega))
    obtain ⟨q1, q2, q3, q4, h5, h6, h7, dd, hk⟩ := h.parts
    have hgs : (g.size : Int) ≤ 4611686018427387904 := by have := wgt_eq t; rw [q3, mkB_size]; omega
    have hsd : g.data.toList = t.txt := by rw [q3, mkB_data]
    have hgl : g.data.toList = g.toList := (ByteArray.toList_eq g).symm
    have HFS : Hid (form (d + 1) t = (okK k n g.data.toList && (l == kidsN k) && t.kids.all (form d))) := by unfold Hid; rw [form_step, hsd, q1, q2, q4]
    have HK := Lib.hid hk
    have HL := Lib.hid q4
    have HW := Lib.hid hw
    have HN := Lib.hid (fun w => specName g w hgs)
    have HO := Lib.hid (fun w => specOp g w)
    have HT := Lib.hid (fun w => specType g w)
    obtain ⟨D, hD⟩ : ∃ D : Int, ((d + 1 : Nat) : Int) = D := ⟨_, rfl⟩
    have hd1 : (1 : Int) ≤ D := by omega
    have hd2 : D ≤ 1001 := by omega
    have hdd : D - 1 = (d : Int) := by omega
    rw [hD]
    have hlm : (l : Int) ≤ 9223372036854775807 := by unfold maxLen at h6; rw [q4]; omega
    rw [hgl] at HFS
    simp only [hgl] at HN HO HT
    clear ih h hw hgl hD q1 q2 q3 q4 h5 h6 h7 hk hgs hsd
    go_enter Tryd.func64, Tryd.ntmps64
    go_upto_block 0 with (fail)
    go_cut [5, 6] (fun s5 s6 wc => s5 = .bool (okK k n g.toList) ∧ s6 = .int .i64 (kidsN k : Int) ∧ wc = W.alloc (.cells #[.int .i64 k, .int .i64 n, .string g, .slice A l c] 25))
    case first =>
      by_cases k1 : k = 1
      · subst k1
        go_wp2_with fail
        all_goals (go_meet; refine ⟨?_, ?_, rfl⟩ <;> simp_all [okK, kidsN] <;> (intros; omega))
      · by_cases k2 : k = 2
        · subst k2
          by_cases hn : n = 0
          · subst hn
            go_wp2_with (first | (go_at_call 94; refine (HN.out _).mono ?_; rintro e w1 ⟨rfl, rfl⟩))
            all_goals (go_meet; refine ⟨?_, ?_, rfl⟩ <;> simp_all [okK, kidsN])
          · go_wp2_with fail
            all_goals (go_meet; refine ⟨?_, ?_, rfl⟩ <;> simp_all [okK, kidsN])
        · by_cases k3 : k = 3
          · subst k3
            by_cases hn : n = 0
            · subst hn
              go_wp2_with (first | (go_at_call 95; refine (HO.out _).mono ?_; rintro e w1 ⟨rfl, rfl⟩))
              all_goals (go_meet; refine ⟨?_, ?_, rfl⟩ <;> simp_all [okK, kidsN, opOf_isOp])
            · go_wp2_with fail
              all_goals (go_meet; refine ⟨?_, ?_, rfl⟩ <;> simp_all [okK, kidsN, opOf_isOp])
          · by_cases k4 : k = 4
            · subst k4
              by_cases hn : n = 0
              · subst hn
                go_wp2_with (first | (go_at_call 67; refine (HT.out _).mono ?_; rintro e w1 ⟨rfl, rfl⟩))
                all_goals (go_meet; refine ⟨?_, ?_, rfl⟩ <;> simp_all [okK, kidsN])
              · go_wp2_with fail
                all_goals (go_meet; refine ⟨?_, ?_, rfl⟩ <;> simp_all [okK, kidsN])
            · go_wp2_with fail
              all_goals (go_meet; refine ⟨?_, ?_, rfl⟩ <;> simp_all [okK, kidsN])
    case rest =>
      obtain ⟨rfl, rfl, rfl⟩ := hcut
      have hA : Blk (W.alloc (.cells #[.int .i64 k, .int .i64 n, .string g, .slice A l c] 25)) W.heap.size 25 [.int .i64 k, .int .i64 n, .string g, .slice A l c] := Blk.alloc_ _ _ _
      have hb0 : Below W.heap.size W (W.alloc (.cells #[.int .i64 k, .int .i64 n, .string g, .slice A l c] 25)) := by go_grown
      generalize W.alloc (.cells #[.int .i64 k, .int .i64 n, .string g, .slice A l c] 25) = w0 at *
      have HA := Lib.hid hA
      have HB0 := Lib.hid hb0
      have a3 := hA.cell 3
      simp only [List.getElem?_cons_zero, List.getElem?_cons_succ] at a3
      clear hA hb0
      generalize okK k n g.toList = ok at *
      generalize kidsN k = m at *
      cases ok with
      | false =>
        have HF : Hid (form (d + 1) t = false) := by unfold Hid; rw [HFS.out]; rfl
        clear HFS
        go_wp2_with fail
        go_ret
        exact ⟨by rw [HF.out]; rfl, HB0.out⟩
      | true =>
        by_cases hlm2 : l = m
        · subst hlm2
          have HF : Hid (form (d + 1) t = t.kids.all (form d)) := by unfold Hid; rw [HFS.out]; simp
          have hll : ((l : Int) != (l : Int)) = false := by simp
          clear HFS
          go_wp2_with fail
          go_loopw [7] (fun v wr => ∃ j : Nat, v = .int .i64 (j : Int) ∧ j ≤ l ∧ Hid ((t.kids.take j).all (form d) = true) ∧ Below w0.heap.size w0 wr) (fun v _ => l - (intOf v).toNat)
          case atStart => exact ⟨0, rfl, Nat.zero_le _, rfl, Below.refl _ _⟩
          case round =>
            obtain ⟨j, rfl, hj, hall, hbw⟩ := hrel
            have HBW := Lib.hid hbw
            have HBw : Hid (Below W.heap.size W wr) := HB0.out.trans (hbw.mono HB0.out.size)
            have c3 := (HA.out.below hbw HA.out.lt).cell 3
            simp only [List.getElem?_cons_zero, List.getElem?_cons_succ] at c3
            clear hbw a3
            by_cases hlt : j < l
            · have hx : j < t.kids.length := by rw [← HL.out]; exact hlt
              obtain ⟨b, o, k', n', g', A', l', c', rfl, hb, hev, e0, e1, e2, e3⟩ := IsEV.kid (HK.out.below HBw.out) hx
              have HEV := Lib.hid hev
              have HWK : Hid (wgt t.kids[j] ≤ 1048576) := by have := HW.out; have h1 := wgt_eq t; have h2 := wgts_mem (List.getElem_mem hx); unfold Hid; omega
              have HNX := Lib.hid (all_take_next (p := form d) hx)
              have HALL : Hid (form d t.kids[j] = false → t.kids.all (form d) = false) := fun e => by
                rw [List.all_eq_false]; exact ⟨_, List.getElem_mem hx, by simp [e]⟩
              have h0 : (0 : Int) ≤ (j : Int) := by omega
              have h1 : (j : Int) < (l : Int) := by omega
              generalize t.kids[j] = x at HEV HWK HNX HALL
              clear hev hx
              go_wp2_with fail
              refine (IH.out k' n' g' A' l' c' x wr HEV.out HWK.out).mono ?_
              cases hf : form d x with
              | true =>
                have HT : Hid ((t.kids.take (j + 1)).all (form d) = true) := by unfold Hid; rw [HNX.out, hall.out, hf]; rfl
                rintro e w1 ⟨rfl, hb1⟩
                have HB1 : Hid (Below w0.heap.size w0 w1) := HBW.out.trans (hb1.mono HBW.out.size)
                clear hb1 hf e0 e1 e2 e3 c3
                go_wp2_with fail
                go_roundw
                case rel => exact ⟨j + 1, by go_num, by omega, HT, HB1.out⟩
                case measure => simp [intOf]; omega
              | false =>
                have HF2 : Hid (form (d + 1) t = false) := by unfold Hid; rw [HF.out]; exact HALL.out hf
                rintro e w1 ⟨rfl, hb1⟩
                have HB1 : Hid (Below W.heap.size W w1) := HBw.out.trans (hb1.mono HBw.out.size)
                clear hb1 hf e0 e1 e2 e3 c3
                go_wp2_with fail
                go_ret
                exact ⟨by rw [HF2.out]; rfl, HB1.out⟩
            · obtain rfl : j = l := by omega
              have HF2 : Hid (form (d + 1) t = true) := by
                unfold Hid; rw [HF.out]
                have := hall.out
                rw [List.take_of_length_le (by rw [← HL.out]; omega)] at this
                exact this
              go_wp2_with fail
              go_ret
              exact ⟨by rw [HF2.out]; rfl, HBw.out⟩
        · have HF : Hid (form (d + 1) t = false) := by unfold Hid; rw [HFS.out]; simp [hlm2]
          have hll : ((l : Int) != (m : Int)) = true := by rw [bne_iff_ne]; omega
          clear HFS
          go_wp2_with fail
          go_ret
          exact ⟨by rw [HF.out]; rfl, HB0.out⟩
end Go.Proofs.YtfjmjlpobbjjdaaDoor
