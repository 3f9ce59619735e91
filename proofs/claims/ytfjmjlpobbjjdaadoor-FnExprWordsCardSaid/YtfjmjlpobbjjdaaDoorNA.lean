/- NA: the texts Na Fm Ma in one. -/
import Derived.Test.YtfjmjlpobbjjdaaDoorIw
import Derived.Test.YtfjmjlpobbjjdaaDoorPA
import Derived.Test.YtfjmjlpobbjjdaaDoorXA
import Derived.Deep.Cut
import Derived.Deep.DeepCutAuto
import Derived.Deep.CutBlock

namespace Go.Proofs.YtfjmjlpobbjjdaaDoor
open Go.RowKit Ilp
set_option linter.unusedVariables false
set_option linter.unusedSimpArgs false

set_option maxRecDepth 20000 in
theorem specType (s : ByteArray) (w : World) :
    Calls Tryd.prog 67 #[.string s] w fun e w' => e = .returned (.bool (isType s.data.toList)) ∧ w = w' := by
  rw [← ByteArray.toList_eq]
  go_enter Tryd.func67, Tryd.ntmps67
  go_wp2_with fail
  all_goals (go_ret; refine ⟨?_, rfl⟩; simp_all [isType, wInt, wBool])
set_option maxRecDepth 20000 in
theorem implType (s : ByteArray) (w : World) :
    Calls Tryd.prog 52 #[.string s] w fun e w' => e = .returned (.bool (isType s.data.toList)) ∧ w = w' := by
  rw [← ByteArray.toList_eq]
  go_enter Tryd.func52, Tryd.ntmps52
  go_wp2_with fail
  all_goals (go_ret; refine ⟨?_, rfl⟩; simp_all [isType, wInt, wBool])

def isOp (s : List UInt8) : Bool := s == [43] || s == [45] || s == [42] || s == [60]
theorem opOf_isOp (s : List UInt8) : (opOf s).isSome = isOp s := by
  unfold opOf isOp
  by_cases h1 : s = [43]
  · simp [h1]
  · by_cases h2 : s = [45]
    · simp [h2]
    · by_cases h3 : s = [42]
      · simp [h3]
      · by_cases h4 : s = [60]
        · simp [h4]
        · simp [h1, h2, h3, h4]
set_option maxRecDepth 20000 in
theorem specOp (s : ByteArray) (w : World) :
    Calls Tryd.prog 95 #[.string s] w fun e w' => e = .returned (.bool (isOp s.data.toList)) ∧ w = w' := by
  rw [← ByteArray.toList_eq]
  go_enter Tryd.func95, Tryd.ntmps95
  go_wp2_with fail
  all_goals (go_ret; refine ⟨?_, rfl⟩; simp_all [isType, isOp, wInt, wBool])
def tight (s : List UInt8) : Nat := if s = [60] then 1 else if s = [43] then 2 else if s = [45] then 2 else if s = [42] then 3 else 0
theorem tight_op (s : List UInt8) : (0 < tight s) = (isOp s = true) := by
  unfold tight isOp
  by_cases h1 : s = [43]
  · simp [h1]
  · by_cases h2 : s = [45]
    · simp [h2]
    · by_cases h3 : s = [42]
      · simp [h3]
      · by_cases h4 : s = [60]
        · simp [h4]
        · simp [h1, h2, h3, h4]
set_option maxRecDepth 20000 in
theorem implTight (s : ByteArray) (w : World) :
    Calls Tryd.prog 81 #[.string s] w fun e w' => e = .returned (.int .i64 (tight s.data.toList : Int)) ∧ w = w' := by
  rw [← ByteArray.toList_eq]
  unfold tight
  by_cases h1 : s.toList = [60]
  · rw [if_pos h1]
    go_enter Tryd.func81, Tryd.ntmps81
    go_wp2_with fail
    all_goals (go_ret; refine ⟨?_, rfl⟩; simp_all)
  · rw [if_neg h1]
    by_cases h2 : s.toList = [43]
    · rw [if_pos h2]
      go_enter Tryd.func81, Tryd.ntmps81
      go_wp2_with fail
      all_goals (go_ret; refine ⟨?_, rfl⟩; simp_all)
    · rw [if_neg h2]
      by_cases h3 : s.toList = [45]
      · rw [if_pos h3]
        go_enter Tryd.func81, Tryd.ntmps81
        go_wp2_with fail
        all_goals (go_ret; refine ⟨?_, rfl⟩; simp_all)
      · rw [if_neg h3]
        by_cases h4 : s.toList = [42]
        · rw [if_pos h4]
          go_enter Tryd.func81, Tryd.ntmps81
          go_wp2_with fail
          all_goals (go_ret; refine ⟨?_, rfl⟩; simp_all)
        · rw [if_neg h4]
          go_enter Tryd.func81, Tryd.ntmps81
          go_wp2_with fail
          all_goals (go_ret; refine ⟨?_, rfl⟩; simp_all)
def held (l : List UInt8) : Bool := l == wLet || l == wSay || l == wWhen || l == wAs || l == wPrint || l == wIf || isType l
theorem held_own (l : List UInt8) : held l = Ilp.ownWords.contains l := by
  unfold held isType Ilp.ownWords
  simp only [List.contains_cons, List.contains_nil, Bool.or_false, Bool.or_assoc]
set_option maxRecDepth 20000 in
theorem specHeld (s : ByteArray) (w : World) :
    Calls Tryd.prog 110 #[.string s] w fun e w' => e = .returned (.bool (held s.data.toList)) ∧ w = w' := by
  have HC := Lib.hid (specType s w)
  have e0 : held s.data.toList = (s.toList == [108, 101, 116] || s.toList == [115, 97, 121] || s.toList == [119, 104, 101, 110] || s.toList == [97, 115] || s.toList == [112, 114, 105, 110, 116] || s.toList == [105, 102] || isType s.data.toList) := by
    rw [ByteArray.toList_eq]; rfl
  rw [e0]
  generalize isType s.data.toList = ty at *
  clear e0
  by_cases h : (s.toList == [108, 101, 116] || s.toList == [115, 97, 121] || s.toList == [119, 104, 101, 110] || s.toList == [97, 115] || s.toList == [112, 114, 105, 110, 116] || s.toList == [105, 102]) = true
  · rw [h]
    have H : Hid ((s.toList == [108, 101, 116] || s.toList == [115, 97, 121] || s.toList == [119, 104, 101, 110] || s.toList == [97, 115] || s.toList == [112, 114, 105, 110, 116] || s.toList == [105, 102]) = true) := h
    simp only [Bool.or_eq_true] at h
    rcases h with ((((h | h) | h) | h) | h) | h
    all_goals
      rw [beq_iff_eq] at h
      go_enter Tryd.func110, Tryd.ntmps110
      go_wp2_with fail
      all_goals (go_ret; exact ⟨rfl, rfl⟩)
  · have h' := Bool.eq_false_iff.2 h
    clear h
    rw [h']
    simp only [Bool.or_eq_false_iff, beq_eq_false_iff_ne] at h'
    obtain ⟨⟨⟨⟨⟨h1, h2⟩, h3⟩, h4⟩, h5⟩, h6⟩ := h'
    go_enter Tryd.func110, Tryd.ntmps110
    go_wp2_with fail
    refine HC.out.mono ?_
    rintro e w1 ⟨rfl, rfl⟩
    go_wp2_with fail
    all_goals (go_ret; refine ⟨?_, rfl⟩; simp_all)
theorem isName_held (l : List UInt8) : isName l = (tokWord l && !held l) := by rw [held_own]; rfl
set_option maxRecDepth 20000 in
theorem specName (s : ByteArray) (w : World) (hs : (s.size : Int) ≤ 4611686018427387904) :
    Calls Tryd.prog 94 #[.string s] w fun e w' => e = .returned (.bool (isName s.data.toList)) ∧ w = w' := by
  have HW := Lib.hid (specWord s w hs)
  have HH := Lib.hid (specHeld s w)
  rw [isName_held]
  generalize tokWord s.data.toList = tw at *
  generalize held s.data.toList = hd at *
  cases tw with
  | false =>
    go_enter Tryd.func94, Tryd.ntmps94
    go_wp2_with fail
    refine HW.out.mono ?_
    rintro e w1 ⟨rfl, rfl⟩
    go_wp2_with fail
    go_ret
    exact ⟨rfl, rfl⟩
  | true =>
    go_enter Tryd.func94, Tryd.ntmps94
    go_wp2_with fail
    refine HW.out.mono ?_
    rintro e w1 ⟨rfl, rfl⟩
    go_wp2_with fail
    refine HH.out.mono ?_
    rintro e w2 ⟨rfl, rfl⟩
    go_wp2_with fail
    go_ret
    exact ⟨by simp, rfl⟩

theorem own_mem (s : ByteArray) : Lib.containsS (ownB.take 8) s = Ilp.ownWords.contains s.data.toList := by
  have hL : Ilp.ownWords = ownL := rfl
  rw [Bool.eq_iff_iff, Lib.containsS_iff, hL]
  have h8 : ownB.take 8 = ownB := rfl
  rw [h8, List.contains_iff_mem]
  unfold ownB
  rw [List.mem_map]
  constructor
  · rintro ⟨l, hl, rfl⟩; simpa using hl
  · intro h; exact ⟨_, h, by apply ByteArray.ext; simp⟩
set_option maxHeartbeats 1000000 in
set_option maxRecDepth 20000 in
theorem implName (s : ByteArray) (w : World) (hT : Tabs w) (hs : (s.size : Int) ≤ 1048576) :
    Calls Tryd.prog 96 #[.string s] w fun e w' => e = .returned (.bool (isName s.data.toList)) ∧ Below w.heap.size w w' := by
  have HW : Hid (Calls Tryd.prog 61 #[.int .i64 1, .string s] w fun e w' => e = .returned (.bool (tokWord s.data.toList)) ∧ Below w.heap.size w w') := implTokOk 1 s w hT hs
  obtain ⟨b, o, c, hv, hc, hx⟩ := hT.own
  have hg := World.var?_cell (show Tryd.prog.globalNamed ownName = some 0 by kernel_rfl) hv 0
  have hg' : w.cell? ⟨0, 0, none⟩ = some (.slice (some ⟨b, o, none⟩) 8 c) := hg
  have hgl := cell_lt hg'
  have CC := fun W (h : Below w.heap.size w W) => Tryd.slices_Contains_string b o 8 c ownB s W (by decide) (by omega) (fun j hj => by
    have h1 : ownB[j]? = some (ownB.getD j ByteArray.empty) := by rw [List.getD_eq_getElem?_getD, List.getElem?_eq_getElem hj]; rfl
    have h2 := hx j _ h1
    exact (h.cell (cell_lt h2)).trans h2)
  rw [own_mem] at CC
  have HCC := Lib.hid CC
  have HG := Lib.hid hg'
  have HGL := Lib.hid hgl
  unfold isName
  clear CC hv hx hg hg' hgl
  generalize tokWord s.data.toList = tw at *
  generalize Ilp.ownWords.contains s.data.toList = hd at *
  cases tw with
  | false =>
    go_enter Tryd.func96, Tryd.ntmps96
    go_wp2_with fail
    refine HW.out.mono ?_
    rintro e w1 ⟨rfl, hb1⟩
    have HB1 := Lib.hid hb1
    clear hb1
    go_wp2_with fail
    go_ret
    exact ⟨rfl, HB1.out⟩
  | true =>
    go_enter Tryd.func96, Tryd.ntmps96
    go_wp2_with fail
    refine HW.out.mono ?_
    rintro e w1 ⟨rfl, hb1⟩
    have HB1 := Lib.hid hb1
    have c1 := (hb1.cell (p := ⟨0, 0, none⟩) HGL.out).trans HG.out
    clear hb1
    go_wp2_with fail
    refine (HCC.out w1 HB1.out).mono ?_
    rintro e w2 ⟨rfl, rfl⟩
    go_wp2_with fail
    go_ret
    exact ⟨by simp, HB1.out⟩
end Go.Proofs.YtfjmjlpobbjjdaaDoor

namespace Ilp
set_option linter.unusedSimpArgs false
def okK (k n : Int) (s : List UInt8) : Bool := if k = 1 then decide (0 ≤ n) && decide (n ≤ 1000000) && (s == []) else if k = 2 then decide (n = 0) && isName s else if k = 3 then decide (n = 0) && (opOf s).isSome else if k = 4 then decide (n = 0) && isType s else false
def kidsN (k : Int) : Nat := if k = 3 then 2 else if k = 4 then 1 else 0
def form : Nat → Ex → Bool
  | 0, _ => false
  | d + 1, .mk k n s ks => okK k n s && (ks.length == kidsN k) && ks.all (form d)
theorem form_step (d : Nat) (t : Ex) : form (d + 1) t = (okK t.kind t.num t.txt && (t.kids.length == kidsN t.kind) && t.kids.all (form d)) := by cases t; rfl
theorem form_ofEx : ∀ (d : Nat) (t : Ex), form d t = (ofEx d t).isSome := by
  intro d
  induction d with
  | zero => intro t; rfl
  | succ d ih =>
    intro t
    obtain ⟨k, n, s, ks⟩ := t
    unfold form ofEx okK kidsN
    by_cases h1 : k = 1
    · subst h1
      by_cases h : 0 ≤ n ∧ n ≤ 1000000 ∧ s = []
      · obtain ⟨a, b, rfl⟩ := h
        cases ks <;> simp [a, b]
      · have : (decide (0 ≤ n) && decide (n ≤ 1000000) && (s == [])) = false := by
          rw [Bool.eq_false_iff]; intro e; simp only [Bool.and_eq_true, decide_eq_true_eq, beq_iff_eq] at e; exact h ⟨e.1.1, e.1.2, e.2⟩
        simp [h, this]
        intro a b c; exact absurd ⟨a, b, c⟩ h
    · by_cases h2 : k = 2
      · subst h2
        by_cases h : n = 0 ∧ isName s = true
        · obtain ⟨rfl, b⟩ := h
          cases ks <;> simp [b]
        · simp [h]
      · by_cases h3 : k = 3
        · subst h3
          by_cases h : n = 0
          · subst h
            cases ho : opOf s with
            | none => simp
            | some o =>
              match ks with
              | [] => simp
              | [a] => simp
              | [a, b] =>
                simp [ih]
                cases ofEx d a <;> cases ofEx d b <;> simp
              | a :: b :: c :: r => simp
          · simp [h]
        · by_cases h4 : k = 4
          · subst h4
            by_cases h : n = 0
            · subst h
              rw [← typeOf_isType]
              cases ho : typeOf s with
              | none => simp
              | some o =>
                match ks with
                | [] => simp
                | [a] =>
                  simp [ih]
                  cases ofEx d a <;> simp
                | a :: b :: r => simp
            · simp [h]
          · simp [h1, h2, h3, h4]
end Ilp
namespace Go.Proofs.YtfjmjlpobbjjdaaDoor
open Go.RowKit Ilp
set_option linter.unusedVariables false

theorem IsEV.kid {W : World} {d : Nat} {A : Option Addr} {ts : List Ex} (h : Kids W (Low W) d A ts) {i : Nat} (hi : i < ts.length) : ∃ (b o : Nat) (k n : Int) (g : ByteArray) (A' : Option Addr) (l c : Nat), A = some ⟨b, o, none⟩ ∧ b < W.heap.size ∧ IsEV W [.int .i64 k, .int .i64 n, .string g, .slice A' l c] ts[i] ∧
    W.cell? ⟨b, o + i * 4, none⟩ = some (.int .i64 k) ∧ W.cell? ⟨b, o + i * 4 + 1, none⟩ = some (.int .i64 n) ∧ W.cell? ⟨b, o + i * 4 + 2, none⟩ = some (.string g) ∧ W.cell? ⟨b, o + i * 4 + 3, none⟩ = some (.slice A' l c) := by
  obtain ⟨b, o, A', cap', d', rfl, hb, rfl, c0, c1, c2, c3, h1, h2, h3, hk⟩ := h.get hi
  exact ⟨b, o, _, _, _, _, _, _, rfl, hb, IsEV.mk h1 h2 h3 hk, c0, c1, c2, c3⟩
theorem str_empty (s : ByteArray) : (s.toList == []) = (s.data.toList == []) := by rw [ByteArray.toList_eq]
theorem all_take_next {p : Ex → Bool} {ts : List Ex} {j : Nat} (h : j < ts.length) : (ts.take (j + 1)).all p = ((ts.take j).all p && p ts[j]) := by
  rw [List.take_succ_eq_append_getElem h, List.all_append]; simp

def FormQ (d : Nat) : Prop := ∀ (k n : Int) (g : ByteArray) (A : Option Addr) (l c : Nat) (t : Ex) (W : World), IsEV W [.int .i64 k, .int .i64 n, .string g, .slice A l c] t → wgt t ≤ 1048576 →
  Calls Tryd.prog 64 #[.agg #[.int .i64 k, .int .i64 n, .string g, .slice A l c], .int .i64 (d : Int)] W fun e w' => e = .returned (.bool (form d t)) ∧ Below W.heap.size W w'
set_option maxHeartbeats 4000000 in
set_option maxRecDepth 20000 in
theorem specForm (d : Nat) (hd : (d : Int) ≤ 1000) : FormQ d := by
  induction d with
  | zero =>
    intro k n g A l c t W h hw
    have hf : form 0 t = false := by unfold form; rfl
    rw [hf]
    go_enter Tryd.func64, Tryd.ntmps64
    go_wp2_with fail
    go_ret
    exact ⟨rfl, by go_grown⟩
  | succ d ih =>
    intro k n g A l c t W h hw
    have IH := Lib.hid (ih (by omega))
    obtain ⟨q1, q2, q3, q4, h5, h6, h7, dd, hk⟩ := h.parts
    have hgs : (g.size : Int) ≤ 4611686018427387904 := by have := wgt_eq t; rw [q3, mkB_size]; omega
    have hsd : g.data.toList = t.txt := by rw [q3, mkB_data]
    have hgl : g.data.toList = g.toList := (ByteArray.toList_eq g).symm
    have HFS : Hid (form (d + 1) t = (okK k n g.data.toList && (l == kidsN k) && t.kids.all (form d))) := by unfold Hid; rw [form_step, hsd, q1, q2, q4]
    have HK := Lib.hid hk
    have HL := Lib.hid q4
    have HW := Lib.hid hw
    have HN := Lib.hid (fun w => specName g w hgs)
    have HO := Lib.hid (fun w => specOp g w)
    have HT := Lib.hid (fun w => specType g w)
    obtain ⟨D, hD⟩ : ∃ D : Int, ((d + 1 : Nat) : Int) = D := ⟨_, rfl⟩
    have hd1 : (1 : Int) ≤ D := by omega
    have hd2 : D ≤ 1001 := by omega
    have hdd : D - 1 = (d : Int) := by omega
    rw [hD]
    have hlm : (l : Int) ≤ 9223372036854775807 := by unfold maxLen at h6; rw [q4]; omega
    rw [hgl] at HFS
    simp only [hgl] at HN HO HT
    clear ih h hw hgl hD q1 q2 q3 q4 h5 h6 h7 hk hgs hsd
    go_enter Tryd.func64, Tryd.ntmps64
    go_upto_block 0 with (fail)
    go_cut [5, 6] (fun s5 s6 wc => s5 = .bool (okK k n g.toList) ∧ s6 = .int .i64 (kidsN k : Int) ∧ wc = W.alloc (.cells #[.int .i64 k, .int .i64 n, .string g, .slice A l c] 25))
    case first =>
      by_cases k1 : k = 1
      · subst k1
        go_wp2_with fail
        all_goals (go_meet; refine ⟨?_, ?_, rfl⟩ <;> simp_all [okK, kidsN] <;> (intros; omega))
      · by_cases k2 : k = 2
        · subst k2
          by_cases hn : n = 0
          · subst hn
            go_wp2_with (first | (go_at_call 94; refine (HN.out _).mono ?_; rintro e w1 ⟨rfl, rfl⟩))
            all_goals (go_meet; refine ⟨?_, ?_, rfl⟩ <;> simp_all [okK, kidsN])
          · go_wp2_with fail
            all_goals (go_meet; refine ⟨?_, ?_, rfl⟩ <;> simp_all [okK, kidsN])
        · by_cases k3 : k = 3
          · subst k3
            by_cases hn : n = 0
            · subst hn
              go_wp2_with (first | (go_at_call 95; refine (HO.out _).mono ?_; rintro e w1 ⟨rfl, rfl⟩))
              all_goals (go_meet; refine ⟨?_, ?_, rfl⟩ <;> simp_all [okK, kidsN, opOf_isOp])
            · go_wp2_with fail
              all_goals (go_meet; refine ⟨?_, ?_, rfl⟩ <;> simp_all [okK, kidsN, opOf_isOp])
          · by_cases k4 : k = 4
            · subst k4
              by_cases hn : n = 0
              · subst hn
                go_wp2_with (first | (go_at_call 67; refine (HT.out _).mono ?_; rintro e w1 ⟨rfl, rfl⟩))
                all_goals (go_meet; refine ⟨?_, ?_, rfl⟩ <;> simp_all [okK, kidsN])
              · go_wp2_with fail
                all_goals (go_meet; refine ⟨?_, ?_, rfl⟩ <;> simp_all [okK, kidsN])
            · go_wp2_with fail
              all_goals (go_meet; refine ⟨?_, ?_, rfl⟩ <;> simp_all [okK, kidsN])
    case rest =>
      obtain ⟨rfl, rfl, rfl⟩ := hcut
      have hA : Blk (W.alloc (.cells #[.int .i64 k, .int .i64 n, .string g, .slice A l c] 25)) W.heap.size 25 [.int .i64 k, .int .i64 n, .string g, .slice A l c] := Blk.alloc_ _ _ _
      have hb0 : Below W.heap.size W (W.alloc (.cells #[.int .i64 k, .int .i64 n, .string g, .slice A l c] 25)) := by go_grown
      generalize W.alloc (.cells #[.int .i64 k, .int .i64 n, .string g, .slice A l c] 25) = w0 at *
      have HA := Lib.hid hA
      have HB0 := Lib.hid hb0
      have a3 := hA.cell 3
      simp only [List.getElem?_cons_zero, List.getElem?_cons_succ] at a3
      clear hA hb0
      generalize okK k n g.toList = ok at *
      generalize kidsN k = m at *
      cases ok with
      | false =>
        have HF : Hid (form (d + 1) t = false) := by unfold Hid; rw [HFS.out]; rfl
        clear HFS
        go_wp2_with fail
        go_ret
        exact ⟨by rw [HF.out]; rfl, HB0.out⟩
      | true =>
        by_cases hlm2 : l = m
        · subst hlm2
          have HF : Hid (form (d + 1) t = t.kids.all (form d)) := by unfold Hid; rw [HFS.out]; simp
          have hll : ((l : Int) != (l : Int)) = false := by simp
          clear HFS
          go_wp2_with fail
          go_loopw [7] (fun v wr => ∃ j : Nat, v = .int .i64 (j : Int) ∧ j ≤ l ∧ Hid ((t.kids.take j).all (form d) = true) ∧ Below w0.heap.size w0 wr) (fun v _ => l - (intOf v).toNat)
          case atStart => exact ⟨0, rfl, Nat.zero_le _, rfl, Below.refl _ _⟩
          case round =>
            obtain ⟨j, rfl, hj, hall, hbw⟩ := hrel
            have HBW := Lib.hid hbw
            have HBw : Hid (Below W.heap.size W wr) := HB0.out.trans (hbw.mono HB0.out.size)
            have c3 := (HA.out.below hbw HA.out.lt).cell 3
            simp only [List.getElem?_cons_zero, List.getElem?_cons_succ] at c3
            clear hbw a3
            by_cases hlt : j < l
            · have hx : j < t.kids.length := by rw [← HL.out]; exact hlt
              obtain ⟨b, o, k', n', g', A', l', c', rfl, hb, hev, e0, e1, e2, e3⟩ := IsEV.kid (HK.out.below HBw.out) hx
              have HEV := Lib.hid hev
              have HWK : Hid (wgt t.kids[j] ≤ 1048576) := by have := HW.out; have h1 := wgt_eq t; have h2 := wgts_mem (List.getElem_mem hx); unfold Hid; omega
              have HNX := Lib.hid (all_take_next (p := form d) hx)
              have HALL : Hid (form d t.kids[j] = false → t.kids.all (form d) = false) := fun e => by
                rw [List.all_eq_false]; exact ⟨_, List.getElem_mem hx, by simp [e]⟩
              have h0 : (0 : Int) ≤ (j : Int) := by omega
              have h1 : (j : Int) < (l : Int) := by omega
              generalize t.kids[j] = x at HEV HWK HNX HALL
              clear hev hx
              go_wp2_with fail
              refine (IH.out k' n' g' A' l' c' x wr HEV.out HWK.out).mono ?_
              cases hf : form d x with
              | true =>
                have HT : Hid ((t.kids.take (j + 1)).all (form d) = true) := by unfold Hid; rw [HNX.out, hall.out, hf]; rfl
                rintro e w1 ⟨rfl, hb1⟩
                have HB1 : Hid (Below w0.heap.size w0 w1) := HBW.out.trans (hb1.mono HBW.out.size)
                clear hb1 hf e0 e1 e2 e3 c3
                go_wp2_with fail
                go_roundw
                case rel => exact ⟨j + 1, by go_num, by omega, HT, HB1.out⟩
                case measure => simp [intOf]; omega
              | false =>
                have HF2 : Hid (form (d + 1) t = false) := by unfold Hid; rw [HF.out]; exact HALL.out hf
                rintro e w1 ⟨rfl, hb1⟩
                have HB1 : Hid (Below W.heap.size W w1) := HBw.out.trans (hb1.mono HBw.out.size)
                clear hb1 hf e0 e1 e2 e3 c3
                go_wp2_with fail
                go_ret
                exact ⟨by rw [HF2.out]; rfl, HB1.out⟩
            · obtain rfl : j = l := by omega
              have HF2 : Hid (form (d + 1) t = true) := by
                unfold Hid; rw [HF.out]
                have := hall.out
                rw [List.take_of_length_le (by rw [← HL.out]; omega)] at this
                exact this
              go_wp2_with fail
              go_ret
              exact ⟨by rw [HF2.out]; rfl, HBw.out⟩
        · have HF : Hid (form (d + 1) t = false) := by unfold Hid; rw [HFS.out]; simp [hlm2]
          have hll : ((l : Int) != (m : Int)) = true := by rw [bne_iff_ne]; omega
          clear HFS
          go_wp2_with fail
          go_ret
          exact ⟨by rw [HF.out]; rfl, HB0.out⟩
end Go.Proofs.YtfjmjlpobbjjdaaDoor

namespace Ilp
def many : Nat → Ex → Nat
  | 0, _ => 1
  | d + 1, .mk _ _ _ ks => 1 + (ks.map (many d)).sum
theorem many_step (d : Nat) (t : Ex) : many (d + 1) t = 1 + (t.kids.map (many d)).sum := by cases t; rfl
theorem many_le : ∀ (d : Nat) (t : Ex), many d t ≤ wgt t + 1 := by
  intro d
  induction d with
  | zero => intro t; unfold many; omega
  | succ d ih =>
    intro t
    rw [many_step, wgt_eq]
    have : ∀ ks : List Ex, (ks.map (many d)).sum ≤ wgts ks := by
      intro ks
      induction ks with
      | nil => simp [wgts]
      | cons x ks ihk => have := ih x; simp [wgts]; omega
    have := this t.kids
    omega
theorem many_size : ∀ (d : Nat) (t : Ex) (u : Tm), ofEx d t = some u → many d t = u.size := by
  intro d
  induction d with
  | zero => intro t u h; simp [ofEx] at h
  | succ d ih =>
    intro e t h
    obtain ⟨k, n, s, ks⟩ := e
    unfold ofEx at h
    split at h
    · split at h
      · split at h
        · injection h with h; subst h; simp [many, Tm.size]
        · cases h
      · cases h
    split at h
    · split at h
      · split at h
        · injection h with h; subst h; simp [many, Tm.size]
        · cases h
      · cases h
    split at h
    · split at h
      · split at h
        · split at h
          · rename_i x y hx hy
            injection h with h; subst h
            simp [many, Tm.size, ih _ _ hx, ih _ _ hy]; omega
          · cases h
        · cases h
      · cases h
    split at h
    · split at h
      · split at h
        · split at h
          · rename_i x hx
            injection h with h; subst h
            simp [many, Tm.size, ih _ _ hx]
          · cases h
        · cases h
      · cases h
    cases h
theorem exprOk_form (t : Ex) : exprOk t = (form 5 t && decide (many 5 t ≤ 12)) := by
  unfold exprOk exTm
  rw [form_ofEx]
  cases h : ofEx 5 t with
  | none => rfl
  | some u =>
    rw [many_size 5 t u h]
    by_cases h2 : u.size ≤ 12 <;> simp [h2]
theorem sum_take_next {f : Ex → Nat} {ts : List Ex} {j : Nat} (h : j < ts.length) : ((ts.take (j + 1)).map f).sum = ((ts.take j).map f).sum + f ts[j] := by
  rw [List.take_succ_eq_append_getElem h]; simp only [List.map_append, List.sum_append, List.map_cons, List.map_nil, List.sum_cons, List.sum_nil, Nat.add_zero]
end Ilp
namespace Go.Proofs.YtfjmjlpobbjjdaaDoor
open Go.RowKit Ilp
set_option linter.unusedVariables false

def ManyQ (d : Nat) : Prop := ∀ (D : Int) (k n : Int) (g : ByteArray) (A : Option Addr) (l c : Nat) (t : Ex) (W : World), IsEV W [.int .i64 k, .int .i64 n, .string g, .slice A l c] t → wgt t ≤ 1048576 → form d t = true → (d : Int) ≤ D → D ≤ 1000 →
  Calls Tryd.prog 65 #[.agg #[.int .i64 k, .int .i64 n, .string g, .slice A l c], .int .i64 D] W fun e w' => e = .returned (.int .i64 (many d t : Int)) ∧ Below W.heap.size W w'
set_option maxHeartbeats 4000000 in
set_option maxRecDepth 20000 in
theorem specMany (d : Nat) : ManyQ d := by
  induction d with
  | zero => intro D k n g A l c t W h hw hf; unfold form at hf; cases hf
  | succ d ih =>
    intro D k n g A l c t W h hw hf hD hD2
    have IH := Lib.hid ih
    obtain ⟨q1, q2, q3, q4, h5, h6, h7, dd, hk⟩ := h.parts
    rw [form_step] at hf
    simp only [Bool.and_eq_true] at hf
    have hkf : Hid (∀ x ∈ t.kids, form d x = true) := fun x hx => List.all_eq_true.1 hf.2 x hx
    have HK := Lib.hid hk
    have HL := Lib.hid q4
    have HW := Lib.hid hw
    have HM := Lib.hid (many_step d t)
    have HML := Lib.hid (many_le (d + 1) t)
    have hd1 : (0 : Int) < D := by omega
    have hd1b : decide ((0 : Int) < D) = true := decide_eq_true hd1
    have hD3 : Hid ((d : Int) ≤ D - 1) := by unfold Hid; omega
    have hlm : (l : Int) ≤ 9223372036854775807 := by unfold maxLen at h6; rw [q4]; omega
    clear ih h hw hf q1 q2 q3 q4 h5 h6 h7 hk hD
    have hA : Blk (W.alloc (.cells #[.int .i64 k, .int .i64 n, .string g, .slice A l c] 25)) W.heap.size 25 [.int .i64 k, .int .i64 n, .string g, .slice A l c] := Blk.alloc_ _ _ _
    have hb0 : Below W.heap.size W (W.alloc (.cells #[.int .i64 k, .int .i64 n, .string g, .slice A l c] 25)) := by go_grown
    have HA := Lib.hid hA
    have HB0 := Lib.hid hb0
    clear hA hb0
    go_enter Tryd.func65, Tryd.ntmps65
    go_wp2_with fail
    generalize W.alloc (.cells #[.int .i64 k, .int .i64 n, .string g, .slice A l c] 25) = w0 at *
    go_loopw [5, 6] (fun u v wr => ∃ (j : Nat) (s : Int), u = .int .i64 s ∧ v = .int .i64 (j : Int) ∧ j ≤ l ∧ Hid (s = 1 + (((t.kids.take j).map (many d)).sum : Nat)) ∧ Below w0.heap.size w0 wr) (fun _ v _ => l - (intOf v).toNat)
    case atStart => exact ⟨0, 1, rfl, rfl, Nat.zero_le _, by simp [Hid], Below.refl _ _⟩
    case round =>
      obtain ⟨j, s, rfl, rfl, hj, hs, hbw⟩ := hrel
      have HBW := Lib.hid hbw
      have HBw : Hid (Below W.heap.size W wr) := HB0.out.trans (hbw.mono HB0.out.size)
      have c3 := (HA.out.below hbw HA.out.lt).cell 3
      simp only [List.getElem?_cons_zero, List.getElem?_cons_succ] at c3
      clear hbw
      by_cases hlt : j < l
      · have hx : j < t.kids.length := by rw [← HL.out]; exact hlt
        obtain ⟨b, o, k', n', g', A', l', c', rfl, hb, hev, e0, e1, e2, e3⟩ := IsEV.kid (HK.out.below HBw.out) hx
        have HEV := Lib.hid hev
        have HWK : Hid (wgt t.kids[j] ≤ 1048576) := by have := HW.out; have h1 := wgt_eq t; have h2 := wgts_mem (List.getElem_mem hx); unfold Hid; omega
        have HFK : Hid (form d t.kids[j] = true) := hkf.out _ (List.getElem_mem hx)
        have hnx := sum_take_next (f := many d) hx
        have hle : ((t.kids.take (j + 1)).map (many d)).sum ≤ 1048576 := by
          have h1 : ∀ ks : List Ex, (ks.map (many d)).sum ≤ wgts ks := by
            intro ks
            induction ks with
            | nil => simp [wgts]
            | cons x ks ihk => have := many_le d x; simp [wgts]; omega
          have h2 := h1 (t.kids.take (j + 1))
          have h3 : wgts (t.kids.take (j + 1)) ≤ wgts t.kids := by
            have := wgts_app (t.kids.take (j + 1)) (t.kids.drop (j + 1))
            rw [List.take_append_drop] at this; omega
          have h4 := wgt_eq t
          have := HW.out
          omega
        have HS : Hid (s + (many d t.kids[j] : Int) = 1 + (((t.kids.take (j + 1)).map (many d)).sum : Nat)) := by unfold Hid; rw [hs.out, hnx]; omega
        have hs0 : 0 ≤ s := by rw [hs.out]; omega
        have hs1 : s + (many d t.kids[j] : Int) ≤ 1048577 := by rw [HS.out]; omega
        have h0 : (0 : Int) ≤ (j : Int) := by omega
        have h1 : (j : Int) < (l : Int) := by omega
        clear hnx hle
        generalize t.kids[j] = x at HEV HWK HFK HS hs1
        clear hev hx
        go_wp2_with fail
        refine (IH.out (D - 1) k' n' g' A' l' c' x wr HEV.out HWK.out HFK.out hD3.out (by omega)).mono ?_
        generalize many d x = mx at *
        rintro e w1 ⟨rfl, hb1⟩
        have HB1 : Hid (Below w0.heap.size w0 w1) := HBW.out.trans (hb1.mono HBW.out.size)
        have hmx : (0 : Int) ≤ (mx : Int) := by omega
        clear hb1 e0 e1 e2 e3 c3
        go_wp2_with fail
        go_roundw
        case rel => exact ⟨j + 1, s + (mx : Int), by go_num, by go_num, by omega, HS, HB1.out⟩
        case measure => simp [intOf]; omega
      · obtain rfl : j = l := by omega
        have HF2 : Hid (s = (many (d + 1) t : Int)) := by
          unfold Hid; rw [HM.out, hs.out, List.take_of_length_le (by rw [← HL.out]; omega)]; omega
        go_wp2_with fail
        go_ret
        exact ⟨by rw [← HF2.out]; rfl, HBw.out⟩

set_option maxHeartbeats 1000000 in
set_option maxRecDepth 20000 in
theorem specExprOk (k n : Int) (g : ByteArray) (A : Option Addr) (l c : Nat) (t : Ex) (W : World) (h : IsEV W [.int .i64 k, .int .i64 n, .string g, .slice A l c] t) (hw : wgt t ≤ 1048576) :
    Calls Tryd.prog 33 #[.agg #[.int .i64 k, .int .i64 n, .string g, .slice A l c]] W fun e w' => e = .returned (.bool (exprOk t)) ∧ Below W.heap.size W w' := by
  have CF := fun W' (hb : Below W.heap.size W W') => specForm 5 (by omega) k n g A l c t W' (h.below hb) hw
  have HCF := Lib.hid CF
  have HE := Lib.hid (exprOk_form t)
  clear CF
  have hA : Blk (W.alloc (.cells #[.int .i64 k, .int .i64 n, .string g, .slice A l c] 25)) W.heap.size 25 [.int .i64 k, .int .i64 n, .string g, .slice A l c] := Blk.alloc_ _ _ _
  have hb0 : Below W.heap.size W (W.alloc (.cells #[.int .i64 k, .int .i64 n, .string g, .slice A l c] 25)) := by go_grown
  have HA := Lib.hid hA
  have HB0 := Lib.hid hb0
  clear hA hb0
  cases hf : form 5 t with
  | false =>
    have HF : Hid (exprOk t = false) := by unfold Hid; rw [HE.out, hf]; rfl
    rw [hf] at HCF
    clear h
    go_enter Tryd.func33, Tryd.ntmps33
    go_wp2_with fail
    refine (HCF.out _ HB0.out).mono ?_
    rintro e w1 ⟨rfl, hb1⟩
    have HB1 : Hid (Below W.heap.size W w1) := HB0.out.trans (hb1.mono HB0.out.size)
    clear hb1
    go_wp2_with fail
    go_ret
    exact ⟨by rw [HF.out]; rfl, HB1.out⟩
  | true =>
    have HF : Hid (exprOk t = decide (many 5 t ≤ 12)) := by unfold Hid; rw [HE.out, hf]; rfl
    have CM := fun W' (hb : Below W.heap.size W W') => specMany 5 5 k n g A l c t W' (h.below hb) hw hf (by omega) (by omega)
    rw [hf] at HCF
    have hml := many_le 5 t
    generalize many 5 t = mm at *
    have HCM := Lib.hid CM
    clear h CM hf
    go_enter Tryd.func33, Tryd.ntmps33
    go_wp2_with fail
    generalize W.alloc (.cells #[.int .i64 k, .int .i64 n, .string g, .slice A l c] 25) = w0 at *
    refine (HCF.out w0 HB0.out).mono ?_
    rintro e w1 ⟨rfl, hb1⟩
    have HB1 : Hid (Below W.heap.size W w1) := HB0.out.trans (hb1.mono HB0.out.size)
    have hA1 := HA.out.below hb1 HA.out.lt
    have a0 := hA1.cell 0
    have a1 := hA1.cell 1
    have a2 := hA1.cell 2
    have a3 := hA1.cell 3
    simp only [List.getElem?_cons_zero, List.getElem?_cons_succ] at a0 a1 a2 a3
    clear hb1 hA1
    go_wp2_with fail
    refine (HCM.out w1 HB1.out).mono ?_
    rintro e w2 ⟨rfl, hb2⟩
    have HB2 : Hid (Below W.heap.size W w2) := HB1.out.trans (hb2.mono HB1.out.size)
    clear hb2
    go_wp2_with fail
    go_ret
    refine ⟨?_, HB2.out⟩
    rw [HF.out]
    simp
    omega
end Go.Proofs.YtfjmjlpobbjjdaaDoor
