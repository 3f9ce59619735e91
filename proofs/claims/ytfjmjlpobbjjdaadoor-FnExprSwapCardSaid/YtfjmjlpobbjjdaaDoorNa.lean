/- Walks over names, types and marks. -/
import Derived.Test.YtfjmjlpobbjjdaaDoorIw
import Derived.Test.YtfjmjlpobbjjdaaDoorP4
namespace Go.Proofs.YtfjmjlpobbjjdaaDoor
open Go.RowKit Ilp
set_option linter.unusedVariables false
set_option linter.unusedSimpArgs false

set_option maxRecDepth 20000 in
theorem specType (s : ByteArray) (w : World) :
    Calls Tryd.prog 67 #[.string s] w fun e w' => e = .returned (.bool (isType s.data.toList)) ∧ w = w' := by
  rw [← ByteArray.toList_eq]
  go_enter Tryd.func67, Tryd.ntmps67
  go_wp2_with fail
  all_goals (go_ret; refine ⟨?_, rfl⟩; simp_all [isType, wInt, wBool])
set_option maxRecDepth 20000 in
theorem implType (s : ByteArray) (w : World) :
    Calls Tryd.prog 52 #[.string s] w fun e w' => e = .returned (.bool (isType s.data.toList)) ∧ w = w' := by
  rw [← ByteArray.toList_eq]
  go_enter Tryd.func52, Tryd.ntmps52
  go_wp2_with fail
  all_goals (go_ret; refine ⟨?_, rfl⟩; simp_all [isType, wInt, wBool])

def isOp (s : List UInt8) : Bool := s == [43] || s == [45] || s == [42] || s == [60]
theorem opOf_isOp (s : List UInt8) : (opOf s).isSome = isOp s := by
  unfold opOf isOp
  by_cases h1 : s = [43]
  · simp [h1]
  · by_cases h2 : s = [45]
    · simp [h2]
    · by_cases h3 : s = [42]
      · simp [h3]
      · by_cases h4 : s = [60]
        · simp [h4]
        · simp [h1, h2, h3, h4]
set_option maxRecDepth 20000 in
theorem specOp (s : ByteArray) (w : World) :
    Calls Tryd.prog 95 #[.string s] w fun e w' => e = .returned (.bool (isOp s.data.toList)) ∧ w = w' := by
  rw [← ByteArray.toList_eq]
  go_enter Tryd.func95, Tryd.ntmps95
  go_wp2_with fail
  all_goals (go_ret; refine ⟨?_, rfl⟩; simp_all [isType, isOp, wInt, wBool])
def tight (s : List UInt8) : Nat := if s = [60] then 1 else if s = [43] then 2 else if s = [45] then 2 else if s = [42] then 3 else 0
theorem tight_op (s : List UInt8) : (0 < tight s) = (isOp s = true) := by
  unfold tight isOp
  by_cases h1 : s = [43]
  · simp [h1]
  · by_cases h2 : s = [45]
    · simp [h2]
    · by_cases h3 : s = [42]
      · simp [h3]
      · by_cases h4 : s = [60]
        · simp [h4]
        · simp [h1, h2, h3, h4]
set_option maxRecDepth 20000 in
theorem implTight (s : ByteArray) (w : World) :
    Calls Tryd.prog 81 #[.string s] w fun e w' => e = .returned (.int .i64 (tight s.data.toList : Int)) ∧ w = w' := by
  rw [← ByteArray.toList_eq]
  unfold tight
  by_cases h1 : s.toList = [60]
  · rw [if_pos h1]
    go_enter Tryd.func81, Tryd.ntmps81
    go_wp2_with fail
    all_goals (go_ret; refine ⟨?_, rfl⟩; simp_all)
  · rw [if_neg h1]
    by_cases h2 : s.toList = [43]
    · rw [if_pos h2]
      go_enter Tryd.func81, Tryd.ntmps81
      go_wp2_with fail
      all_goals (go_ret; refine ⟨?_, rfl⟩; simp_all)
    · rw [if_neg h2]
      by_cases h3 : s.toList = [45]
      · rw [if_pos h3]
        go_enter Tryd.func81, Tryd.ntmps81
        go_wp2_with fail
        all_goals (go_ret; refine ⟨?_, rfl⟩; simp_all)
      · rw [if_neg h3]
        by_cases h4 : s.toList = [42]
        · rw [if_pos h4]
          go_enter Tryd.func81, Tryd.ntmps81
          go_wp2_with fail
          all_goals (go_ret; refine ⟨?_, rfl⟩; simp_all)
        · rw [if_neg h4]
          go_enter Tryd.func81, Tryd.ntmps81
          go_wp2_with fail
          all_goals (go_ret; refine ⟨?_, rfl⟩; simp_all)
def held (l : List UInt8) : Bool := l == wLet || l == wSay || l == wWhen || l == wAs || l == wPrint || l == wIf || isType l
theorem held_own (l : List UInt8) : held l = Ilp.ownWords.contains l := by
  unfold held isType Ilp.ownWords
  simp only [List.contains_cons, List.contains_nil, Bool.or_false, Bool.or_assoc]
set_option maxRecDepth 20000 in
theorem specHeld (s : ByteArray) (w : World) :
    Calls Tryd.prog 110 #[.string s] w fun e w' => e = .returned (.bool (held s.data.toList)) ∧ w = w' := by
  have HC := Lib.hid (specType s w)
  have e0 : held s.data.toList = (s.toList == [108, 101, 116] || s.toList == [115, 97, 121] || s.toList == [119, 104, 101, 110] || s.toList == [97, 115] || s.toList == [112, 114, 105, 110, 116] || s.toList == [105, 102] || isType s.data.toList) := by
    rw [ByteArray.toList_eq]; rfl
  rw [e0]
  generalize isType s.data.toList = ty at *
  clear e0
  by_cases h : (s.toList == [108, 101, 116] || s.toList == [115, 97, 121] || s.toList == [119, 104, 101, 110] || s.toList == [97, 115] || s.toList == [112, 114, 105, 110, 116] || s.toList == [105, 102]) = true
  · rw [h]
    have H : Hid ((s.toList == [108, 101, 116] || s.toList == [115, 97, 121] || s.toList == [119, 104, 101, 110] || s.toList == [97, 115] || s.toList == [112, 114, 105, 110, 116] || s.toList == [105, 102]) = true) := h
    simp only [Bool.or_eq_true] at h
    rcases h with ((((h | h) | h) | h) | h) | h
    all_goals
      rw [beq_iff_eq] at h
      go_enter Tryd.func110, Tryd.ntmps110
      go_wp2_with fail
      all_goals (go_ret; exact ⟨rfl, rfl⟩)
  · have h' := Bool.eq_false_iff.2 h
    clear h
    rw [h']
    simp only [Bool.or_eq_false_iff, beq_eq_false_iff_ne] at h'
    obtain ⟨⟨⟨⟨⟨h1, h2⟩, h3⟩, h4⟩, h5⟩, h6⟩ := h'
    go_enter Tryd.func110, Tryd.ntmps110
    go_wp2_with fail
    refine HC.out.mono ?_
    rintro e w1 ⟨rfl, rfl⟩
    go_wp2_with fail
    all_goals (go_ret; refine ⟨?_, rfl⟩; simp_all)
theorem isName_held (l : List UInt8) : isName l = (tokWord l && !held l) := by rw [held_own]; rfl
set_option maxRecDepth 20000 in
theorem specName (s : ByteArray) (w : World) (hs : (s.size : Int) ≤ 4611686018427387904) :
    Calls Tryd.prog 94 #[.string s] w fun e w' => e = .returned (.bool (isName s.data.toList)) ∧ w = w' := by
  have HW := Lib.hid (specWord s w hs)
  have HH := Lib.hid (specHeld s w)
  rw [isName_held]
  generalize tokWord s.data.toList = tw at *
  generalize held s.data.toList = hd at *
  cases tw with
  | false =>
    go_enter Tryd.func94, Tryd.ntmps94
    go_wp2_with fail
    refine HW.out.mono ?_
    rintro e w1 ⟨rfl, rfl⟩
    go_wp2_with fail
    go_ret
    exact ⟨rfl, rfl⟩
  | true =>
    go_enter Tryd.func94, Tryd.ntmps94
    go_wp2_with fail
    refine HW.out.mono ?_
    rintro e w1 ⟨rfl, rfl⟩
    go_wp2_with fail
    refine HH.out.mono ?_
    rintro e w2 ⟨rfl, rfl⟩
    go_wp2_with fail
    go_ret
    exact ⟨by simp, rfl⟩

theorem own_mem (s : ByteArray) : Lib.containsS (ownB.take 8) s = Ilp.ownWords.contains s.data.toList := by
  have hL : Ilp.ownWords = ownL := rfl
  rw [Bool.eq_iff_iff, Lib.containsS_iff, hL]
  have h8 : ownB.take 8 = ownB := rfl
  rw [h8, List.contains_iff_mem]
  unfold ownB
  rw [List.mem_map]
  constructor
  · rintro ⟨l, hl, rfl⟩; simpa using hl
  · intro h; exact ⟨_, h, by apply ByteArray.ext; simp⟩
set_option maxHeartbeats 1000000 in
set_option maxRecDepth 20000 in
theorem implName (s : ByteArray) (w : World) (hT : Tabs w) (hs : (s.size : Int) ≤ 1048576) :
    Calls Tryd.prog 96 #[.string s] w fun e w' => e = .returned (.bool (isName s.data.toList)) ∧ Below w.heap.size w w' := by
  have HW : Hid (Calls Tryd.prog 61 #[.int .i64 1, .string s] w fun e w' => e = .returned (.bool (tokWord s.data.toList)) ∧ Below w.heap.size w w') := implTokOk 1 s w hT hs
  obtain ⟨b, o, c, hv, hc, hx⟩ := hT.own
  have hg := World.var?_cell (show Tryd.prog.globalNamed ownName = some 0 by kernel_rfl) hv 0
  have hg' : w.cell? ⟨0, 0, none⟩ = some (.slice (some ⟨b, o, none⟩) 8 c) := hg
  have hgl := cell_lt hg'
  have CC := fun W (h : Below w.heap.size w W) => Tryd.slices_Contains_string b o 8 c ownB s W (by decide) (by omega) (fun j hj => by
    have h1 : ownB[j]? = some (ownB.getD j ByteArray.empty) := by rw [List.getD_eq_getElem?_getD, List.getElem?_eq_getElem hj]; rfl
    have h2 := hx j _ h1
    exact (h.cell (cell_lt h2)).trans h2)
  rw [own_mem] at CC
  have HCC := Lib.hid CC
  have HG := Lib.hid hg'
  have HGL := Lib.hid hgl
  unfold isName
  clear CC hv hx hg hg' hgl
  generalize tokWord s.data.toList = tw at *
  generalize Ilp.ownWords.contains s.data.toList = hd at *
  cases tw with
  | false =>
    go_enter Tryd.func96, Tryd.ntmps96
    go_wp2_with fail
    refine HW.out.mono ?_
    rintro e w1 ⟨rfl, hb1⟩
    have HB1 := Lib.hid hb1
    clear hb1
    go_wp2_with fail
    go_ret
    exact ⟨rfl, HB1.out⟩
  | true =>
    go_enter Tryd.func96, Tryd.ntmps96
    go_wp2_with fail
    refine HW.out.mono ?_
    rintro e w1 ⟨rfl, hb1⟩
    have HB1 := Lib.hid hb1
    have c1 := (hb1.cell (p := ⟨0, 0, none⟩) HGL.out).trans HG.out
    clear hb1
    go_wp2_with fail
    refine (HCC.out w1 HB1.out).mono ?_
    rintro e w2 ⟨rfl, rfl⟩
    go_wp2_with fail
    go_ret
    exact ⟨by simp, HB1.out⟩
end Go.Proofs.YtfjmjlpobbjjdaaDoor
