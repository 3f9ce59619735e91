/- Walks of the reference: kinds of words, the words of a line. -/
import Derived.Test.YtlhmebdljamgkaaDoorTw
import Derived.Test.YtlhmebdljamgkaaDoorTkS
import Derived.Test.YtlhmebdljamgkaaDoorMn
import Derived.Lib.QuietBelow
namespace Ilp
/-- The words so far, up to byte k. -/
def LineInv (L : List UInt8) (k : Nat) (ts : List T) : Prop := words L = (toks (L.length + 1 - k) k (L.drop k)).map (ts ++ ·)
theorem lineInv_start (L : List UInt8) : LineInv L 0 [] := by
  unfold LineInv words; simp
theorem lineInv_space {L : List UInt8} {k : Nat} {ts : List T} (h : LineInv L k ts) (hk : k < L.length) (hc : L[k] = 32) : LineInv L (k + 1) ts := by
  unfold LineInv at h ⊢
  rw [h, List.drop_eq_getElem_cons hk, hc, show L.length + 1 - k = (L.length + 1 - (k + 1)) + 1 by omega, toks_space]
theorem drop_ne {L : List UInt8} {k : Nat} (hk : k < L.length) : L.drop k ≠ [] := by
  intro e; have := List.drop_eq_nil_iff.1 e; omega
theorem head_drop {L : List UInt8} {k : Nat} (hk : k < L.length) (hc : L[k] ≠ 32) : (L.drop k).head? ≠ some 32 := by
  rw [List.drop_eq_getElem_cons hk, List.head?_cons]; intro e; injection e with e; exact hc e
theorem lineInv_bad {L : List UInt8} {k : Nat} {ts : List T} (h : LineInv L k ts) (hk : k < L.length) (hc : L[k] ≠ 32) (hw : tokKind ((L.drop k).take (wlen (L.drop k))) = 0) : words L = none := by
  unfold LineInv at h
  rw [h, show L.length + 1 - k = (L.length - k) + 1 by omega, toks_bad (drop_ne hk) (head_drop hk hc) hw]; rfl
theorem lineInv_word {L : List UInt8} {k : Nat} {ts : List T} (h : LineInv L k ts) (hk : k < L.length) (hc : L[k] ≠ 32) (hw : tokKind ((L.drop k).take (wlen (L.drop k))) ≠ 0) :
    LineInv L (k + wlen (L.drop k)) (ts ++ [⟨tokKind ((L.drop k).take (wlen (L.drop k))), (L.drop k).take (wlen (L.drop k)), k⟩]) := by
  have hp := wlen_pos (drop_ne hk)
  rw [List.length_drop] at hp
  unfold LineInv at h ⊢
  rw [h, show L.length + 1 - k = (L.length - k) + 1 by omega, toks_word (drop_ne hk) (head_drop hk hc) hw, List.drop_drop,
    toks_fuel (L.length - k) (L.length + 1 - (k + wlen (L.drop k))) _ _ (by rw [List.length_drop]; omega) (by rw [List.length_drop]; omega)]
  cases toks (L.length + 1 - (k + wlen (L.drop k))) (k + wlen (L.drop k)) (L.drop (k + wlen (L.drop k))) with
  | none => rfl
  | some r => simp
theorem lineInv_end {L : List UInt8} {k : Nat} {ts : List T} (h : LineInv L k ts) (hk : L.length ≤ k) (hk2 : k ≤ L.length) : words L = some ts := by
  unfold LineInv at h
  rw [h, List.drop_eq_nil_of_le hk, show L.length + 1 - k = 0 + 1 by omega, toks_nil]; simp
def cls (c : UInt8) : Nat := if isLet c = true then 1 else if isDig c = true then 2 else if isMark c = true then 3 else if c = 32 then 4 else 0
theorem runOf_at {p : UInt8 → Bool} {L : List UInt8} {k : Nat} (h : k < L.length) : runOf p (L.drop k) = if p L[k] = true then 1 + runOf p (L.drop (k + 1)) else 0 := by
  unfold runOf
  rw [List.drop_eq_getElem_cons h, List.takeWhile_cons]
  cases p L[k] <;> simp <;> omega
theorem wlen_at {L : List UInt8} {k : Nat} (h : k < L.length) : wlen (L.drop k) = if isLet L[k] = true then 1 + runOf isLet (L.drop (k + 1)) else if isDig L[k] = true then 1 + runOf isDig (L.drop (k + 1)) else 1 := by
  rw [List.drop_eq_getElem_cons h]; rfl
theorem runOf_nil (p : UInt8 → Bool) {L : List UInt8} {k : Nat} (h : L.length ≤ k) : runOf p (L.drop k) = 0 := by rw [List.drop_eq_nil_of_le h]; rfl
end Ilp
namespace Go.Proofs.YtlhmebdljamgkaaDoor
open Go.RowKit Ilp
set_option linter.unusedVariables false

theorem flip_same {P : Program} {f : FuncId} {args : Array Value} {w : World} {v : Value} (h : Calls P f args w fun e w' => e = .returned v ∧ w = w') : Calls P f args w fun e w' => e = .returned v ∧ w' = w := h.mono fun _ _ ⟨a, b⟩ => ⟨a, b.symm⟩
def marksB : ByteArray := ⟨#[43, 45, 42, 60, 40, 41, 58, 61]⟩
theorem index_mark : ∀ (l : List UInt8) (c : UInt8), (0 ≤ Lib.indexByte l c ↔ l.contains c = true) ∧ -1 ≤ Lib.indexByte l c
  | [], c => by simp [Lib.indexByte]
  | b :: l, c => by
    have ih := index_mark l c
    unfold Lib.indexByte
    by_cases h : b = c
    · subst h; simp
    · have hb : (b == c) = false := by simpa using h
      have hb' : (c == b) = false := by simpa using fun e => h e.symm
      simp only [hb, Bool.false_eq_true, if_false]
      rw [List.contains_cons, hb']
      by_cases h2 : Lib.indexByte l c = -1
      · rw [if_pos (by rw [h2]; rfl)]
        have : ¬ (l.contains c = true) := fun e => by have := ih.1.2 e; omega
        simp; simpa using this
      · rw [if_neg (by rw [beq_iff_eq]; exact h2)]
        have : 0 ≤ Lib.indexByte l c := by omega
        have h3 := ih.1.1 this
        simp only [Bool.false_or, h3, iff_true]; omega
theorem marks_index (c : UInt8) : isMark c = true ↔ 0 ≤ Lib.indexByte marksB.data.toList c := by
  rw [(index_mark _ c).1]; rfl

theorem specNum (s : ByteArray) (w : World) (hs : (s.size : Int) ≤ 4611686018427387904) :
    Calls Tryd.prog 30 #[.string s] w fun e w' => e = .returned (.bool (tokNum s.data.toList)) ∧ w = w' := by
  go_enter Tryd.func30, Tryd.ntmps30
  go_wp2_with fail
  refine (l12Num s w hs).mono ?_
  rintro e w1 ⟨n, ok, rfl, h1, h2, h3, h4, rfl⟩
  have H1 := Lib.hid h1
  clear h1 h2
  cases ok with
  | false =>
    go_wp2_with fail
    go_ret
    exact ⟨by rw [← H1.out]; rfl, rfl⟩
  | true =>
    by_cases h0 : (0 : Int) ≤ n
    · go_wp2_with fail
      go_ret
      exact ⟨by rw [← H1.out, decide_eq_true h0]; rfl, rfl⟩
    · go_wp2_with fail
      go_ret
      exact ⟨by rw [← H1.out, decide_eq_false (by omega)]; rfl, rfl⟩
theorem l3Marks (w : World) : Calls Tryd.prog 32 #[] w fun e w' => e = .returned (.string marksB) ∧ w = w' := by
  go_enter Tryd.func32, Tryd.ntmps32
  go_wp2_with fail
  go_ret
  exact ⟨rfl, rfl⟩

def Drew (w w' : World) : Prop := ∃ n, w' = w.drewN n
theorem Drew.below {w w' : World} (h : Drew w w') : Below w.heap.size w w' := by obtain ⟨n, rfl⟩ := h; exact drewN_below (Below.refl _ _) n

set_option maxHeartbeats 2000000 in
theorem specTokOk (kind : Int) (s : ByteArray) (w : World) (hs : (s.size : Int) ≤ 4611686018427387904) :
    Calls Tryd.prog 11 #[.int .i64 kind, .string s] w fun e w' => e = .returned (.bool (tokOk kind s.data.toList)) ∧ Drew w w' := by
  by_cases h1 : kind = 1
  · subst h1
    have H : Hid (tokOk 1 s.data.toList = tokWord s.data.toList) := rfl
    go_enter Tryd.func11, Tryd.ntmps11
    go_wp2_with fail
    refine (specWord s w hs).mono ?_
    rintro e w1 ⟨rfl, rfl⟩
    go_wp2_with fail
    go_ret
    exact ⟨by rw [H.out]; rfl, 0, rfl⟩
  · have e1 : (kind == 1) = false := by simp [h1]
    by_cases h2 : kind = 2
    · subst h2
      have H : Hid (tokOk 2 s.data.toList = tokNum s.data.toList) := rfl
      go_enter Tryd.func11, Tryd.ntmps11
      go_wp2_with fail
      refine (specNum s w hs).mono ?_
      rintro e w1 ⟨rfl, rfl⟩
      go_wp2_with fail
      go_ret
      exact ⟨by rw [H.out]; rfl, 0, rfl⟩
    · have e2 : (kind == 2) = false := by simp [h2]
      by_cases h3 : kind = 3
      · subst h3
        have H : Hid (tokOk 3 s.data.toList = tokMark s.data.toList) := rfl
        by_cases hz : (s.size : Int) = 1
        · have h0 : 0 < s.size := by omega
          have h0I : (0 : Int) < (s.size : Int) := by omega
          have hzb : ((s.size : Int) == 1) = true := by rw [hz]; rfl
          have hM : tokMark s.data.toList = isMark s[0] := by
            have e : s.data.toList = [s[0]] := by
              apply List.ext_getElem
              · simpa using (show s.size = 1 by omega)
              · intro i hi1 hi2
                obtain rfl : i = 0 := by simp at hi2; omega
                rfl
            rw [e]; rfl
          have HF := fun d => l12Find marksB s[0] (w.drewN d) (by decide)
          have hm := marks_index s[0]
          have hHM := Lib.hid hM
          have hi := (index_mark marksB.data.toList s[0]).2
          obtain ⟨ix, hix⟩ : ∃ ix, ix = Lib.indexByte marksB.data.toList s[0] := ⟨_, rfl⟩
          rw [← hix] at hm hi
          have HF2 : ∀ d, Calls Tryd.prog 31 #[.string marksB, .int .u8 (s[0].toNat : Int)] (w.drewN d) fun e w'' => e = .returned (.int .i64 ix) ∧ w.drewN d = w'' := fun d => by rw [hix]; exact HF d
          have HHF := Lib.hid HF2
          clear HF HF2 hM hix hz
          by_cases hp : (0 : Int) ≤ ix
          · have HE := Lib.hid (hm.2 hp)
            clear hm
            go_enter Tryd.func11, Tryd.ntmps11
            go_wp2_with fail
            go_quiet (first | (go_at_call 32; exact Calls.quiet_of_same (flip_same (l3Marks _))) | (go_at_call 31; exact Calls.quiet_of_same (flip_same (HHF.out _))))
            go_wp2_with fail
            go_ret
            exact ⟨by rw [H.out, hHM.out, HE.out]; rfl, _, rfl⟩
          · have HE : Hid (isMark s[0] = false) := Bool.eq_false_iff.2 fun e => hp (hm.1 e)
            clear hm
            go_enter Tryd.func11, Tryd.ntmps11
            go_wp2_with fail
            go_quiet (first | (go_at_call 32; exact Calls.quiet_of_same (flip_same (l3Marks _))) | (go_at_call 31; exact Calls.quiet_of_same (flip_same (HHF.out _))))
            go_wp2_with fail
            go_ret
            exact ⟨by rw [H.out, hHM.out, HE.out]; show Ending.returned (.bool (decide (0 ≤ ix))) = _; rw [decide_eq_false (by omega)], _, rfl⟩
        · have hM : Hid (tokMark s.data.toList = false) := by
            unfold Hid
            have hl : s.data.toList.length = s.size := by simp
            generalize s.data.toList = l at hl
            match l, hl with
            | [], _ => rfl
            | [c], hl => simp at hl; omega
            | c :: d :: t, _ => rfl
          have hzb : ((s.size : Int) == 1) = false := by rw [beq_eq_false_iff_ne]; exact hz
          clear hz
          go_enter Tryd.func11, Tryd.ntmps11
          go_wp2_with fail
          go_quiet (fail)
          go_wp2_with fail
          go_ret
          exact ⟨by rw [H.out, hM.out]; rfl, _, rfl⟩
      · have e3 : (kind == 3) = false := by simp [h3]
        have H : Hid (tokOk kind s.data.toList = false) := by unfold Hid tokOk; rw [if_neg h1, if_neg h2, if_neg h3]
        clear h1 h2 h3
        go_enter Tryd.func11, Tryd.ntmps11
        go_wp2_with fail
        go_ret
        exact ⟨by rw [H.out]; rfl, 0, rfl⟩
end Go.Proofs.YtlhmebdljamgkaaDoor
