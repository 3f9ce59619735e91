/- Walks: what l12Cut (at a newline) and TextLines of the reference return. -/
import Derived.Test.YtdimljolinmofaaDoorLn
import Derived.Test.YtdimljolinmofaaDoorOwn
import Derived.WalkSpells
namespace Go.Proofs.YtdimljolinmofaaDoor
open Go.RowKit Ilp
set_option linter.unusedVariables false

/-- xs has been cut off; the next piece begins at f; there is no newline up to i. -/
def CutInv (s : ByteArray) (xs : List ByteArray) (f i : Nat) : Prop :=
  xs.length ≤ f ∧ f ≤ i ∧ i ≤ s.size ∧ cut s.data.toList = dats xs ++ cut (s.data.toList.drop f) ∧ ∀ j, f ≤ j → j < i → s.data.toList[j]? ≠ some 10
theorem cutInv_start (s : ByteArray) : CutInv s [] 0 0 := ⟨Nat.le_refl _, Nat.le_refl _, Nat.zero_le _, by simp [dats], fun j _ h => by omega⟩
theorem cutInv_other {s : ByteArray} {xs : List ByteArray} {f i : Nat} (h : CutInv s xs f i) (hi : i < s.size) (hc : s[i] ≠ 10) : CutInv s xs f (i + 1) := by
  obtain ⟨h0, h1, h2, h3, h4⟩ := h
  refine ⟨h0, by omega, by omega, h3, fun j hj hj2 => ?_⟩
  by_cases e : j = i
  · subst e
    rw [List.getElem?_eq_getElem (by simpa using hi)]
    intro h; apply hc; exact Option.some.inj h
  · exact h4 j hj (by omega)
theorem piece_data (s : ByteArray) (f i : Nat) (hi : i ≤ s.size) : (s.extract f i).data.toList = (s.data.toList.drop f).take (i - f) := by
  rw [ByteArray.data_extract]; simp
theorem piece_plain {s : ByteArray} {xs : List ByteArray} {f i : Nat} (h : CutInv s xs f i) : ∀ c ∈ (s.extract f i).data.toList, c ≠ 10 := by
  obtain ⟨h0, h1, h2, h3, h4⟩ := h
  intro c hc e
  subst e
  rw [piece_data s f i h2] at hc
  obtain ⟨j, hj⟩ := List.mem_iff_getElem?.1 hc
  rw [List.getElem?_take] at hj
  split at hj
  · rw [List.getElem?_drop] at hj
    exact h4 (f + j) (by omega) (by omega) hj
  · cases hj
theorem cutInv_nl {s : ByteArray} {xs : List ByteArray} {f i : Nat} (h : CutInv s xs f i) (hi : i < s.size) (hc : s[i] = 10) : CutInv s (xs ++ [s.extract f i]) (i + 1) (i + 1) := by
  have hp := piece_plain h
  obtain ⟨h0, h1, h2, h3, h4⟩ := h
  refine ⟨by simp; omega, Nat.le_refl _, by omega, ?_, fun j a b => by omega⟩
  have e : s.data.toList.drop f = (s.extract f i).data.toList ++ 10 :: s.data.toList.drop (i + 1) := by
    rw [piece_data s f i (by omega)]
    conv => lhs; rw [← List.take_append_drop (i - f) (s.data.toList.drop f)]
    rw [List.drop_drop, show f + (i - f) = i by omega, byte_at s i hi, hc]
  rw [h3, e, cut_app _ _ hp]
  simp [dats]
theorem cutInv_end {s : ByteArray} {xs : List ByteArray} {f : Nat} (h : CutInv s xs f s.size) : xs ++ [s.extract f s.size] = cutB s := by
  have hp := piece_plain h
  obtain ⟨h0, h1, h2, h3, h4⟩ := h
  apply dats_inj
  rw [dats_cutB, h3]
  have e : s.data.toList.drop f = (s.extract f s.size).data.toList := by
    rw [piece_data s f s.size (Nat.le_refl _), List.take_of_length_le (by simp)]
  rw [e, cut_plain _ hp]
  simp [dats]

def CutOf (xs : List ByteArray) (w : World) (e : Ending) (w' : World) : Prop := ∃ A c, e = .returned (.slice A xs.length c) ∧ xs.length ≤ c ∧ Row w' w'.heap.size A (strB xs) ∧ Below w.heap.size w w'

set_option maxHeartbeats 4000000 in
theorem l12Cut (s : ByteArray) (w : World) (hs : (s.size : Int) ≤ 1048576) :
    Calls Tryd.prog 37 #[.string s, .int .u8 10] w (CutOf (cutB s) w) := by
  obtain ⟨i0, hi, hz0, hz1, hz2⟩ := info_parts strInfo
  go_enter Tryd.func37, Tryd.ntmps37
  go_wp2_with fail
  have hown : (w.alloc (.cells #[] 9)).ownsRow w.heap.size 9 1 (.slice (some ⟨w.heap.size, 0, none⟩) 0 0) 0 (strB []) :=
    World.ownsRow_made w #[] 0 (Nat.le_refl _) (by unfold maxLen; omega) rfl
  have HO := Lib.hid hown
  have hbw : Below w.heap.size w (w.alloc (.cells #[] 9)) := by go_grown
  have hsz : w.heap.size < (w.alloc (.cells #[] 9)).heap.size := by simp
  clear hown
  go_loopw [5, 6, 7] (fun v a b wr => ∃ (xs : List ByteArray) (f i : Nat), a = .int .i64 (f : Int) ∧ b = .int .i64 (i : Int) ∧ i ≤ s.size + 1 ∧ f ≤ i ∧ xs.length ≤ i ∧ Hid ((i ≤ s.size ∧ CutInv s xs f i) ∨ (i = s.size + 1 ∧ xs = cutB s)) ∧ wr.ownsRow w.heap.size 9 1 v xs.length (strB xs) ∧ Below w.heap.size w wr ∧ w.heap.size < wr.heap.size) (fun _ _ b _ => s.size + 1 - (intOf b).toNat)
  case atStart => exact ⟨[], 0, 0, rfl, rfl, Nat.zero_le _, Nat.le_refl _, Nat.le_refl _, .inl ⟨Nat.zero_le _, cutInv_start s⟩, HO.out, hbw, hsz⟩
  case round =>
    clear HO hbw hsz
    obtain ⟨xs, f, i, rfl, rfl, hi1, hfi, hxi, hinv, hown, hbw, hsz⟩ := hrel
    have HO := Lib.hid hown; clear hown
    have HB := Lib.hid hbw; clear hbw
    by_cases hin : i ≤ s.size
    · have hin' : (i : Int) ≤ (s.size : Int) := by omega
      have HI : Hid (CutInv s xs f i) := by
        rcases hinv.out with h | h
        · exact h.2
        · exact absurd h.1 (by omega)
      clear hinv
      have hfi' : (f : Int) ≤ (i : Int) := by omega
      have happ : ∀ (W0 : World) (x : ByteArray), True := fun _ _ => trivial
      clear happ
      by_cases hend : i = s.size
      · subst hend
        have hE := cutInv_end HI.out
        have HE := Lib.hid hE
        clear hE
        go_wp2_with (at_builtin; refine wpList_append_own _ rfl _ _ 34 rfl w.heap.size 9 i0 (.string ByteArray.empty) 1 16 Tryd.underlying34 hi hz0 hz1 hz2 rfl (by decide) _ _ _ rfl (HO.out.alloc _) ⟨wr.heap.size, 0, none⟩ 1 1 [.string (s.extract f s.size)] rfl rfl ?c1 ?c2 ?c3 ?c4 ?c5 ?_)
        case c1 =>
          intro j u hj
          match j, hj with
          | 0, hj => simp at hj; subst hj; simp [Addr.add]
        case c2 => intro u hu; simp at hu; subst hu; rfl
        case c3 => unfold maxLen; omega
        case c4 => omega
        case c5 => simp; omega
        intro v' w4 hown' hgrow _
        have hs4 := hgrow.size
        simp only [World.size_alloc] at hs4
        have hB4 : Below w.heap.size w w4 := (HB.out.alloc (by omega) _).grown hgrow (by simp; omega) (fun k hk => (HO.out.lt k (by first | exact hk | simpa using hk)).1)
        have hown4 : w4.ownsRow w.heap.size 9 1 v' (cutB s).length (strB (cutB s)) := by rw [← HE.out]; simpa [strB] using hown'
        have hle := (show (xs ++ [s.extract f s.size]).length = (cutB s).length by rw [HE.out])
        simp at hle
        have HO4 := Lib.hid hown4
        have HB4 := Lib.hid hB4
        have hsz4 : w.heap.size < w4.heap.size := by omega
        have HL := Lib.hid hle
        clear hown' hown4 hB4 hs4 hgrow hle
        go_wp2_with fail
        go_roundw
        case rel => exact ⟨cutB s, s.size + 1, s.size + 1, by go_num, by go_num, by omega, by omega, by have := HL.out; omega, .inr ⟨rfl, rfl⟩, HO4.out, HB4.out, hsz4⟩
        case measure => first | (simp [intOf]; done) | (simp [intOf]; omega)
      · have hlt : i < s.size := by omega
        have hne : ((i : Int) == (s.size : Int)) = false := by rw [beq_eq_false_iff_ne]; omega
        have hlt' : (i : Int) < (s.size : Int) := by omega
        have hnl := nl_iff s[i]
        by_cases h10 : s[i] = 10
        · have HN := Lib.hid (cutInv_nl HI.out hlt h10)
          have hb : ((s[i].toNat : Int) == 10) = true := by rw [hnl, h10]; rfl
          clear hnl h10
          go_wp2_with (at_builtin; refine wpList_append_own _ rfl _ _ 34 rfl w.heap.size 9 i0 (.string ByteArray.empty) 1 16 Tryd.underlying34 hi hz0 hz1 hz2 rfl (by decide) _ _ _ rfl (HO.out.alloc _) ⟨wr.heap.size, 0, none⟩ 1 1 [.string (s.extract f i)] rfl rfl ?d1 ?d2 ?d3 ?d4 ?d5 ?_)
          case d1 =>
            intro j u hj
            match j, hj with
            | 0, hj => simp at hj; subst hj; simp [Addr.add]
          case d2 => intro u hu; simp at hu; subst hu; rfl
          case d3 => unfold maxLen; omega
          case d4 => omega
          case d5 => simp; omega
          intro v' w4 hown' hgrow _
          have hs4 := hgrow.size
          simp only [World.size_alloc] at hs4
          have hB4 : Below w.heap.size w w4 := (HB.out.alloc (by omega) _).grown hgrow (by simp; omega) (fun k hk => (HO.out.lt k (by first | exact hk | simpa using hk)).1)
          have hown4 : w4.ownsRow w.heap.size 9 1 v' (xs ++ [s.extract f i]).length (strB (xs ++ [s.extract f i])) := by simpa [strB] using hown'
          have HO4 := Lib.hid hown4
          have HB4 := Lib.hid hB4
          have hsz4 : w.heap.size < w4.heap.size := by omega
          clear hown' hown4 hB4 hs4 hgrow
          go_wp2_with fail
          go_roundw
          case rel => exact ⟨xs ++ [s.extract f i], i + 1, i + 1, by go_num, by go_num, by omega, by omega, by simp; omega, .inl ⟨by omega, HN.out⟩, HO4.out, HB4.out, hsz4⟩
          case measure => simp [intOf]; omega
        · have HN := Lib.hid (cutInv_other HI.out hlt h10)
          have hb : ((s[i].toNat : Int) == 10) = false := by rw [hnl]; exact decide_eq_false h10
          clear hnl h10
          go_wp2_with fail
          go_roundw
          case rel => exact ⟨xs, f, i + 1, rfl, by go_num, by omega, by omega, by omega, .inl ⟨by omega, HN.out⟩, HO.out, HB.out, hsz⟩
          case measure => simp [intOf]; omega
    · have hE : xs = cutB s := by
        rcases hinv.out with h | h
        · exact absurd h.1 hin
        · exact h.2
      have hgt : ¬ ((i : Int) ≤ (s.size : Int)) := by omega
      obtain ⟨A', c', hv, hnc, hrow⟩ := own_row HO.out
      subst hv
      have R : CutOf (cutB s) w (.returned (.slice A' xs.length c')) wr := ⟨A', c', by rw [hE], by rw [← hE]; exact hnc, by rw [← hE]; exact hrow, HB.out⟩
      have HRes := Lib.hid R
      clear R hrow hE hinv
      go_wp2_with fail
      go_ret
      exact HRes.out

/-- The lines of a text, none of one that is not ok. -/
def linesOf (s : ByteArray) : List ByteArray := if textOk s.data.toList = true then cutB s else []
theorem linesOf_ok {s : ByteArray} (h : textOk s.data.toList = true) : linesOf s = cutB s := if_pos h
theorem linesOf_bad {s : ByteArray} (h : textOk s.data.toList = false) : linesOf s = [] := if_neg (by simp [h])

set_option maxHeartbeats 1000000 in
theorem specTextLines (s : ByteArray) (w : World) (hs : (s.size : Int) ≤ 1048576) :
    Calls Tryd.prog 17 #[.string s] w (CutOf (linesOf s) w) := by
  go_enter Tryd.func17, Tryd.ntmps17
  go_wp2_with fail
  refine (specTextOk s _ (by omega)).mono ?_; rintro e w2 ⟨rfl, rfl⟩
  cases hok : textOk s.data.toList with
  | false =>
    have R : CutOf (linesOf s) w (.returned (.slice (some ⟨w.heap.size, 0, none⟩) 0 0)) (w.alloc (.cells #[] 9)) := by
      rw [linesOf_bad hok]; exact ⟨_, 0, rfl, Nat.le_refl _, Row.nil _ _ _, by go_grown⟩
    have HR := Lib.hid R; clear R hok
    go_wp2_with fail
    go_ret
    exact HR.out
  | true =>
    have HL := Lib.hid (linesOf_ok hok)
    clear hok
    go_wp2_with fail
    refine (l12Cut s w hs).mono ?_
    rintro e w2 ⟨A, c, rfl, h1, h2, h3⟩
    have R : CutOf (linesOf s) w (.returned (.slice A (cutB s).length c)) w2 := by rw [HL.out]; exact ⟨A, c, rfl, h1, h2, h3⟩
    have HR := Lib.hid R; clear R h1 h2 h3
    go_wp2_with fail
    go_ret
    exact HR.out
end Go.Proofs.YtdimljolinmofaaDoor
