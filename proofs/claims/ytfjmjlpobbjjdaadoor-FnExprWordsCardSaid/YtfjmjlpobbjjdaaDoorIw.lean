/- Walks of the program: what is a word, and of which kind. -/
import Derived.Test.YtfjmjlpobbjjdaaDoorTA
import Derived.Test.YtfjmjlpobbjjdaaDoorWit
import Derived.Test.YtfjmjlpobbjjdaaDoorShelf
import Derived.Lib.AtoiAllCases
namespace Go.Proofs.YtfjmjlpobbjjdaaDoor
open Go.RowKit Ilp
set_option linter.unusedVariables false

theorem inS (n lo hi : Int) (w : World) :
    Calls Tryd.prog 87 #[.int .i64 n, .int .i64 lo, .int .i64 hi] w fun e w' => e = .returned (.bool (decide (lo ≤ n) && decide (n ≤ hi))) ∧ w = w' := by
  go_enter Tryd.func87, Tryd.ntmps87
  by_cases h : lo ≤ n
  · have H := Lib.hid (decide_eq_true h)
    go_wp2_with fail
    go_ret
    exact ⟨by rw [H.out]; rfl, rfl⟩
  · have H := Lib.hid (decide_eq_false h)
    go_wp2_with fail
    go_ret
    exact ⟨by rw [H.out]; rfl, rfl⟩

theorem isLetterW (c : UInt8) (w : World) :
    Calls Tryd.prog 89 #[.int .u8 (c.toNat : Int)] w fun e w' => e = .returned (.bool (isLet c)) ∧ w = w' := by
  have hli := let_iff c
  obtain ⟨r0, r1⟩ := byte_rng c
  by_cases h : (97 : Int) ≤ (c.toNat : Int)
  · by_cases h2 : (c.toNat : Int) ≤ 122
    · have H := Lib.hid (hli.2 ⟨h, h2⟩)
      clear hli
      go_enter Tryd.func89, Tryd.ntmps89
      go_wp2_with fail
      go_ret
      exact ⟨by rw [H.out]; rfl, rfl⟩
    · have H : Hid (isLet c = false) := Bool.eq_false_iff.2 fun e => by have := hli.1 e; omega
      clear hli
      go_enter Tryd.func89, Tryd.ntmps89
      go_wp2_with fail
      go_ret
      exact ⟨by rw [H.out]; rfl, rfl⟩
  · have H : Hid (isLet c = false) := Bool.eq_false_iff.2 fun e => by have := hli.1 e; omega
    clear hli
    go_enter Tryd.func89, Tryd.ntmps89
    go_wp2_with fail
    go_ret
    exact ⟨by rw [H.out]; rfl, rfl⟩

set_option maxHeartbeats 1000000 in
set_option maxRecDepth 20000 in
theorem runLetter (s : ByteArray) (w : World) (hs : (s.size : Int) ≤ 4611686018427387904) :
    Calls Tryd.prog 88 #[.string s, .func (.func 89) #[] #[]] w fun e w' => e = .returned (.int .i64 (runOf isLet s.data.toList : Int)) ∧ w = w' := by
  go_enter Tryd.func88, Tryd.ntmps88
  go_wp2_with fail
  go_loop [5] (fun v => ∃ k : Nat, v = .int .i64 (k : Int) ∧ k ≤ s.size ∧ Hid (runOf isLet s.data.toList = k + runOf isLet (s.data.toList.drop k))) (fun v => s.size - (intOf v).toNat)
  case atStart => exact ⟨0, rfl, Nat.zero_le _, by simp [Hid]⟩
  case round =>
    obtain ⟨k, rfl, hk, hr⟩ := hrel
    by_cases hlt : (k : Int) < (s.size : Int)
    · have hj : k < s.size := by omega
      have hst := runOf_at (p := isLet) (L := s.data.toList) (k := k) (by simpa using hj)
      rw [show s.data.toList[k]'(by simpa using hj) = s[k] by simp; rfl] at hst
      cases hc : isLet s[k] with
      | true =>
        have HC := Lib.hid hc
        have HR : Hid (runOf isLet s.data.toList = (k + 1) + runOf isLet (s.data.toList.drop (k + 1))) := by unfold Hid; rw [hr.out, hst, hc, if_pos rfl]; omega
        clear hst hc
        go_wp2_with fail
        refine (isLetterW s[k] w).mono ?_
        rw [HC.out]
        rintro e w1 ⟨rfl, rfl⟩
        go_wp2_with fail
        go_round
        case rel => exact ⟨k + 1, by go_num, by omega, HR⟩
        case measure => simp [intOf]; omega
      | false =>
        have HC := Lib.hid hc
        have HR : Hid (runOf isLet s.data.toList = k) := by unfold Hid; rw [hr.out, hst, hc, if_neg (by simp)]; rfl
        clear hst hc
        go_wp2_with fail
        refine (isLetterW s[k] w).mono ?_
        rw [HC.out]
        rintro e w1 ⟨rfl, rfl⟩
        go_wp2_with fail
        go_ret
        exact ⟨by rw [HR.out]; rfl, rfl⟩
    · have HR : Hid (runOf isLet s.data.toList = k) := by unfold Hid; rw [hr.out, runOf_nil _ (by simp; omega)]; rfl
      go_wp2_with fail
      go_ret
      exact ⟨by rw [HR.out]; rfl, rfl⟩

/-- What a number read is. -/
def NumI (l : List UInt8) (w : World) (e : Ending) (w' : World) : Prop := ∃ n : Int, e = .returned (.tuple #[.int .i64 n, .bool (tokNum l)]) ∧ (tokNum l = true → n = decVal l) ∧ Below w.heap.size w w'

theorem bytes_below {w w' : World} (h : w' = w ∨ ∃ t, w' = Lib.bytesWorld w 5 t) : Below w.heap.size w w' := by
  rcases h with rfl | ⟨t, rfl⟩
  · exact Below.refl _ _
  · exact Lib.bytesWorld_below _ _ _

set_option maxHeartbeats 2000000 in
set_option maxRecDepth 20000 in
theorem implNumber (s : ByteArray) (w : World) (hT : Tabs w) (hs : (s.size : Int) ≤ 1048576) :
    Calls Tryd.prog 90 #[.string s] w (NumI s.data.toList w) := by
  cases ha : Lib.atoiAll s.data.toList with
  | ok v =>
    have hiff := num_iff ha
    have hbd := Lib.atoiAll_bounds ha
    have hval : tokNum s.data.toList = true → v = decVal s.data.toList := fun h => by
      have := atoi_num h
      rw [ha] at this
      injection this
    obtain ⟨b0, b1⟩ := hbd
    have HV := Lib.hid hval
    have HA := Lib.hid ha
    have HIFF := Lib.hid hiff
    have HT := Lib.hid hT
    clear ha hiff hval hT
    go_enter Tryd.func90, Tryd.ntmps90
    go_wp2_with fail
    refine (Tryd.strconv_Atoi_ok s (by omega) v HA.out w).mono ?_
    rintro e w1 ⟨rfl, hw1⟩
    have hb1 := bytes_below hw1
    have HB1 := Lib.hid hb1
    have HT1 := Lib.hid (HT.out.keep hb1)
    clear hw1 hb1
    go_wp2_with fail
    refine (inS v 0 1000000 w1).mono ?_
    cases hin : (decide (0 ≤ v) && decide (v ≤ 1000000)) with
    | false =>
      rintro e w2 ⟨rfl, rfl⟩
      have R : NumI s.data.toList w (.returned (.tuple #[.int .i64 v, .bool false])) w1 := by
        have h : tokNum s.data.toList = false := by rw [← HIFF.out, hin]; rfl
        exact ⟨v, by rw [h], HV.out, HB1.out⟩
      have HR := Lib.hid R
      clear R hin
      go_wp2_with fail
      go_returns
      exact HR.out
    | true =>
      rintro e w2 ⟨rfl, rfl⟩
      have HIN := Lib.hid hin
      clear hin
      go_wp2_with fail
      refine (Tryd.strconv_Itoa v b0 b1 w1 HT1.out.pow).mono ?_
      rintro e w3 ⟨rfl, kk, os, hw3⟩
      have hb3 : Below w1.heap.size w1 w3 := by rw [hw3]; exact (below_regrown w1 (w1.drawn + kk) os)
      have HB3 : Hid (Below w.heap.size w w3) := HB1.out.trans (hb3.mono HB1.out.size)
      have R : NumI s.data.toList w (.returned (.tuple #[.int .i64 v, .bool (tokNum s.data.toList)])) w3 := ⟨v, rfl, HV.out, HB3.out⟩
      have hcmp : (Lib.itoa v == s.toList) = tokNum s.data.toList := by
        rw [← HIFF.out, HIN.out, Bool.true_and, ByteArray.toList_eq, Bool.eq_iff_iff]
        simp
      rw [← hcmp] at R
      have HR := Lib.hid R
      clear R hb3 hw3 hcmp
      go_wp2_with fail
      go_returns
      exact HR.out
  | «syntax» =>
    have hbad := num_bad (s := s.data.toList) (by rw [ha]; intro n h; cases h)
    obtain ⟨tp, p, hvar⟩ := hT.syn
    have C := Tryd.strconv_Atoi_syntax_var s (by omega) ha tp p w hvar
    have HC := Lib.hid C
    have HBAD := Lib.hid hbad
    clear C hbad hvar ha hT
    go_enter Tryd.func90, Tryd.ntmps90
    go_wp2_with fail
    refine HC.out.mono ?_
    rintro e w1 ⟨N, rfl, _, _, hb1⟩
    have R : NumI s.data.toList w (.returned (.tuple #[.int .i64 0, .bool false])) w1 := ⟨0, by rw [HBAD.out], (fun h => by rw [HBAD.out] at h; cases h), hb1⟩
    have HR := Lib.hid R
    clear R hb1
    go_wp2_with fail
    go_returns
    exact HR.out
  | range =>
    have hbad := num_bad (s := s.data.toList) (by rw [ha]; intro n h; cases h)
    obtain ⟨tp, p, hvar⟩ := hT.rng
    have C := Tryd.strconv_Atoi_range_var s (by omega) ha tp p w hvar
    have HC := Lib.hid C
    have HBAD := Lib.hid hbad
    clear C hbad hvar ha hT
    go_enter Tryd.func90, Tryd.ntmps90
    go_wp2_with fail
    refine HC.out.mono ?_
    rintro e w1 ⟨N, rfl, _, _, hb1⟩
    have R : NumI s.data.toList w (.returned (.tuple #[.int .i64 (Lib.atoiSat s.data.toList), .bool false])) w1 := ⟨_, by rw [HBAD.out], (fun h => by rw [HBAD.out] at h; cases h), hb1⟩
    have HR := Lib.hid R
    clear R hb1
    go_wp2_with fail
    go_returns
    exact HR.out

theorem run_all {p : UInt8 → Bool} : ∀ l : List UInt8, (runOf p l = l.length ↔ l.all p = true)
  | [] => by simp [runOf]
  | c :: l => by
    have ih := run_all (p := p) l
    unfold runOf at ih ⊢
    rw [List.takeWhile_cons, List.all_cons]
    cases h : p c
    · simp
    · simp only [if_true, List.length_cons, Bool.true_and, ← ih]; omega
theorem run_le (p : UInt8 → Bool) (l : List UInt8) : runOf p l ≤ l.length := tw_le p l

set_option maxHeartbeats 2000000 in
set_option maxRecDepth 20000 in
theorem implTokOk (kind : Int) (s : ByteArray) (w : World) (hT : Tabs w) (hs : (s.size : Int) ≤ 1048576) :
    Calls Tryd.prog 61 #[.int .i64 kind, .string s] w fun e w' => e = .returned (.bool (tokOk kind s.data.toList)) ∧ Below w.heap.size w w' := by
  have hlen : s.data.toList.length = s.size := by simp
  by_cases h1 : kind = 1
  · subst h1
    have hT1 : tokOk 1 s.data.toList = tokWord s.data.toList := rfl
    have hrl := run_le isLet s.data.toList
    rw [hlen] at hrl
    have hra := run_all (p := isLet) s.data.toList
    rw [hlen] at hra
    have HW : Hid (tokWord s.data.toList = (decide (1 ≤ s.size) && decide (s.size ≤ 8) && s.data.toList.all isLet)) := by unfold Hid tokWord; rw [hlen]
    have C := fun W => runLetter s W (by omega)
    obtain ⟨r, hr⟩ : ∃ r, runOf isLet s.data.toList = r := ⟨_, rfl⟩
    rw [hr] at hrl hra C
    have HC := Lib.hid C
    have HT1 := Lib.hid hT1
    clear C hr hT hT1 hlen
    go_enter Tryd.func61, Tryd.ntmps61
    go_wp2_with fail
    refine (inS (s.size : Int) 1 8 w).mono ?_
    by_cases hin : 1 ≤ s.size ∧ s.size ≤ 8
    · rw [decide_eq_true (show (1 : Int) ≤ (s.size : Int) by omega), decide_eq_true (show (s.size : Int) ≤ 8 by omega)]
      rintro e w1 ⟨rfl, rfl⟩
      have HW2 : Hid (tokWord s.data.toList = s.data.toList.all isLet) := by unfold Hid; rw [HW.out, decide_eq_true hin.1, decide_eq_true hin.2]; rfl
      clear hin HW
      go_wp2_with fail
      refine (HC.out w).mono ?_
      rintro e w1 ⟨rfl, rfl⟩
      by_cases hre : r = s.size
      · have HRes : Hid (tokOk 1 s.data.toList = true) := by unfold Hid; rw [HT1.out, HW2.out]; exact hra.1 hre
        subst hre
        clear hra hrl
        go_wp2_with fail
        go_ret
        exact ⟨by rw [HRes.out]; rfl, Below.refl _ _⟩
      · have HRes : Hid (tokOk 1 s.data.toList = false) := by unfold Hid; rw [HT1.out, HW2.out]; exact Bool.eq_false_iff.2 fun e => hre (hra.2 e)
        have hreb : ((r : Int) == (s.size : Int)) = false := by rw [beq_eq_false_iff_ne]; omega
        clear hra hrl hre
        go_wp2_with fail
        go_ret
        exact ⟨by rw [HRes.out]; rfl, Below.refl _ _⟩
    · have hd : (decide ((1 : Int) ≤ (s.size : Int)) && decide ((s.size : Int) ≤ 8)) = false := by
        rw [Bool.eq_false_iff]; intro e
        simp only [Bool.and_eq_true, decide_eq_true_eq] at e
        exact hin ⟨by omega, by omega⟩
      rw [hd]
      rintro e w1 ⟨rfl, rfl⟩
      have HRes : Hid (tokOk 1 s.data.toList = false) := by
        unfold Hid; rw [HT1.out, HW.out]
        have : (decide (1 ≤ s.size) && decide (s.size ≤ 8)) = false := by
          rw [Bool.eq_false_iff]; intro e
          simp only [Bool.and_eq_true, decide_eq_true_eq] at e
          exact hin e
        rw [this]; rfl
      clear hin HW hd
      go_wp2_with fail
      go_ret
      exact ⟨by rw [HRes.out]; rfl, Below.refl _ _⟩
  · have e1 : (kind == 1) = false := by simp [h1]
    by_cases h2 : kind = 2
    · subst h2
      have H : Hid (tokOk 2 s.data.toList = tokNum s.data.toList) := rfl
      have HT := Lib.hid hT
      clear hT hlen
      go_enter Tryd.func61, Tryd.ntmps61
      go_wp2_with fail
      refine (implNumber s w HT.out hs).mono ?_
      rintro e w1 ⟨n, rfl, _, hb1⟩
      have HB1 := Lib.hid hb1
      clear hb1
      go_wp2_with fail
      go_ret
      exact ⟨by rw [H.out]; rfl, HB1.out⟩
    · have e2 : (kind == 2) = false := by simp [h2]
      by_cases h3 : kind = 3
      · subst h3
        have H : Hid (tokOk 3 s.data.toList = tokMark s.data.toList) := rfl
        clear hT
        by_cases hz : s.size = 1
        · obtain ⟨c, hc⟩ : ∃ c, s.data.toList = [c] := by
            generalize s.data.toList = l at hlen
            match l, hlen with
            | [c], _ => exact ⟨c, rfl⟩
            | [], h => simp at h; omega
            | c :: d :: t, h => simp at h; omega
          have hsc : s = ⟨#[c]⟩ := by
            apply ByteArray.ext; apply Array.ext'; rw [hc]
          have HM : Hid (tokMark s.data.toList = decide (0 ≤ Lib.indexByte marksB.data.toList c)) := by
            unfold Hid; rw [hc, Bool.eq_iff_iff, decide_eq_true_eq, ← marks_index]; rfl
          have C := Tryd.strings_Contains_one marksB c w
          rw [← hsc] at C
          have HC := Lib.hid C
          generalize decide (0 ≤ Lib.indexByte marksB.data.toList c) = q at HM HC C
          have hzb : ((s.size : Int) == 1) = true := by rw [hz]; rfl
          clear C hsc hc hlen hz
          go_enter Tryd.func61, Tryd.ntmps61
          go_wp2_with fail
          refine HC.out.mono ?_
          rintro e w1 ⟨rfl, rfl⟩
          go_wp2_with fail
          go_ret
          exact ⟨by rw [H.out, HM.out]; rfl, Below.refl _ _⟩
        · have hM : Hid (tokMark s.data.toList = false) := by
            unfold Hid
            generalize s.data.toList = l at hlen
            match l, hlen with
            | [], _ => rfl
            | [c], hl => simp at hl; omega
            | c :: d :: t, _ => rfl
          have hzb : ((s.size : Int) == 1) = false := by rw [beq_eq_false_iff_ne]; omega
          clear hz hlen
          go_enter Tryd.func61, Tryd.ntmps61
          go_wp2_with fail
          go_ret
          exact ⟨by rw [H.out, hM.out]; rfl, Below.refl _ _⟩
      · have e3 : (kind == 3) = false := by simp [h3]
        have H : Hid (tokOk kind s.data.toList = false) := by unfold Hid tokOk; rw [if_neg h1, if_neg h2, if_neg h3]
        clear h1 h2 h3 hT
        go_enter Tryd.func61, Tryd.ntmps61
        go_wp2_with fail
        go_ret
        exact ⟨by rw [H.out]; rfl, Below.refl _ _⟩

set_option maxHeartbeats 2000000 in
set_option maxRecDepth 20000 in
theorem implTokKind (s : ByteArray) (w : World) (hT : Tabs w) (hs : (s.size : Int) ≤ 1048576) :
    Calls Tryd.prog 31 #[.string s] w fun e w' => e = .returned (.int .i64 (tokKind s.data.toList : Int)) ∧ Below w.heap.size w w' := by
  have HT := Lib.hid hT
  clear hT
  go_enter Tryd.func31, Tryd.ntmps31
  go_wp2_with fail
  go_loopw [3] (fun v wr => ∃ k : Nat, v = .int .i64 (k : Int) ∧ 1 ≤ k ∧ k ≤ 4 ∧ Hid (∀ j : Nat, 1 ≤ j → j < k → tokOk j s.data.toList = false) ∧ Below w.heap.size w wr) (fun v _ => 4 - (intOf v).toNat)
  case atStart => exact ⟨1, rfl, Nat.le_refl _, by omega, fun j h1 h2 => by omega, Below.refl _ _⟩
  case round =>
    obtain ⟨k, rfl, hk1, hk4, hno, hd⟩ := hrel
    have HD := Lib.hid hd; clear hd
    by_cases hlt : k ≤ 3
    · have hlt' : (k : Int) ≤ 3 := by omega
      have HC := Lib.hid (implTokOk (k : Int) s wr (HT.out.keep HD.out) hs)
      go_wp2_with fail
      refine HC.out.mono ?_
      rintro e w1 ⟨rfl, hd1⟩
      have HD1 : Hid (Below w.heap.size w w1) := HD.out.trans (hd1.mono HD.out.size)
      cases hb : tokOk (k : Int) s.data.toList with
      | true =>
        have HK := Lib.hid (kind_is hno.out hlt hk1 hb)
        clear hb hd1
        go_wp2_with fail
        go_ret
        exact ⟨by rw [HK.out]; rfl, HD1.out⟩
      | false =>
        have HN : Hid (∀ j : Nat, 1 ≤ j → j < k + 1 → tokOk j s.data.toList = false) := fun j h1 h2 => by
          by_cases e : j = k
          · subst e; exact hb
          · exact hno.out j h1 (by omega)
        clear hb hd1
        go_wp2_with fail
        go_roundw
        case rel => exact ⟨k + 1, by go_num, by omega, by omega, HN, HD1.out⟩
        case measure => simp [intOf]; omega
    · obtain rfl : k = 4 := by omega
      have HK := Lib.hid (kind_none hno.out)
      go_wp2_with fail
      go_ret
      exact ⟨by rw [HK.out]; rfl, HD.out⟩
end Go.Proofs.YtfjmjlpobbjjdaaDoor
