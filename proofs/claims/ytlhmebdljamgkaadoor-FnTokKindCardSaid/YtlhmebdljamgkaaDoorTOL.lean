/- The walks of FnExactTokOk, FnExactTokKind, FnTokKind. -/
import Derived.Test.YtlhmebdljamgkaaDoorIw
import Derived.Test.YtlhmebdljamgkaaDoorDrawW
namespace Go.Proofs.YtlhmebdljamgkaaDoor
open Go.RowKit Ilp
set_option linter.unusedVariables false

set_option maxHeartbeats 1000000 in
theorem law_FnExactTokOk (kind : Int) (s : ByteArray) (w : World) (hsh : w.ShapedOpen Tryd.prog) (hT : Tabs w) (hk : (Lit.int .i64 kind).wf = true) (hs : s.size ≤ maxLen) :
    Calls Tryd.prog 3 #[.int .i64 kind, .string s] w fun e w' => e = .returned (.bool true) ∧ Below w.heap.size w w' := by
  clear hsh hk
  have hs' : (s.size : Int) ≤ 9223372036854775807 := by unfold maxLen at hs; omega
  have HT := Lib.hid hT
  clear hs hT
  by_cases hbig : (1048576 : Int) < (s.size : Int)
  · go_enter Tryd.func3, Tryd.ntmps3
    go_wp2
    go_ret
    exact ⟨rfl, Below.refl _ _⟩
  · have hsm : (s.size : Int) ≤ 1048576 := by omega
    go_enter Tryd.func3, Tryd.ntmps3
    go_wp2_with fail
    refine (specTokOk kind s w (by omega)).mono ?_
    rintro e w1 ⟨rfl, hd⟩
    have HB1 := Lib.hid hd.below
    clear hd
    go_wp2_with fail
    refine (implTokOk kind s w1 (HT.out.keep HB1.out) hsm).mono ?_
    rintro e w2 ⟨rfl, hb⟩
    have HB2 : Hid (Below w.heap.size w w2) := HB1.out.trans (hb.mono HB1.out.size)
    have hne : (tokOk kind s.data.toList != tokOk kind s.data.toList) = false := by simp
    clear hb
    go_wp2_with fail
    go_ret
    exact ⟨rfl, HB2.out⟩

set_option maxHeartbeats 1000000 in
theorem law_FnExactTokKind (s : ByteArray) (w : World) (hsh : w.ShapedOpen Tryd.prog) (hT : Tabs w) (hs : s.size ≤ maxLen) :
    Calls Tryd.prog 4 #[.string s] w fun e w' => e = .returned (.bool true) ∧ Below w.heap.size w w' := by
  clear hsh
  have hs' : (s.size : Int) ≤ 9223372036854775807 := by unfold maxLen at hs; omega
  have HT := Lib.hid hT
  clear hs hT
  by_cases hbig : (1048576 : Int) < (s.size : Int)
  · go_enter Tryd.func4, Tryd.ntmps4
    go_wp2
    go_ret
    exact ⟨rfl, Below.refl _ _⟩
  · have hsm : (s.size : Int) ≤ 1048576 := by omega
    go_enter Tryd.func4, Tryd.ntmps4
    go_wp2_with fail
    refine (specTokKind s w (by omega)).mono ?_
    rintro e w1 ⟨rfl, hd⟩
    have HB1 := Lib.hid hd.below
    clear hd
    go_wp2_with fail
    refine (implTokKind s w1 (HT.out.keep HB1.out) hsm).mono ?_
    rintro e w2 ⟨rfl, hb⟩
    have HB2 : Hid (Below w.heap.size w w2) := HB1.out.trans (hb.mono HB1.out.size)
    have hne : ((tokKind s.data.toList : Int) != (tokKind s.data.toList : Int)) = false := by simp
    clear hb
    go_wp2_with fail
    go_ret
    exact ⟨rfl, HB2.out⟩

/-- A drawn word. -/
def SomeWord (w : World) (e : Ending) (w' : World) : Prop := ∃ s : ByteArray, e = .returned (.string s) ∧ s.size ≤ 9 ∧ Below w.heap.size w w'
def KindWord (w : World) (e : Ending) (w' : World) : Prop := ∃ (k : Nat) (s : ByteArray), e = .returned (.tuple #[.int .i64 (k : Int), .string s]) ∧ k < 5 ∧ s.size ≤ 9 ∧ Below w.heap.size w w'
set_option maxHeartbeats 1000000 in
theorem drawTokOk (A : Option Addr) (n c : Nat) (z : List Int) (w : World) (hz : IsRow .u8 w A n c z) :
    Calls Tryd.prog 15 #[.slice A n c] w (KindWord w) := by
  go_enter Tryd.func15, Tryd.ntmps15
  go_wp2_with fail
  refine (openIt A n c z w hz).mono ?_
  rintro e w1 ⟨rfl, h1, hb1⟩
  have H1 := Lib.hid h1; clear h1 hz
  go_wp2_with fail
  refine (l3Bent w.heap.size 0 w1 H1.out (by omega)).mono ?_
  rintro e w2 ⟨v, p', rfl, ⟨s, rfl, hs⟩, h0, hp, hR, hK⟩
  have HR := Lib.hid hR
  have HB2 : Hid (Below w.heap.size w w2) := hb1.trans (hK.below (Nat.le_refl _) hb1.size)
  clear hR hK hb1 H1
  go_wp2_with fail
  refine (pick w.heap.size p' 5 w2 HR.out (by omega) (by omega) (by omega)).mono ?_
  rintro e w3 ⟨r, rfl, hr0, hr1, hR, hK, hs3⟩
  have hr2 := hr1 (by omega)
  have R : KindWord w (.returned (.tuple #[.int .i64 (r : Int), .string s])) w3 := ⟨r, s, rfl, by omega, hs, HB2.out.trans (hK.below (Nat.le_refl _) HB2.out.size)⟩
  have HRes := Lib.hid R
  clear R hR hK hr0 hr1 hs3
  go_wp2_with fail
  go_returns
  exact HRes.out
set_option maxHeartbeats 1000000 in
theorem drawTokKind (A : Option Addr) (n c : Nat) (z : List Int) (w : World) (hz : IsRow .u8 w A n c z) :
    Calls Tryd.prog 16 #[.slice A n c] w (SomeWord w) := by
  go_enter Tryd.func16, Tryd.ntmps16
  go_wp2_with fail
  refine (openIt A n c z w hz).mono ?_
  rintro e w1 ⟨rfl, h1, hb1⟩
  have H1 := Lib.hid h1; clear h1 hz
  go_wp2_with fail
  refine (l3Bent w.heap.size 0 w1 H1.out (by omega)).mono ?_
  rintro e w2 ⟨v, p', rfl, ⟨s, rfl, hs⟩, h0, hp, hR, hK⟩
  have R : SomeWord w (.returned (.string s)) w2 := ⟨s, rfl, hs, hb1.trans (hK.below (Nat.le_refl _) hb1.size)⟩
  have HRes := Lib.hid R
  clear R hR hK hb1 H1
  go_wp2_with fail
  go_ret
  exact HRes.out

/-- How many kinds below k a text is a word of. -/
def kindsTo (K k : Nat) : Nat := if 1 ≤ K ∧ K < k then 1 else 0
theorem kindsTo_yes {K k : Nat} (h : K = k) (h1 : 1 ≤ K) : kindsTo K (k + 1) = kindsTo K k + 1 := by
  unfold kindsTo; rw [if_pos ⟨h1, by omega⟩, if_neg (by omega)]
theorem kindsTo_no {K k : Nat} (h : ¬ (K = k ∧ 1 ≤ K)) : kindsTo K (k + 1) = kindsTo K k := by
  unfold kindsTo
  by_cases e : 1 ≤ K ∧ K < k
  · rw [if_pos e, if_pos ⟨e.1, by omega⟩]
  · rw [if_neg e, if_neg (by omega)]

set_option maxHeartbeats 4000000 in
theorem law_FnTokKind (a : Option Addr) (n c : Nat) (z : List Int) (w : World) (hsh : w.ShapedOpen Tryd.prog) (hT : Tabs w) (hz : IsRow .u8 w a n c z) :
    Calls Tryd.prog 5 #[.slice a n c] w fun e w' => e = .returned (.bool true) ∧ Below w.heap.size w w' := by
  clear hsh
  obtain ⟨_, _, hnc, hn, hc, _⟩ := hz.row
  have HZ := Lib.hid hz; clear hz
  have HT := Lib.hid hT; clear hT
  by_cases hbig : (1048576 : Int) < (n : Int)
  · go_enter Tryd.func5, Tryd.ntmps5
    go_wp2
    go_ret
    exact ⟨rfl, Below.refl _ _⟩
  · clear hnc hc
    go_enter Tryd.func5, Tryd.ntmps5
    go_wp2_with fail
    refine (drawTokOk a n c z w HZ.out).mono ?_
    rintro e w1 ⟨kind, s, rfl, hk5, hs9, hb1⟩
    have HB1 := Lib.hid hb1
    clear hb1
    go_wp2_with fail
    refine (drawTokKind a n c z w1 (isRow_below HZ.out HB1.out)).mono ?_
    rintro e w2 ⟨u, rfl, hu9, hb2⟩
    have HB2 : Hid (Below w.heap.size w w2) := HB1.out.trans (hb2.mono HB1.out.size)
    clear hb2 HB1 HZ hbig hn
    have hs' : (s.size : Int) ≤ 1048576 := by omega
    have hu' : (u.size : Int) ≤ 1048576 := by omega
    have hko := tokOk_kind (kind : Int) s.data.toList
    have HKU := Lib.hid (fun k : Nat => tokOk_kind (k : Int) u.data.toList)
    have HKL := Lib.hid (tokKind_le u.data.toList)
    have C1 := fun W (h : Below w.heap.size w W) => implTokOk (kind : Int) s W (HT.out.keep h) hs'
    have C2 := fun W => specTokOk (kind : Int) s W (by omega)
    have C3 := fun W (h : Below w.heap.size w W) => implTokKind u W (HT.out.keep h) hu'
    have C4 := fun W => specTokKind u W (by omega)
    have C5 := fun W (h : Below w.heap.size w W) (k : Nat) => implTokOk (k : Int) u W (HT.out.keep h) hu'
    have C6 := fun W (h : Below w.heap.size w W) => implTokKind s W (HT.out.keep h) hs'
    generalize tokKind u.data.toList = K at C3 C4 HKU HKL
    generalize tokKind s.data.toList = J at C6 hko
    generalize tokOk (kind : Int) s.data.toList = B at C1 C2 hko
    have hBJ : B = true → ((J : Int) == (kind : Int)) = true := fun h => by
      have := (hko.1 h).1
      rw [beq_iff_eq]; omega
    have HC1 := Lib.hid C1
    have HC2 := Lib.hid C2
    have HC3 := Lib.hid C3
    have HC4 := Lib.hid C4
    have HC5 := Lib.hid C5
    have HC6 := Lib.hid C6
    have HBJ := Lib.hid hBJ
    have hbb : (B != B) = false := by simp
    have hKK : ((K : Int) != (K : Int)) = false := by simp
    clear C1 C2 C3 C4 C5 C6 hko hBJ hs9 hu9 hk5
    go_wp2_with fail
    refine (HC1.out w2 HB2.out).mono ?_
    rintro e w3 ⟨rfl, hb⟩
    have HB3 : Hid (Below w.heap.size w w3) := HB2.out.trans (hb.mono HB2.out.size)
    clear hb
    go_wp2_with fail
    refine (HC2.out w3).mono ?_
    rintro e w4 ⟨rfl, hd⟩
    have HB4 : Hid (Below w.heap.size w w4) := HB3.out.trans (hd.below.mono HB3.out.size)
    clear hd
    go_wp2_with fail
    refine (HC3.out w4 HB4.out).mono ?_
    rintro e w5 ⟨rfl, hb⟩
    have HB5 : Hid (Below w.heap.size w w5) := HB4.out.trans (hb.mono HB4.out.size)
    clear hb
    go_wp2_with fail
    refine (HC4.out w5).mono ?_
    rintro e w6 ⟨rfl, hd⟩
    have HB6 : Hid (Below w.heap.size w w6) := HB5.out.trans (hd.below.mono HB5.out.size)
    clear hd
    go_wp2_with fail
    go_loopw [6, 7] (fun v i wr => ∃ k : Nat, i = .int .i64 (k : Int) ∧ v = .int .i64 (kindsTo K k : Int) ∧ k ≤ 5 ∧ Below w.heap.size w wr) (fun _ i _ => 5 - (intOf i).toNat)
    case atStart => exact ⟨0, rfl, by simp [kindsTo], by omega, HB6.out⟩
    case round =>
      obtain ⟨k, rfl, rfl, hk, hbw⟩ := hrel
      have HBW := Lib.hid hbw
      clear hbw
      have hkt : kindsTo K k ≤ 1 := by unfold kindsTo; split <;> omega
      by_cases hlt : (k : Int) < 5
      · have hku := HKU.out k
        have C := HC5.out wr HBW.out k
        generalize tokOk (k : Int) u.data.toList = b at C hku
        have HC := Lib.hid C
        clear C
        cases b with
        | true =>
          have hkk := hku.1 rfl
          have hkK : k = K := by omega
          have HY := Lib.hid (kindsTo_yes (K := K) (k := k) hkK.symm (by omega))
          obtain ⟨q, hq⟩ : ∃ q, kindsTo K k = q := ⟨_, rfl⟩
          rw [hq] at HY hkt ⊢
          have hneK : ((K : Int) != (k : Int)) = false := by rw [hkK]; simp
          have HKE := Lib.hid hkK
          clear hku hkk hq hkK
          go_wp2_with fail
          refine HC.out.mono ?_
          rintro e w7 ⟨rfl, hb⟩
          have HB7 : Hid (Below w.heap.size w w7) := HBW.out.trans (hb.mono HBW.out.size)
          clear hb
          go_wp2_with fail
          refine (HC3.out w7 HB7.out).mono ?_
          rintro e w8 ⟨rfl, hb⟩
          have HB8 : Hid (Below w.heap.size w w8) := HB7.out.trans (hb.mono HB7.out.size)
          clear hb
          go_wp2_with fail
          go_roundw
          case rel => exact ⟨k + 1, by go_num, by rw [HY.out]; go_num, by omega, HB8.out⟩
          case measure => simp [intOf]; omega
        | false =>
          have HN := Lib.hid (kindsTo_no (K := K) (k := k) (fun e => by have := hku.2 ⟨by omega, by omega⟩; cases this))
          clear hku
          go_wp2_with fail
          refine HC.out.mono ?_
          rintro e w7 ⟨rfl, hb⟩
          have HB7 : Hid (Below w.heap.size w w7) := HBW.out.trans (hb.mono HBW.out.size)
          clear hb
          go_wp2_with fail
          go_roundw
          case rel => exact ⟨k + 1, by go_num, by rw [HN.out], by omega, HB7.out⟩
          case measure => simp [intOf]; omega
      · obtain rfl : k = 5 := by omega
        have hJK : B = true → ((J : Int) == (kind : Int)) = true := HBJ.out
        have hfin : (kindsTo K 5 = 1 ∧ (0 : Int) < (K : Int)) ∨ (kindsTo K 5 = 0 ∧ K = 0) := by
          have := HKL.out
          unfold kindsTo
          by_cases e : 1 ≤ K
          · exact .inl ⟨if_pos ⟨e, by omega⟩, by omega⟩
          · exact .inr ⟨if_neg (by omega), by omega⟩
        generalize kindsTo K 5 = q at *
        clear hkt
        rcases hfin with ⟨rfl, hKp⟩ | ⟨rfl, rfl⟩
        · go_wp2_with fail
          refine (HC3.out wr HBW.out).mono ?_
          rintro e w7 ⟨rfl, hb⟩
          have HB7 : Hid (Below w.heap.size w w7) := HBW.out.trans (hb.mono HBW.out.size)
          clear hb
          go_wp2_with fail
          refine (HC1.out w7 HB7.out).mono ?_
          rintro e w8 ⟨rfl, hb⟩
          have HB8 : Hid (Below w.heap.size w w8) := HB7.out.trans (hb.mono HB7.out.size)
          clear hb
          cases B with
          | true =>
            have hj := hJK rfl
            clear hJK
            go_wp2_with fail
            refine (HC6.out w8 HB8.out).mono ?_
            rintro e w9 ⟨rfl, hb⟩
            have HB9 : Hid (Below w.heap.size w w9) := HB8.out.trans (hb.mono HB8.out.size)
            clear hb
            go_wp2_with fail
            go_ret
            exact ⟨rfl, HB9.out⟩
          | false =>
            clear hJK
            go_wp2_with fail
            go_ret
            exact ⟨rfl, HB8.out⟩
        · go_wp2_with fail
          refine (HC3.out wr HBW.out).mono ?_
          rintro e w7 ⟨rfl, hb⟩
          have HB7 : Hid (Below w.heap.size w w7) := HBW.out.trans (hb.mono HBW.out.size)
          clear hb
          go_wp2_with fail
          refine (HC1.out w7 HB7.out).mono ?_
          rintro e w8 ⟨rfl, hb⟩
          have HB8 : Hid (Below w.heap.size w w8) := HB7.out.trans (hb.mono HB7.out.size)
          clear hb
          cases B with
          | true =>
            have hj := hJK rfl
            clear hJK
            go_wp2_with fail
            refine (HC6.out w8 HB8.out).mono ?_
            rintro e w9 ⟨rfl, hb⟩
            have HB9 : Hid (Below w.heap.size w w9) := HB8.out.trans (hb.mono HB8.out.size)
            clear hb
            go_wp2_with fail
            go_ret
            exact ⟨rfl, HB9.out⟩
          | false =>
            clear hJK
            go_wp2_with fail
            go_ret
            exact ⟨rfl, HB8.out⟩
end Go.Proofs.YtlhmebdljamgkaaDoor
