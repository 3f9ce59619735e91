/- The walk of FnPosOff. -/
import Derived.Test.YtdimljolinmofaaDoorOff
import Derived.Test.YtdimljolinmofaaDoorDrawQ
namespace Go.Proofs.YtdimljolinmofaaDoor
open Go.RowKit Ilp
set_option linter.unusedVariables false

theorem offRes_neg {s : ByteArray} {L C : Int} (h : L < 0 ∨ C < 0) : offRes s L C = none := offRes_bad (by omega)
theorem offRes_far {s : ByteArray} {L C : Int} (h : ((cutB s).length : Int) ≤ L) : offRes s L C = none := by
  unfold offRes; split
  · exact offOf_none _ _ _ (fun h' => absurd h' (by rw [← cutB_length]; omega))
  · rfl
theorem offRes_wide {s : ByteArray} {l : Nat} {C : Int} (hl : l < (cutB s).length) (h : ((cutB s)[l].size : Int) < C) : offRes s l C = none := by
  unfold offRes; split
  · have e := cutB_get s l hl
    exact offOf_none _ _ _ (fun h' hc => by simp only [Int.toNat_natCast] at hc; omega)
  · rfl
theorem offRes_in {s : ByteArray} {l c : Nat} (ho : textOk s.data.toList = true) (hl : l < (cutB s).length) (h : c ≤ (cutB s)[l].size) : ∃ k, offRes s l c = some k ∧ k ≤ s.size ∧ pos (s.data.toList.take k) = (l, c) := by
  have e := cutB_get s l hl
  have e2 := offOf_start (cut s.data.toList) l c (by rw [← cutB_length]; exact hl) (by omega)
  refine ⟨_, (offRes_good ho).trans e2, ?_⟩
  have := offOf_pos _ _ _ _ e2
  exact ⟨by simpa using this.1, this.2⟩

theorem l1In_good (l n : Nat) (h : l < n) (w : World) : Calls Tryd.prog 28 #[.int .i64 (l : Int), .int .i64 (n : Int)] w fun e w' => e = .returned (.int .i64 (l : Int)) ∧ w' = w := by
  have h1 : ¬ ((l : Int) < 0) := by omega
  have h2 : (l : Int) < (n : Int) := by omega
  go_enter Tryd.func28, Tryd.ntmps28
  go_wp2_with fail
  go_ret
  exact ⟨rfl, rfl⟩

set_option maxHeartbeats 8000000 in
theorem law_FnPosOff (a : Option Addr) (n c : Nat) (z : List Int) (w : World) (hsh : w.ShapedOpen Tryd.prog) (hT : Tabs w) (hz : IsRow .u8 w a n c z) :
    Calls Tryd.prog 9 #[.slice a n c] w fun e w' => e = .returned (.bool true) ∧ Below w.heap.size w w' := by
  clear hsh
  obtain ⟨_, _, hnc, hn, hc, _⟩ := hz.row
  have HZ := Lib.hid hz; clear hz
  have HT := Lib.hid hT; clear hT
  by_cases hbig : (1048576 : Int) < (n : Int)
  · go_enter Tryd.func9, Tryd.ntmps9
    go_wp2
    go_ret
    exact ⟨rfl, Below.refl _ _⟩
  · have hs : (n : Int) ≤ 1048576 := by omega
    clear hbig hn hc hnc
    go_enter Tryd.func9, Tryd.ntmps9
    go_wp2_with fail
    refine (drawPosOff a n c z w HZ.out).mono ?_
    rintro e w1 ⟨s, L, C, rfl, hss, hL0, hL1, hC0, hC1, hb1⟩
    have hK := Blk.alloc_ w1 24 [.int .i64 L, .int .i64 C]
    have hb2 : Below w.heap.size w (w1.alloc (.cells #[.int .i64 L, .int .i64 C] 24)) := hb1.alloc hb1.size _
    have hss' : (s.size : Int) ≤ 300 := by omega
    go_wp2_with fail
    have hlt := hK.lt
    generalize w1.alloc (.cells #[.int .i64 L, .int .i64 C] 24) = w2 at *
    generalize w1.heap.size = B at *
    have HT2 : Hid (Tabs w2) := HT.out.keep hb2
    obtain ⟨r, hr⟩ : ∃ r, offRes s L C = r := ⟨_, rfl⟩
    have ci := implPosOff s L C w2 HT2.out (by omega) (by omega) (by omega) (by omega) (by omega)
    have cs := fun W => specPosOff s L C W (by omega)
    rw [hr] at ci
    rw [hr] at cs
    have CS := Lib.hid cs
    have HRR := Lib.hid hr
    refine ci.mono ?_
    clear ci cs hr
    rintro e w3 ⟨rfl, hb3⟩
    have hK3 := hK.below hb3 hlt
    have HB3 : Hid (Below w.heap.size w w3) := hb2.trans (hb3.mono hb2.size)
    have HT3 : Hid (Tabs w3) := HT2.out.keep hb3
    have c0 : w3.cell? ⟨B, 0, none⟩ = some (.int .i64 L) := hK3.cell 0
    have c1 : w3.cell? ⟨B, 1, none⟩ = some (.int .i64 C) := hK3.cell 1
    clear hK hb1 hb2 hb3 hlt
    simp only [offT]
    go_wp2_with fail
    refine (CS.out w3).mono ?_
    rintro e w4 ⟨rfl, hb4⟩
    have hK4 := hK3.below hb4 hK3.lt
    have HB4 : Hid (Below w.heap.size w w4) := HB3.out.trans (hb4.mono HB3.out.size)
    have HT4 : Hid (Tabs w4) := HT3.out.keep hb4
    have h1 : (((r.getD 0 : Nat) : Int) != ((r.getD 0 : Nat) : Int)) = false := by simp
    have h2 : (r.isSome != r.isSome) = false := by simp
    clear c0 c1 hK3 hb4
    simp only [offT]
    go_wp2_with fail
    clear h1 h2
    refine (implTextLines s w4 HT4.out (by omega)).mono ?_
    rintro e w5 hlin
    have HK4 := Lib.hid hK4
    clear hK4
    cases hok : textOk s.data.toList with
    | false =>
      obtain ⟨rfl, rfl⟩ := hlin.bad hok
      have er : r = none := by rw [← HRR.out]; exact offRes_bad (by simp [hok])
      clear hlin hok HRR
      subst er
      have c0 : w4.cell? ⟨B, 0, none⟩ = some (.int .i64 L) := HK4.out.cell 0
      have c1 : w4.cell? ⟨B, 1, none⟩ = some (.int .i64 C) := HK4.out.cell 1
      have HBN : Hid (∀ q, Below w.heap.size w (w4.drewN q)) := fun q => drewN_below HB4.out q
      by_cases g1 : 0 ≤ L
      · have g2 : decide (L < 0) = false := decide_eq_false (by omega)
        go_wp2_with fail
        go_quiet (fail)
        go_wp2_with fail
        go_ret
        exact ⟨rfl, HBN.out _⟩
      · have g1' : decide (0 ≤ L) = false := decide_eq_false g1
        go_wp2_with fail
        go_quiet (fail)
        go_wp2_with fail
        go_ret
        exact ⟨rfl, HBN.out _⟩
    | true =>
      obtain ⟨rfl, hlk, hb5⟩ := hlin.ok hok
      have hK5 := HK4.out.below hb5 HK4.out.lt
      have c0 : w5.cell? ⟨B, 0, none⟩ = some (.int .i64 L) := hK5.cell 0
      have c1 : w5.cell? ⟨B, 1, none⟩ = some (.int .i64 C) := hK5.cell 1
      have HB5 : Hid (Below w.heap.size w w5) := HB4.out.trans (hb5.mono HB4.out.size)
      have HBN : Hid (∀ q, Below w.heap.size w (w5.drewN q)) := fun q => drewN_below HB5.out q
      have hle := cut_length_le s.data.toList
      rw [← cutB_length] at hle
      have hsl : s.data.toList.length = s.size := by simp
      have hn : ((cutB s).length : Int) ≤ 1048577 := by omega
      have HLK := Lib.hid hlk
      have HOK := Lib.hid hok
      have HK5 := Lib.hid hK5
      clear hlin hok hlk hb5 hle hsl hK5 HK4
      by_cases g1 : 0 ≤ L
      · obtain ⟨l, rfl⟩ : ∃ l : Nat, L = (l : Int) := ⟨L.toNat, by omega⟩
        by_cases g2 : (l : Int) < ((cutB s).length : Int)
        · have hl : l < (cutB s).length := by omega
          by_cases g3 : 0 ≤ C
          · obtain ⟨k, rfl⟩ : ∃ k : Nat, C = (k : Int) := ⟨C.toNat, by omega⟩
            have hcx : w5.cell? ⟨w4.heap.size, l, none⟩ = some (.string (cutB s)[l]) := by rw [HLK.out.cell, strB_get hl]
            have CI := Lib.hid (fun q => l1In_good l (cutB s).length hl (w5.drewN q))
            have HW := Lib.hid (fun h => offRes_wide (s := s) (C := (k : Int)) hl h)
            have HI := Lib.hid (fun h => offRes_in (s := s) (c := k) HOK.out hl h)
            have hxs : ((cutB s)[l].size : Int) ≤ 300 := by
              have e := cutB_get s l hl
              have h1 : (cut s.data.toList)[l]'(by rw [← cutB_length]; exact hl) ∈ cut s.data.toList := List.getElem_mem _
              have h2 := cut_piece_le _ _ h1
              have h3 : s.data.toList.length = s.size := by simp
              omega
            generalize (cutB s)[l] = X at *
            by_cases g4 : (k : Int) ≤ (X.size : Int)
            · obtain ⟨o, ho, hos, hpo⟩ := HI.out (by omega)
              have er : r = some o := by rw [← HRR.out, ho]
              have hos' : (o : Int) ≤ (s.size : Int) := by omega
              have HPO : Hid (posRes s o = ((l, k), true)) := by unfold Hid; rw [posRes_good HOK.out hos, hpo]
              clear HRR ho hpo HW HI hos
              subst er
              go_wp2_with fail
              go_quiet ((go_at_call 28; exact Calls.quiet_of_same (CI.out _)))
              have cP := fun W => implPosOf s o W (by omega)
              rw [HPO.out] at cP
              have CP := Lib.hid cP
              clear cP
              go_wp2_with fail
              refine (CP.out _).mono ?_
              rintro e w6 ⟨rfl, hb6⟩
              have hB6 : B < w6.heap.size := Nat.lt_of_lt_of_le HK5.out.lt hb6.size
              have d0 : w6.cell? ⟨B, 0, none⟩ = some (.int .i64 (l : Int)) := (hb6.cell (p := ⟨B, 0, none⟩) HK5.out.lt).trans c0
              have d1 : w6.cell? ⟨B, 1, none⟩ = some (.int .i64 (k : Int)) := (hb6.cell (p := ⟨B, 1, none⟩) HK5.out.lt).trans c1
              have HB6 : Hid (Below w.heap.size w w6) := (HBN.out _).trans (hb6.mono HB5.out.size)
              clear hb6 c0 c1
              simp only [posT]
              go_wp2_with fail
              go_ret
              exact ⟨rfl, HB6.out.alloc HB6.out.size _⟩
            · have er : r = none := by rw [← HRR.out]; exact HW.out (by omega)
              have g4' : decide ((k : Int) ≤ (X.size : Int)) = false := decide_eq_false g4
              clear HRR HW HI
              subst er
              go_wp2_with fail
              go_quiet ((go_at_call 28; exact Calls.quiet_of_same (CI.out _)))
              go_wp2_with fail
              go_ret
              exact ⟨rfl, HBN.out _⟩
          · have er : r = none := by rw [← HRR.out]; exact offRes_neg (.inr (by omega))
            have g3' : decide (0 ≤ C) = false := decide_eq_false g3
            clear HRR
            subst er
            go_wp2_with fail
            go_quiet (fail)
            go_wp2_with fail
            go_ret
            exact ⟨rfl, HBN.out _⟩
        · have er : r = none := by rw [← HRR.out]; exact offRes_far (by omega)
          have g2' : decide (l < (cutB s).length) = false := decide_eq_false (by omega)
          clear HRR
          subst er
          go_wp2_with fail
          go_quiet (fail)
          go_wp2_with fail
          go_ret
          exact ⟨rfl, HBN.out _⟩
      · have er : r = none := by rw [← HRR.out]; exact offRes_neg (.inl (by omega))
        have g1' : decide (0 ≤ L) = false := decide_eq_false g1
        clear HRR
        subst er
        go_wp2_with fail
        go_quiet (fail)
        go_wp2_with fail
        go_ret
        exact ⟨rfl, HBN.out _⟩
end Go.Proofs.YtdimljolinmofaaDoor
