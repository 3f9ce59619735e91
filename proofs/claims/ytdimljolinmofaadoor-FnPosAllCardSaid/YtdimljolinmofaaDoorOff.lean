/- Walks: what PosOff of the reference and of the program returns. -/
import Derived.Test.YtdimljolinmofaaDoorPos
import Derived.Test.YtdimljolinmofaaDoorLn
import Derived.BigQuiet
import Derived.Deep.QuietTactic
namespace Go.Proofs.YtdimljolinmofaaDoor
open Go.RowKit Ilp
set_option linter.unusedVariables false

/-- What PosOff returns. -/
def offRes (s : ByteArray) (L C : Int) : Option Nat := if textOk s.data.toList = true ∧ 0 ≤ L ∧ 0 ≤ C then offOf (cut s.data.toList) L.toNat C.toNat else none
def offT (r : Option Nat) : Value := .tuple #[.int .i64 ((r.getD 0 : Nat) : Int), .bool r.isSome]
def Offed (r : Option Nat) (w : World) (e : Ending) (w' : World) : Prop := e = .returned (offT r) ∧ Below w.heap.size w w'
theorem offRes_bad {s : ByteArray} {L C : Int} (h : ¬ (textOk s.data.toList = true ∧ 0 ≤ L ∧ 0 ≤ C)) : offRes s L C = none := if_neg h
theorem offRes_good {s : ByteArray} {l c : Nat} (h : textOk s.data.toList = true) : offRes s l c = offOf (cut s.data.toList) l c := if_pos ⟨h, by omega, by omega⟩
/-- The byte at a place, if its place is that. -/
theorem offRes_hit {s : ByteArray} {L C : Int} {k : Nat} (ho : textOk s.data.toList = true) (hk : k ≤ s.size) (h1 : ((pos (s.data.toList.take k)).1 : Int) = L) (h2 : ((pos (s.data.toList.take k)).2 : Int) = C) : offRes s L C = some k := by
  subst h1 h2
  rw [offRes_good ho]
  exact pos_offOf s.data.toList k (by simpa using hk)
theorem offRes_miss {s : ByteArray} {L C : Int} (h : ∀ j, j ≤ s.size → ¬ (((pos (s.data.toList.take j)).1 : Int) = L ∧ ((pos (s.data.toList.take j)).2 : Int) = C)) : offRes s L C = none := by
  unfold offRes; split
  · rename_i hh
    cases e : offOf (cut s.data.toList) L.toNat C.toNat with
    | none => rfl
    | some i =>
      obtain ⟨h1, h2⟩ := offOf_pos _ _ _ _ e
      exact absurd ⟨by rw [h2]; simp; omega, by rw [h2]; simp; omega⟩ (h i (by simpa using h1))
  · rfl

set_option maxHeartbeats 2000000 in
set_option maxRecDepth 20000 in
theorem specPosOff (s : ByteArray) (L C : Int) (w : World) (hs : (s.size : Int) ≤ 1000000000000) :
    Calls Tryd.prog 15 #[.string s, .agg #[.int .i64 L, .int .i64 C]] w (Offed (offRes s L C) w) := by
  have hB := Blk.alloc_ w 24 [.int .i64 L, .int .i64 C]
  have hBW : Below w.heap.size w (w.alloc (.cells #[.int .i64 L, .int .i64 C] 24)) := (Below.refl _ _).alloc (Nat.le_refl _) _
  have HB := Lib.hid hB
  have HBW := Lib.hid hBW
  clear hB hBW
  go_enter Tryd.func15, Tryd.ntmps15
  go_wp2_with fail
  refine (specTextOk s _ (by omega)).mono ?_; rintro e w2 ⟨rfl, rfl⟩
  cases hok : textOk s.data.toList with
  | false =>
    have R : Offed (offRes s L C) w (.returned (offT none)) (w.alloc (.cells #[.int .i64 L, .int .i64 C] 24)) := ⟨by rw [offRes_bad (by simp [hok])], HBW.out⟩
    have HR := Lib.hid R; clear R hok
    go_wp2_with fail
    go_returns
    exact HR.out
  | true =>
    have HO := Lib.hid hok; clear hok
    go_wp2_with fail
    go_loopw [6] (fun v wr => ∃ k : Nat, v = .int .i64 (k : Int) ∧ k ≤ s.size + 1 ∧ Hid (∀ j, j < k → j ≤ s.size → ¬ (((pos (s.data.toList.take j)).1 : Int) = L ∧ ((pos (s.data.toList.take j)).2 : Int) = C)) ∧ Blk wr w.heap.size 24 [.int .i64 L, .int .i64 C] ∧ Below w.heap.size w wr) (fun v _ => s.size + 1 - (intOf v).toNat)
    case atStart => exact ⟨0, rfl, Nat.zero_le _, fun j hj => by omega, HB.out, HBW.out⟩
    case round =>
      obtain ⟨k, rfl, hk, hmiss, hblk, hbw⟩ := hrel
      have HK := Lib.hid hblk
      have HBW := Lib.hid hbw
      clear hblk hbw
      by_cases hlt : k ≤ s.size
      · have hlt' : (k : Int) ≤ (s.size : Int) := by omega
        have cP := specPosOf s k wr hs
        have hst : Hid (posRes s k = (pos (s.data.toList.take k), true)) := posRes_good HO.out hlt
        rw [hst.out] at cP
        have CP := Lib.hid cP
        clear cP
        have HH : Hid (((pos (s.data.toList.take k)).1 : Int) = L → ((pos (s.data.toList.take k)).2 : Int) = C → offRes s L C = some k) := fun h1 h2 => offRes_hit HO.out hlt h1 h2
        have HN : Hid (¬ (((pos (s.data.toList.take k)).1 : Int) = L ∧ ((pos (s.data.toList.take k)).2 : Int) = C) → ∀ j, j < k + 1 → j ≤ s.size → ¬ (((pos (s.data.toList.take j)).1 : Int) = L ∧ ((pos (s.data.toList.take j)).2 : Int) = C)) := by
          intro h j hj hjs
          by_cases e : j = k
          · subst e; exact h
          · exact hmiss.out j (by omega) hjs
        generalize pos (s.data.toList.take k) = p at *
        obtain ⟨a, b⟩ := p
        go_wp2_with fail
        refine CP.out.mono ?_
        rintro e w3 ⟨rfl, hb3⟩
        have hk3 := HK.out.below hb3 HK.out.lt
        have hs3 := hk3.lt
        have c0 : w3.cell? ⟨w.heap.size, 0, none⟩ = some (.int .i64 L) := by rw [hk3.cell]; rfl
        have c1 : w3.cell? ⟨w.heap.size, 1, none⟩ = some (.int .i64 C) := by rw [hk3.cell]; rfl
        have HK3 := Lib.hid (hk3.alloc (.cells #[.int .i64 (a : Int), .int .i64 (b : Int)] 24))
        have HB3 := Lib.hid (HBW.out.trans ((hb3.mono HBW.out.size).alloc (Nat.le_trans HBW.out.size hb3.size) (.cells #[.int .i64 (a : Int), .int .i64 (b : Int)] 24)))
        clear hb3 hk3
        simp only [posT]
        by_cases ha : (a : Int) = L
        · by_cases hb : (b : Int) = C
          · have R : Offed (offRes s L C) w (.returned (offT (some k))) (w3.alloc (.cells #[.int .i64 (a : Int), .int .i64 (b : Int)] 24)) := ⟨by rw [HH.out ha hb], HB3.out⟩
            have HR := Lib.hid R
            clear R
            subst ha hb
            go_wp2_with fail
            go_returns
            exact HR.out
          · have HN2 := Lib.hid (HN.out (fun h => hb h.2))
            have hb' : ((b : Int) == C) = false := by simp [hb]
            clear hb
            subst ha
            go_wp2_with fail
            go_roundw
            case rel => exact ⟨k + 1, by go_num, by omega, HN2.out, HK3.out, HB3.out⟩
            case measure => simp [intOf]; omega
        · have HN2 := Lib.hid (HN.out (fun h => ha h.1))
          have ha' : ((a : Int) == L) = false := by simp [ha]
          clear ha
          go_wp2_with fail
          go_roundw
          case rel => exact ⟨k + 1, by go_num, by omega, HN2.out, HK3.out, HB3.out⟩
          case measure => simp [intOf]; omega
      · have hlt' : (s.size : Int) < (k : Int) := by omega
        have R : Offed (offRes s L C) w (.returned (offT none)) wr := ⟨by rw [offRes_miss (fun j hj => hmiss.out j (by omega) hj)], HBW.out⟩
        have HR := Lib.hid R
        clear R
        go_wp2_with fail
        go_returns
        exact HR.out

theorem start_mono (ls : List (List UInt8)) : ∀ k, k ≤ ls.length → Ilp.start ls k ≤ Ilp.start ls ls.length := by
  intro k hk
  obtain ⟨d, hd⟩ : ∃ d, ls.length = k + d := ⟨ls.length - k, by omega⟩
  induction d generalizing k with
  | zero => rw [hd]; simp
  | succ d ih =>
    have h1 := ih (k + 1) (by omega) (by omega)
    rw [start_succ ls k (by omega)] at h1
    omega
theorem cutB_get (s : ByteArray) (l : Nat) (h : l < (cutB s).length) : (cutB s)[l].size = ((cut s.data.toList)[l]'(by rw [← cutB_length]; exact h)).length := by
  simp [cutB, mkB_size]
theorem inQ (a lo hi : Int) (b : Bool) (h : (decide (lo ≤ a) && decide (a ≤ hi)) = b) (W : World) (q : Nat) :
    Calls Tryd.prog 36 #[.int .i64 a, .int .i64 lo, .int .i64 hi] (W.drewN q) fun e w' => e = .returned (.bool b) ∧ w' = W.drewN q :=
  (inS a lo hi _).mono fun e w' ⟨he, hw⟩ => ⟨by rw [he, h], hw.symm⟩

set_option maxHeartbeats 4000000 in
set_option maxRecDepth 20000 in
theorem implPosOff (s : ByteArray) (L C : Int) (w : World) (hT : Tabs w) (hs : (s.size : Int) ≤ 1048576) (hL0 : -9223372036854775808 ≤ L) (hL1 : L ≤ 9223372036854775807) (hC0 : -9223372036854775808 ≤ C) (hC1 : C ≤ 9223372036854775807) :
    Calls Tryd.prog 14 #[.string s, .agg #[.int .i64 L, .int .i64 C]] w (Offed (offRes s L C) w) := by
  have hB := Blk.alloc_ w 24 [.int .i64 L, .int .i64 C]
  have hBW : Below w.heap.size w (w.alloc (.cells #[.int .i64 L, .int .i64 C] 24)) := (Below.refl _ _).alloc (Nat.le_refl _) _
  have HT : Hid (Tabs (w.alloc (.cells #[.int .i64 L, .int .i64 C] 24))) := hT.keep hBW
  have HB := Lib.hid hB
  have HBW := Lib.hid hBW
  clear hB hBW hT
  go_enter Tryd.func14, Tryd.ntmps14
  go_wp2_with fail
  refine (implTextLines s _ HT.out hs).mono ?_
  rintro e w2 hlin
  cases hok : textOk s.data.toList with
  | false =>
    obtain ⟨rfl, rfl⟩ := hlin.bad hok
    have R : ∀ q, Offed (offRes s L C) w (.returned (offT none)) ((w.alloc (.cells #[.int .i64 L, .int .i64 C] 24)).drewN q) := fun q => ⟨by rw [offRes_bad (by simp [hok])], drewN_below HBW.out q⟩
    have HR := Lib.hid R
    have hq : (decide ((0 : Int) ≤ L) && decide (L ≤ (-1 : Int))) = false := by simp; omega
    have HQ := Lib.hid (inQ L 0 (-1) false hq (w.alloc (.cells #[.int .i64 L, .int .i64 C] 24)))
    clear R hok hq hlin
    go_wp2_with fail
    go_quiet ((go_at_call 36; exact Calls.quiet_of_same (HQ.out _)))
    go_wp2_with fail
    go_returns
    exact HR.out _
  | true =>
    obtain ⟨rfl, hlk, hb2⟩ := hlin.ok hok
    have hsz : (w.alloc (.cells #[.int .i64 L, .int .i64 C] 24)).heap.size = w.heap.size + 1 := by simp
    rw [hsz] at hlk
    have hk2 := HB.out.below hb2 (by simp)
    have c0 : w2.cell? ⟨w.heap.size, 0, none⟩ = some (.int .i64 L) := by rw [hk2.cell]; rfl
    have c1 : w2.cell? ⟨w.heap.size, 1, none⟩ = some (.int .i64 C) := by rw [hk2.cell]; rfl
    have hbw : Below w.heap.size w w2 := HBW.out.trans (hb2.mono (by omega))
    have hle := cut_length_le s.data.toList
    rw [← cutB_length] at hle
    have hsl : s.data.toList.length = s.size := by simp
    have hn : ((cutB s).length : Int) ≤ 1048577 := by omega
    have HGET := Lib.hid (cutB_get s)
    have HLEN := Lib.hid (cutB_length s)
    have HST : Hid (∀ k, k ≤ (cutB s).length → Ilp.start (cut s.data.toList) k ≤ s.size + 1) := fun k hk => by
      have := start_mono (cut s.data.toList) k (by rw [← cutB_length]; exact hk)
      rw [start_all] at this
      rw [← hsl]; exact this
    have HLK := Lib.hid hlk
    have HBW2 := Lib.hid hbw
    have HOK := Lib.hid hok
    clear hlin hlk hbw hb2 hk2 hle hsl hok
    by_cases hin : 0 ≤ L ∧ L < ((cutB s).length : Int)
    · obtain ⟨l, rfl⟩ : ∃ l : Nat, L = (l : Int) := ⟨L.toNat, by omega⟩
      have hl : l < (cutB s).length := by omega
      have hcx : w2.cell? ⟨w.heap.size + 1, l, none⟩ = some (.string (cutB s)[l]) := by rw [HLK.out.cell, strB_get hl]
      have hzl := HGET.out l hl
      have hz1 : ((cutB s)[l].size : Int) ≤ 1048576 := by
        have h1 : (cut s.data.toList)[l]'(by rw [← HLEN.out]; exact hl) ∈ cut s.data.toList := List.getElem_mem _
        have h2 := cut_piece_le _ _ h1
        have h3 : s.data.toList.length = s.size := by simp
        omega
      have hq1 : (decide ((0 : Int) ≤ (l : Int)) && decide ((l : Int) ≤ ((cutB s).length : Int) - 1)) = true := by simp; omega
      have HQ1 := Lib.hid (inQ l 0 (((cutB s).length : Int) - 1) true hq1 w2)
      obtain ⟨X, hX⟩ : ∃ X, X = (cutB s)[l] := ⟨_, rfl⟩
      rw [← hX] at hcx hzl hz1
      have HZL := Lib.hid hzl
      clear hX hzl hq1
      have hl0 : (0 : Int) ≤ (l : Int) := by omega
      have hl1 : (l : Int) < ((cutB s).length : Int) := by omega
      by_cases hcn : 0 ≤ C ∧ C ≤ (X.size : Int)
      · obtain ⟨c, rfl⟩ : ∃ c : Nat, C = (c : Int) := ⟨C.toNat, by omega⟩
        have hq2 : (decide ((0 : Int) ≤ (c : Int)) && decide ((c : Int) ≤ (X.size : Int))) = true := by simp; omega
        have HQ2 := Lib.hid (inQ c 0 (X.size : Int) true hq2 w2)
        have R : ∀ q, Offed (offRes s l c) w (.returned (offT (some (Ilp.start (cut s.data.toList) l + c)))) (w2.drewN q) := fun q => by
          refine ⟨?_, drewN_below HBW2.out q⟩
          rw [offRes_good HOK.out, offOf_start _ l c (by rw [← HLEN.out]; exact hl) (by have := HZL.out; omega)]
        have HR := Lib.hid R
        have hc1 : (c : Int) ≤ 1048576 := by omega
        have HS2 : Hid (∀ k, k < (cutB s).length → ∃ x : ByteArray, (cutB s)[k]? = some x ∧ Ilp.start (cut s.data.toList) (k + 1) = Ilp.start (cut s.data.toList) k + x.size + 1) := fun k hk => by
          refine ⟨(cutB s)[k], List.getElem?_eq_getElem hk, ?_⟩
          have e1 := start_succ (cut s.data.toList) k (by rw [← HLEN.out]; exact hk)
          have e2 := HGET.out k hk
          omega
        clear R hq2 hcn hin
        go_wp2_with fail
        go_quiet ((first | (go_at_call 36; with_reducible exact Calls.quiet_of_same (HQ1.out _)) | (go_at_call 36; with_reducible exact Calls.quiet_of_same (HQ2.out _))))
        go_wp2_with fail
        go_loop [7, 38] (fun v i => ∃ k : Nat, i = .int .i64 (k : Int) ∧ v = .int .i64 ((c + Ilp.start (cut s.data.toList) k : Nat) : Int) ∧ k ≤ l) (fun _ i => l - (intOf i).toNat)
        case atStart => exact ⟨0, rfl, by simp [Ilp.start], Nat.zero_le _⟩
        case round =>
          obtain ⟨k, rfl, rfl, hk⟩ := hrel
          by_cases hlt : k < l
          · obtain ⟨x, hx, hxs⟩ := HS2.out k (by omega)
            have hcx : w2.cell? ⟨w.heap.size + 1, k, none⟩ = some (.string x) := by rw [HLK.out.cell]; simp [strB, hx]
            have hb := HST.out (k + 1) (by omega)
            have hb1 : ((Ilp.start (cut s.data.toList) k : Nat) : Int) + (x.size : Int) + 1 ≤ 1048577 := by omega
            have HXS := Lib.hid hxs
            have hkl : (k : Int) < (l : Int) := by omega
            clear hx hxs hb
            generalize hst : Ilp.start (cut s.data.toList) k = st at *
            go_wp2_with fail
            go_round
            case rel => exact ⟨k + 1, by go_num, by have := HXS.out; rw [this]; go_num, by omega⟩
            case measure => simp [intOf]; omega
          · obtain rfl : k = l := by omega
            have e : offT (some (Ilp.start (cut s.data.toList) k + c)) = .tuple #[.int .i64 ((c + Ilp.start (cut s.data.toList) k : Nat) : Int), .bool true] := by simp [offT, Nat.add_comm]
            have HE := Lib.hid e
            clear e
            go_wp2_with fail
            go_returns
            have := HR.out
            rw [HE.out] at this
            exact this _
      · have hq2 : (decide ((0 : Int) ≤ C) && decide (C ≤ (X.size : Int))) = false := by simp; omega
        have HQ2 := Lib.hid (inQ C 0 (X.size : Int) false hq2 w2)
        have R : ∀ q, Offed (offRes s l C) w (.returned (offT none)) (w2.drewN q) := fun q => by
          refine ⟨?_, drewN_below HBW2.out q⟩
          congr 2
          symm
          unfold offRes; split
          · exact offOf_none _ _ _ (fun h hc => hcn ⟨by omega, by have := HZL.out; simp only [Int.toNat_natCast] at hc; omega⟩)
          · rfl
        have HR := Lib.hid R
        clear R hq2 hcn hin
        go_wp2_with fail
        go_quiet ((first | (go_at_call 36; with_reducible exact Calls.quiet_of_same (HQ1.out _)) | (go_at_call 36; with_reducible exact Calls.quiet_of_same (HQ2.out _))))
        go_wp2_with fail
        go_returns
        exact HR.out _
    · have hq : (decide ((0 : Int) ≤ L) && decide (L ≤ ((cutB s).length : Int) - 1)) = false := by simp; omega
      have HQ := Lib.hid (inQ L 0 (((cutB s).length : Int) - 1) false hq w2)
      have R : ∀ q, Offed (offRes s L C) w (.returned (offT none)) (w2.drewN q) := fun q => by
        refine ⟨?_, drewN_below HBW2.out q⟩
        congr 2
        symm
        unfold offRes; split
        · exact offOf_none _ _ _ (fun h => absurd h (by rw [← HLEN.out]; omega))
        · rfl
      have HR := Lib.hid R
      clear R hq hin
      go_wp2_with fail
      go_quiet ((go_at_call 36; exact Calls.quiet_of_same (HQ.out _)))
      go_wp2_with fail
      go_returns
      exact HR.out _
end Go.Proofs.YtdimljolinmofaaDoor
