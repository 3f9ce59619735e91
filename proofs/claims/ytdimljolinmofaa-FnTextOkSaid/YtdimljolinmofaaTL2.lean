/- The walk of FnTextOk. -/
import Derived.Test.YtdimljolinmofaaT1
import Derived.Test.YtdimljolinmofaaDrawY
namespace Go.Proofs.Ytdimljolinmofaa
open Go.RowKit Ilp
set_option linter.unusedVariables false

def wideT (k : Nat) : List UInt8 := 10 :: List.replicate k 97
theorem wideT_len (k : Nat) : (wideT k).length = k + 1 := by simp [wideT]
theorem wideT_succ (k : Nat) : wideT k ++ [97] = wideT (k + 1) := by simp [wideT, List.replicate_succ']
theorem size_snoc (s : ByteArray) (c : UInt8) : (s ++ ⟨#[c]⟩).size = s.size + 1 := by rw [ByteArray.size_append]; rfl
theorem ok_tab (s : ByteArray) : textOk (s ++ ⟨#[9]⟩).data.toList = false := by
  apply textOk_bad
  rw [ByteArray.data_append, Array.toList_append]; exact ok_bad _ 0 []
theorem ok_wide (s : ByteArray) : textOk (s ++ ⟨(wideT 121).toArray⟩).data.toList = false := by
  apply textOk_bad
  rw [ByteArray.data_append, Array.toList_append]
  show okFrom 0 (s.data.toList ++ 10 :: List.replicate 121 97) = false
  rw [ok_cat, show okFrom 0 (List.replicate 121 97) = false by decide]; simp
theorem ok_both (s t : ByteArray) (hs : textOk s.data.toList = true) (ht : textOk t.data.toList = true) : textOk (s ++ ⟨#[10]⟩ ++ t).data.toList = decide (((s ++ ⟨#[10]⟩ ++ t).size : Int) ≤ 4000) := by
  have h1 : okFrom 0 s.data.toList = true := by unfold textOk at hs; simp at hs; exact hs.2
  have h2 : okFrom 0 t.data.toList = true := by unfold textOk at ht; simp at ht; exact ht.2
  have e : (s ++ ⟨#[10]⟩ ++ t).data.toList = s.data.toList ++ 10 :: t.data.toList := by simp [ByteArray.data_append]
  rw [textOk_good (by rw [e, ok_cat, h1, h2]; rfl)]
  apply decide_eq_decide.2
  have : (s ++ ⟨#[10]⟩ ++ t).data.toList.length = (s ++ ⟨#[10]⟩ ++ t).size := by rw [Array.length_toList]; rfl
  omega

set_option maxHeartbeats 2000000 in
theorem law_FnTextOk (a : Option Addr) (n c : Nat) (z : List Int) (a' : Option Addr) (n' c' : Nat) (z' : List Int) (w : World) (hz : IsRow .u8 w a n c z) (hz' : IsRow .u8 w a' n' c' z') :
    Calls Try.prog 4 #[.slice a n c, .slice a' n' c'] w fun e w' => e = .returned (.bool true) ∧ Below w.heap.size w w' := by
  obtain ⟨_, _, hnc, hn, hc, _⟩ := hz.row
  obtain ⟨_, _, hnc', hn', hc', _⟩ := hz'.row
  have HZ := Lib.hid hz; clear hz
  have HZ' := Lib.hid hz'; clear hz'
  by_cases hbig : (1048576 : Int) < (n : Int)
  · go_enter Try.func4, Try.ntmps4
    go_wp2
    go_ret
    exact ⟨rfl, Below.refl _ _⟩
  · by_cases hbig' : (1048576 : Int) < (n' : Int)
    · go_enter Try.func4, Try.ntmps4
      go_wp2
      go_ret
      exact ⟨rfl, Below.refl _ _⟩
    · have hs : (n : Int) ≤ 1048576 := by omega
      have hs' : (n' : Int) ≤ 1048576 := by omega
      clear hbig hbig'
      go_enter Try.func4, Try.ntmps4
      go_wp2_with fail
      refine (drawTextOk a n c z w HZ.out).mono ?_
      rintro e w1 ⟨s, rfl, hss, hb1⟩
      have hs1 := hb1.size
      have HZ1 : Hid (IsRow .u8 w1 a' n' c' z') := isRow_below HZ'.out hb1
      go_wp2_with fail
      refine (drawTextOk a' n' c' z' w1 HZ1.out).mono ?_
      rintro e w2 ⟨t, rfl, hst, hb2⟩
      have B2 := hb1.trans (hb2.mono hs1)
      have hss' : (s.size : Int) ≤ 5000 := by omega
      have hst' : (t.size : Int) ≤ 5000 := by omega
      go_wp2_with fail
      refine (implTextOk s w2 (by omega)).mono ?_; rintro e w3 ⟨rfl, rfl⟩
      cases ho : textOk s.data.toList with
      | false =>
        have HO := Lib.hid ho; clear ho
        go_wp2_with fail
        refine (specTextOk s w2 (by omega)).mono ?_; rintro e w3 ⟨rfl, rfl⟩
        rw [HO.out]
        go_wp2_with fail
        refine (specTextOk s w2 (by omega)).mono ?_; rintro e w3 ⟨rfl, rfl⟩
        rw [HO.out]
        go_wp2_with fail
        refine (implTextOk s w2 (by omega)).mono ?_; rintro e w3 ⟨rfl, rfl⟩
        rw [HO.out]
        go_wp2_with fail
        refine (specTextOk s w2 (by omega)).mono ?_; rintro e w3 ⟨rfl, rfl⟩
        rw [HO.out]
        go_wp2_with fail
        go_ret
        exact ⟨rfl, B2⟩
      | true =>
        have HO := Lib.hid ho; clear ho
        go_wp2_with fail
        refine (specTextOk s w2 (by omega)).mono ?_; rintro e w3 ⟨rfl, rfl⟩
        rw [HO.out]
        go_wp2_with fail
        refine (specTextOk s w2 (by omega)).mono ?_; rintro e w3 ⟨rfl, rfl⟩
        rw [HO.out]
        go_wp2_with fail
        go_loop [7] (fun v => ∃ k : Nat, v = .string ⟨(wideT k).toArray⟩ ∧ k ≤ 121) (fun v => match v with | .string b => 200 - b.size | _ => 0)
        case atStart => exact ⟨0, rfl, by omega⟩
        case round =>
          obtain ⟨k, rfl, hk⟩ := hrel
          have hwl := wideT_len k
          by_cases hlt : k < 121
          · have h1 : ((wideT k).length : Int) ≤ 121 := by omega
            have HW := Lib.hid hwl; clear hwl
            go_wp2_with fail
            go_round
            case rel => exact ⟨k + 1, by rw [← wideT_succ, ← mk_app], by omega⟩
            case measure =>
              have := HW.out
              show 200 - (ByteArray.mk (wideT k).toArray ++ ⟨#[97]⟩).size < 200 - (ByteArray.mk (wideT k).toArray).size
              rw [ByteArray.size_append, size_mk (wideT k)]; show 200 - ((wideT k).length + 1) < _; omega
          · have hk' : k = 121 := by omega
            obtain ⟨W, hW⟩ : ∃ W, W = wideT k := ⟨_, rfl⟩
            rw [← hW] at hwl ⊢
            have h1 : (121 : Int) < (W.length : Int) := by omega
            have h1' : (W.length : Int) ≤ 122 := by omega
            have HW : Hid (W = wideT 121) := by unfold Hid; rw [hW, hk']
            clear hwl hW hk'
            go_wp2_with fail
            have hz9 := size_snoc s 9
            have c9 := implTextOk (s ++ ⟨#[9]⟩) w2 (by omega)
            refine c9.mono ?_; rintro e w3 ⟨rfl, rfl⟩
            rw [ok_tab]
            clear hz9
            go_wp2_with fail
            have hzw : (s ++ ⟨W.toArray⟩).size = s.size + W.length := by rw [ByteArray.size_append, size_mk W]
            have cW := implTextOk (s ++ ⟨W.toArray⟩) w2 (by omega)
            refine cW.mono ?_; rintro e w3 ⟨rfl, rfl⟩
            rw [show textOk (s ++ ⟨W.toArray⟩).data.toList = false by rw [HW.out]; exact ok_wide s]
            clear hzw
            go_wp2_with fail
            have ct := specTextOk t w2 (by omega)
            refine ct.mono ?_; rintro e w3 ⟨rfl, rfl⟩
            cases hto : textOk t.data.toList with
            | false =>
              clear hto
              go_wp2_with fail
              go_ret
              exact ⟨rfl, B2⟩
            | true =>
              have HB := Lib.hid (ok_both s t HO.out hto)
              have hsz : (s ++ ⟨#[10]⟩ ++ t).size = s.size + 1 + t.size := by rw [ByteArray.size_append, size_snoc]
              have HSZ := Lib.hid hsz
              clear hto hsz
              go_wp2_with fail
              have cB := implTextOk (s ++ ⟨#[10]⟩ ++ t) w2 (by have := HSZ.out; omega)
              refine cB.mono ?_; rintro e w3 ⟨rfl, rfl⟩
              rw [HB.out]
              go_wp2_with fail
              go_ret
              exact ⟨rfl, B2⟩
end Go.Proofs.Ytdimljolinmofaa
