/- Walks: drawn texts. -/
import Derived.Test.YtdimljolinmofaaDoorDrawX
import Derived.Test.YtdimljolinmofaaDoorDraw2
import Derived.Laws.IdiomStrings
namespace Go.Proofs.YtdimljolinmofaaDoor
open Go.RowKit
set_option linter.unusedVariables false

def IsText (m : Nat) (v : Value) : Prop := ∃ s : ByteArray, v = .string s ∧ s.size ≤ m

set_option maxHeartbeats 4000000 in
theorem l1Text (g p : Nat) (w : World) (h : Rd w g p) (hp : (p : Int) ≤ 900) :
    Calls Tryd.prog 41 #[.pointer (some ⟨g, 0, none⟩)] w (Drawn g p 40 (IsText 5000) w) := by
  have hlt := h.lt
  go_enter Tryd.func41, Tryd.ntmps41
  go_wp2_with fail
  refine (l1Line g p w h (by omega)).mono ?_
  rintro e w1 ⟨v1, p1, rfl, ⟨l1, rfl, hl1, _⟩, hp1, hp2, hR, hK⟩
  have HR1 := Lib.hid hR
  have HK1 := Lib.hid hK
  clear hR hK
  go_wp2_with fail
  refine (pick g p1 4 w1 HR1.out (by omega) (by omega) (by omega)).mono ?_
  rintro e w2 ⟨r, rfl, hr0, hr1, hR, hK, hs⟩
  have hr2 := hr1 (by omega)
  have HR2 := Lib.hid hR
  have HK2 := Lib.hid (HK1.out.trans hK)
  have hsz1 := size_mk l1
  have hsz2 : (ByteArray.mk l1.toArray).size ≤ 12 := by omega
  clear hr0 hr1 hs hR hK
  generalize ByteArray.mk l1.toArray = s1 at *
  clear hsz1
  go_wp2_with fail
  go_loopw [3, 4] (fun v i wr => ∃ (s : ByteArray) (k q : Nat), v = .string s ∧ i = .int .i64 (k : Int) ∧ s.size + 13 * k ≤ 51 ∧ q + 5 * k ≤ p + 25 ∧ p ≤ q ∧ k ≤ 3 ∧ Rd wr g q ∧ Keep g w wr) (fun _ i _ => (intOf i).toNat)
  case atStart => exact ⟨s1, r, p1 + 1, rfl, rfl, by omega, by omega, by omega, by omega, HR2.out, HK2.out⟩
  case round =>
    obtain ⟨s, k, q, rfl, rfl, hsz, hq, hpq, hk3, hR, hK⟩ := hrel
    have HR := Lib.hid hR; clear hR
    have HK := Lib.hid hK; clear hK
    have hsz' : (s.size : Int) ≤ 51 := by omega
    by_cases hk0 : k = 0
    · subst hk0
      go_wp2_with fail
      refine (pick g q 40 wr HR.out (by omega) (by omega) (by omega)).mono ?_
      rintro e w4 ⟨r4, rfl, hr0, hr1, hR, hK, hs⟩
      have HR4 := Lib.hid hR
      have HK4 := Lib.hid (HK.out.trans hK)
      clear hr0 hr1 hs hR hK
      have hlt4 := HR4.out.lt
      by_cases e0 : r4 = 0
      · subst e0
        have R : Drawn g p 40 (IsText 5000) w (.returned (.string (s ++ ⟨#[9]⟩))) w4 := ⟨_, q + 1, rfl, ⟨_, rfl, by rw [ByteArray.size_append]; show s.size + 1 ≤ _; omega⟩, by omega, by omega, HR4.out, HK4.out⟩
        have HRes := Lib.hid R
        clear R
        go_wp2_with fail
        go_ret
        exact HRes.out
      · have e0' : ((r4 : Int) == 0) = false := by rw [beq_eq_false_iff_ne]; omega
        by_cases e1 : r4 = 1
        · subst e1
          have hbk : Blk (w4.alloc (.cells (ints [120, 121]).toArray 3)) w4.heap.size 3 (ints [120, 121]) := Blk.alloc_ _ _ _
          have HB := Lib.hid hbk
          clear hbk
          go_wp2_with fail
          refine (numOf g (q + 1) w4.heap.size 2 2 [120, 121] _ (rd_alloc HR4.out _) (by omega) HB.out (by unfold Hid; omega) rfl (by omega) (by omega)).mono ?_
          rintro e w5 ⟨v5, p5, rfl, ⟨x, hx, rfl⟩, hp5, hp6, hR5, hK5⟩
          have HR5 := Lib.hid hR5
          have HK5 := Lib.hid hK5
          obtain ⟨m, rfl, hm⟩ : ∃ m : Nat, x = (m : Int) ∧ m ≤ 121 := by
            simp only [List.mem_cons, List.not_mem_nil, or_false] at hx
            rcases hx with rfl | rfl
            · exact ⟨120, rfl, by omega⟩
            · exact ⟨121, rfl, by omega⟩
          clear hx hR5 hK5
          go_wp2_with fail
          refine (l12Many ⟨#[97]⟩ m 121 w5 (by show 1 * m ≤ 121; omega) (by show 1 ≤ 8000; omega) (by omega) (by omega)).mono ?_
          rintro e w6 ⟨⟨r, rfl, hr⟩, rfl⟩
          have R : Drawn g p 40 (IsText 5000) w (.returned (.string (s ++ ⟨#[10]⟩ ++ r))) w5 := ⟨_, p5, rfl, ⟨_, rfl, by rw [ByteArray.size_append, ByteArray.size_append]; show s.size + 1 + r.size ≤ _; omega⟩, by omega, by omega, HR5.out, (keep_alloc HK4.out _).trans HK5.out⟩
          have HRes := Lib.hid R
          have hr' : (r.size : Int) ≤ 121 := by omega
          clear R
          go_wp2_with fail
          go_ret
          exact HRes.out
        · have e1' : ((r4 : Int) == 1) = false := by rw [beq_eq_false_iff_ne]; omega
          by_cases e2 : r4 = 2
          · subst e2
            go_wp2_with fail
            refine (pick g (q + 1) 2 w4 HR4.out (by omega) (by omega) (by omega)).mono ?_
            rintro e w5 ⟨r5, rfl, hr0, hr1, hR, hK, hs⟩
            have hr5 := hr1 (by omega)
            have HR5 := Lib.hid hR
            have HK5 := Lib.hid (HK4.out.trans hK)
            clear hr0 hr1 hs hR hK
            go_wp2_with fail
            rw [show (1333 + (r5 : Int)) = ((1333 + r5 : Nat) : Int) by omega]
            refine (l12Many ⟨#[97, 98, 10]⟩ (1333 + r5) 4100 w5 (by show 3 * (1333 + r5) ≤ 4100; omega) (by show 3 ≤ 8000; omega) (by omega) (by omega)).mono ?_
            rintro e w6 ⟨⟨r, rfl, hr⟩, rfl⟩
            have R : Drawn g p 40 (IsText 5000) w (.returned (.string r)) w5 := ⟨_, q + 1 + 1, rfl, ⟨_, rfl, by omega⟩, by omega, by omega, HR5.out, HK5.out⟩
            have HRes := Lib.hid R
            clear R
            go_wp2_with fail
            go_ret
            exact HRes.out
          · have e2' : ((r4 : Int) == 2) = false := by rw [beq_eq_false_iff_ne]; omega
            by_cases e3 : r4 = 3
            · subst e3
              have hcv : (convert 22 9 (.slice (some ⟨w4.heap.size, 0, none⟩) 1 1)).run Tryd.prog (w4.alloc (.cells #[.int .u8 200] 5)) = .ok (.string ⟨#[200]⟩) (w4.alloc (.cells #[.int .u8 200] 5)) := by
                refine run_convert_bytes_back _ 22 9 5 ⟨w4.heap.size, 0, none⟩ 1 [200] Tryd.underlying22 Tryd.underlying5 Tryd.underlying9 ?_
                intro j hj
                obtain rfl : j = 0 := by simp at hj; omega
                simp [Addr.add]
              have R : Drawn g p 40 (IsText 5000) w (.returned (.string (s ++ ⟨#[200]⟩))) (w4.alloc (.cells #[.int .u8 200] 5)) := ⟨_, q + 1, rfl, ⟨_, rfl, by rw [ByteArray.size_append]; show s.size + 1 ≤ _; omega⟩, by omega, by omega, rd_alloc HR4.out _, keep_alloc HK4.out _⟩
              have HRes := Lib.hid R
              clear R
              go_wp2_with fail
              go_ret
              exact HRes.out
            · have e3' : ((r4 : Int) == 3) = false := by rw [beq_eq_false_iff_ne]; omega
              have R : Drawn g p 40 (IsText 5000) w (.returned (.string s)) w4 := ⟨_, q + 1, rfl, ⟨_, rfl, by omega⟩, by omega, by omega, HR4.out, HK4.out⟩
              have HRes := Lib.hid R
              clear R
              go_wp2_with fail
              go_ret
              exact HRes.out
    · have hk1 : (0 : Int) < k := by omega
      go_wp2_with fail
      refine (l1Line g q wr HR.out (by omega)).mono ?_
      rintro e w3 ⟨v3, p3, rfl, ⟨l3, rfl, hl3, _⟩, hp3, hp4, hR3, hK3⟩
      have HR3 := Lib.hid hR3
      have HK3 := Lib.hid hK3
      have hsz3 : (ByteArray.mk l3.toArray).size ≤ 12 := by rw [size_mk]; exact hl3
      clear hR3 hK3
      generalize ByteArray.mk l3.toArray = s3 at *
      go_wp2_with fail
      go_roundw
      case rel =>
        refine ⟨s ++ ⟨#[10]⟩ ++ s3, k - 1, p3, rfl, ?_, ?_, by omega, by omega, by omega, HR3.out, HK.out.trans HK3.out⟩
        · congr 1; omega
        · rw [ByteArray.size_append, ByteArray.size_append]; show s.size + 1 + s3.size + _ ≤ _; omega
      case measure => simp [intOf]; omega

/-- A drawn text. -/
def SomeText (w : World) (e : Ending) (w' : World) : Prop := ∃ s : ByteArray, e = .returned (.string s) ∧ s.size ≤ 5000 ∧ Below w.heap.size w w'

set_option maxHeartbeats 1000000 in
theorem drawTextLines (A : Option Addr) (n c : Nat) (z : List Int) (w : World) (hz : IsRow .u8 w A n c z) :
    Calls Tryd.prog 22 #[.slice A n c] w (SomeText w) := by
  go_enter Tryd.func22, Tryd.ntmps22
  go_wp2_with fail
  refine (openIt A n c z w hz).mono ?_
  rintro e w1 ⟨rfl, h1, hb1⟩
  have H1 := Lib.hid h1; clear h1
  go_wp2_with fail
  refine (l1Text w.heap.size 0 w1 H1.out (by omega)).mono ?_
  rintro e w2 ⟨v, p', rfl, ⟨s, rfl, hs⟩, _, _, hR, hK⟩
  have R : SomeText w (.returned (.string s)) w2 := ⟨s, rfl, hs, hb1.trans (hK.below (Nat.le_refl _) hb1.size)⟩
  have HR := Lib.hid R; clear R hR hK
  go_wp2_with fail
  go_ret
  exact HR.out
end Go.Proofs.YtdimljolinmofaaDoor
