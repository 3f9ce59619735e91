/- Walks: drawn letters of numbers. -/
import Derived.Test.YtangjpfookkehaaDrawS
import Derived.Test.YtangjpfookkehaaDrawN
import Derived.Test.YtangjpfookkehaaN2
import Derived.Test.YtangjpfookkehaaOwn
import Derived.Deep.RegionWith
import Derived.Outline
namespace Go.Proofs.Ytangjpfookkehaa
open Go.RowKit Ilp
set_option linter.unusedVariables false

theorem size_mk (l : List UInt8) : (ByteArray.mk l.toArray).size = l.length := by simp [ByteArray.size]
def IsText (m : Nat) (v : Value) : Prop := ∃ s : ByteArray, v = .string s ∧ s.size ≤ m
def tornWords : List (List UInt8) := [[], [97], [65], [98], [80], [122], [80, 80, 80, 80, 80, 80, 80, 80]]

set_option maxHeartbeats 4000000 in
theorem l2Torn (g p : Nat) (w : World) (h : Rd w g p) (hp : (p : Int) ≤ 1000) :
    Calls Try.prog 48 #[.pointer (some ⟨g, 0, none⟩)] w (Drawn g p 8 (IsText 26) w) := by
  have hlt := h.lt
  go_enter Try.func48, Try.ntmps48
  go_wp2_with fail
  refine (pick g p 4 w h (by omega) (by omega) (by omega)).mono ?_
  rintro e w1 ⟨r, rfl, hr0, hr1, hR, hK, hs⟩
  have hr2 := hr1 (by omega)
  have HR := Lib.hid hR
  have HK := Lib.hid hK
  clear hr0 hr1 hs hR hK
  go_wp2_with fail
  go_loopw [3, 4] (fun v i wr => ∃ (s : ByteArray) (k q : Nat), v = .string s ∧ i = .int .i64 (k : Int) ∧ s.size + 6 * k ≤ 18 ∧ k ≤ 3 ∧ q + k ≤ p + 4 ∧ p ≤ q ∧ Rd wr g q ∧ Keep g w wr) (fun _ i _ => (intOf i).toNat)
  case atStart => exact ⟨⟨#[]⟩, r, p + 1, rfl, rfl, by (show 0 + 6 * r ≤ 18); omega, by omega, by omega, by omega, HR.out, HK.out⟩
  case round =>
    obtain ⟨s, k, q, rfl, rfl, hsz, hk, hq, hpq, hR, hK⟩ := hrel
    have HR := Lib.hid hR; clear hR
    have HK := Lib.hid hK; clear hK
    have hsz' : (s.size : Int) ≤ 18 := by omega
    by_cases hk0 : k = 0
    · subst hk0
      by_cases hs0 : s.size = 0
      · have hs0' : ((s.size : Int) == 0) = true := by rw [beq_iff_eq]; omega
        have R : Drawn g p 8 (IsText 26) w (.returned (.string s)) wr := ⟨_, q, rfl, ⟨s, rfl, by omega⟩, by omega, by omega, HR.out, HK.out⟩
        have HRes := Lib.hid R
        clear R hs0
        go_wp2_with fail
        go_ret
        exact HRes.out
      · have hs0' : ((s.size : Int) == 0) = false := by rw [beq_eq_false_iff_ne]; omega
        go_wp2_with fail
        refine (pick g q 2 wr HR.out (by omega) (by omega) (by omega)).mono ?_
        rintro e w2 ⟨r2, rfl, hr0, hr1, hR2, hK2, hs2⟩
        have hr3 := hr1 (by omega)
        have HR2 := Lib.hid hR2
        have HK2 := Lib.hid hK2
        clear hr0 hr1 hs2 hR2 hK2
        by_cases hz : r2 = 0
        · subst hz
          have R : Drawn g p 8 (IsText 26) w (.returned (.string s)) w2 := ⟨_, q + 1, rfl, ⟨s, rfl, by omega⟩, by omega, by omega, HR2.out, HK.out.trans HK2.out⟩
          have HRes := Lib.hid R
          clear R
          go_wp2_with fail
          go_ret
          exact HRes.out
        · have hz' : ((r2 : Int) == 0) = false := by simp; omega
          go_wp2_with fail
          refine (pick g (q + 1) s.size w2 HR2.out (by omega) (by omega) (by omega)).mono ?_
          rintro e w3 ⟨k2, rfl, hr0, hr4, hR3, hK3, hs3⟩
          have hk2 := hr4 (by omega)
          have HR3 := Lib.hid hR3
          have HK3 := Lib.hid hK3
          clear hr0 hr4 hs3 hR3 hK3
          have hx1 : (k2 : Int) < s.size := by omega
          go_wp2_with fail
          have hlt3 := HR3.out.lt
          go_region_with (first
            | (go_at_call 53
               refine (strOf g (q + 2) w3.heap.size 7 7 tornWords _ (by exact rd_alloc HR3.out _) (by omega) (by exact Blk.alloc_ _ _ (strV tornWords)) (by unfold Hid; omega) rfl (by omega) (by omega)).mono ?_
               rintro e w4 ⟨v4, p4, rfl, ⟨l4, hl4, rfl⟩, hp4, hp5, hR4, hK4⟩
               have hsz4 : l4.length ≤ 8 := by simp only [tornWords, List.mem_cons, List.not_mem_nil, or_false] at hl4; rcases hl4 with rfl | rfl | rfl | rfl | rfl | rfl | rfl <;> simp
               have HR4 := Lib.hid hR4
               have HK4 := Lib.hid hK4
               clear hR4 hK4 hl4)
            | (go_at_call 42
               refine (pick g p4 2 w4 HR4.out (by omega) (by omega) (by omega)).mono ?_
               rintro e w5 ⟨r5, rfl, hq0, hq1, hR5, hK5, hq2⟩
               have hr5 := hq1 (by omega)
               have HR5 := Lib.hid hR5
               have HK5 := Lib.hid hK5
               clear hq0 hq1 hq2 hR5 hK5
               have hsum1 : (0 : Int) ≤ (k2 : Int) + (r5 : Int) := by omega
               have hsum2 : (k2 : Int) + (r5 : Int) ≤ s.size := by omega
               have hsum3 : ((k2 : Int) + (r5 : Int)).toNat = k2 + r5 := by omega
               have hsum4 : IntKind.i64.wrap ((k2 : Int) + (r5 : Int)) = (k2 : Int) + (r5 : Int) := by rw [IntKind.wrap_i64]; omega))
          all_goals
            clear hsum3 hsum4
            have R : Drawn g p 8 (IsText 26) w (.returned (.string (s.extract 0 k2 ++ ⟨l4.toArray⟩ ++ s.extract (k2 + r5) s.size))) w5 :=
              ⟨_, p4 + 1, rfl, ⟨_, rfl, by rw [ByteArray.size_append, ByteArray.size_append, size_mk l4, ByteArray.size_extract, ByteArray.size_extract]; omega⟩, by omega, by omega, HR5.out,
                (((((HK.out.trans HK2.out).trans HK3.out).trans (keep_alloc (Keep.refl g w3) _)).drew).trans HK4.out).trans HK5.out⟩
            have HRes := Lib.hid R
            clear R
            go_wp2_with fail
            go_ret
            exact HRes.out
    · have hk1 : (0 : Int) < k := by omega
      go_wp2_with fail
      refine (l2Num g q wr HR.out (by omega)).mono ?_
      rintro e w3 ⟨v3, p', rfl, ⟨x, rfl, hx0, hx1⟩, hp1, hp2, hR3, hK3⟩
      have HR3 := Lib.hid hR3
      have HK3 := Lib.hid hK3
      have hlx := numText_len x
      clear hR3 hK3
      go_wp2_with fail
      refine (specNumText x w3).mono ?_; rintro e w4 ⟨rfl, rfl⟩
      go_wp2_with fail
      go_roundw
      case rel =>
        refine ⟨s ++ ⟨(numText x).toArray⟩, k - 1, p', rfl, ?_, ?_, by omega, by omega, by omega, HR3.out, HK.out.trans HK3.out⟩
        · congr 1; omega
        · rw [ByteArray.size_append, size_mk (numText x)]; omega
      case measure => simp [intOf]; omega
end Go.Proofs.Ytangjpfookkehaa
