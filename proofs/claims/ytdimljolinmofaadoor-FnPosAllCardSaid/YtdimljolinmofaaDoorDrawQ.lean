/- Walks: a drawn text with a place, or a byte. -/
import Derived.Test.YtdimljolinmofaaDoorDrawY
import Derived.Test.YtdimljolinmofaaDoorOwn
import Derived.Handy
namespace Go.Proofs.YtdimljolinmofaaDoor
open Go.RowKit
set_option linter.unusedVariables false

theorem cut300 (s : ByteArray) : (s.extract 0 300).size ≤ 300 := by rw [ByteArray.size_extract]; omega

def TextPos (w : World) (e : Ending) (w' : World) : Prop := ∃ (s : ByteArray) (L C : Int), e = .returned (.tuple #[.string s, .agg #[.int .i64 L, .int .i64 C]]) ∧ s.size ≤ 300 ∧ -1 ≤ L ∧ L ≤ 4 ∧ -1 ≤ C ∧ C ≤ 8 ∧ Below w.heap.size w w'

set_option maxHeartbeats 4000000 in
theorem drawPosOff (A : Option Addr) (n c : Nat) (z : List Int) (w : World) (hz : IsRow .u8 w A n c z) :
    Calls Tryd.prog 24 #[.slice A n c] w (TextPos w) := by
  have hBW : Below w.heap.size w (w.alloc (.cells #[.int .i64 0, .int .i64 0] 24)) := by go_grown
  have hZ := isRow_below hz hBW
  have hk0 := Blk.alloc_ w 24 [.int .i64 0, .int .i64 0]
  have HZ := Lib.hid hZ
  have HK := Lib.hid hk0
  have HBW := Lib.hid hBW
  clear hZ hk0 hBW hz
  go_enter Tryd.func24, Tryd.ntmps24
  go_wp2_with fail
  refine (openIt A n c z _ HZ.out).mono ?_
  rintro e w1 ⟨rfl, h1, hb1⟩
  have hsz : (w.alloc (.cells #[.int .i64 0, .int .i64 0] 24)).heap.size = w.heap.size + 1 := by simp
  rw [hsz] at h1
  have HR1 := Lib.hid h1
  have HK1 := Lib.hid (HK.out.below hb1 (by simp))
  have HB1 : Hid (Below w.heap.size w w1) := HBW.out.trans (hb1.mono (by omega))
  clear h1 hb1 hsz
  go_wp2_with fail
  refine (l1Text (w.heap.size + 1) 0 w1 HR1.out (by omega)).mono ?_
  rintro e w2 ⟨v, p, rfl, ⟨s, rfl, hs⟩, hp0, hp, hR, hKe⟩
  have HR2 := Lib.hid hR
  have HK2 := Lib.hid (hKe.blk HK1.out (by omega))
  have HB2 : Hid (Below w.heap.size w w2) := HB1.out.trans (hKe.below (by omega) HB1.out.size)
  have hs' : (s.size : Int) ≤ 5000 := by omega
  clear hR hKe
  obtain ⟨t, ht, hst⟩ : ∃ t : ByteArray, t.size ≤ 300 ∧ ((300 : Int) < (s.size : Int) ∧ t = s.extract 0 300 ∨ ¬ (300 : Int) < (s.size : Int) ∧ t = s) := by
    by_cases h : (300 : Int) < (s.size : Int)
    · exact ⟨_, cut300 s, .inl ⟨h, rfl⟩⟩
    · exact ⟨s, by omega, .inr ⟨h, rfl⟩⟩
  have HT := Lib.hid ht
  clear ht
  rcases hst with ⟨hbig, rfl⟩ | ⟨hbig, rfl⟩
  all_goals
    go_wp2_with fail
    refine (pick (w.heap.size + 1) p 5 w2 HR2.out (by omega) (by omega) (by omega)).mono ?_
    rintro e w3 ⟨r1, rfl, _, hr1, hR, hK, _⟩
    have hr1 := hr1 (by omega)
    have HR3 := Lib.hid hR
    have HK3 := Lib.hid (hK.blk HK2.out (by omega))
    have HB3 : Hid (Below w.heap.size w w3) := HB2.out.trans (hK.below (by omega) HB2.out.size)
    clear hR hK
    go_wp2_with fail
    refine (pick (w.heap.size + 1) (p + 1) 9 w3 HR3.out (by omega) (by omega) (by omega)).mono ?_
    rintro e w4 ⟨r2, rfl, _, hr2, hR, hK, _⟩
    have hr2 := hr2 (by omega)
    have HR4 := Lib.hid hR
    have HK4 := Lib.hid (hK.blk HK3.out (by omega))
    have HB4 : Hid (Below w.heap.size w w4) := HB3.out.trans (hK.below (by omega) HB3.out.size)
    clear hR hK
    go_wp2_with fail
    refine (pick (w.heap.size + 1) (p + 1 + 1) 9 w4 HR4.out (by omega) (by omega) (by omega)).mono ?_
    rintro e w5 ⟨r3, rfl, _, hr3, hR, hK, _⟩
    have hr3 := hr3 (by omega)
    have HR5 := Lib.hid hR
    have HK5 := Lib.hid (hK.blk HK4.out (by omega))
    have HB5 : Hid (Below w.heap.size w w5) := HB4.out.trans (hK.below (by omega) HB4.out.size)
    clear hR hK
    go_wp2_with fail
    refine (pick (w.heap.size + 1) (p + 1 + 1 + 1) 9 w5 HR5.out (by omega) (by omega) (by omega)).mono ?_
    rintro e w6 ⟨r4, rfl, _, hr4, hR, hK, _⟩
    have hr4 := hr4 (by omega)
    have hk6 := hK.blk HK5.out (by omega)
    have c0 : w6.cell? ⟨w.heap.size, 0, none⟩ = some (.int .i64 0) := hk6.cell 0
    have c1 : w6.cell? ⟨w.heap.size, 1, none⟩ = some (.int .i64 0) := hk6.cell 1
    have f0 := hk6.frozen 0
    have f1 := hk6.frozen 1
    have HK6 := Lib.hid hk6
    have HB6 : Hid (Below w.heap.size w w6) := HB5.out.trans (hK.below (by omega) HB5.out.size)
    have hd2 : 0 ≤ (r2 : Int) / 8 ∧ (r2 : Int) / 8 ≤ 1 := by omega
    have hd4 : 0 ≤ (r4 : Int) / 8 ∧ (r4 : Int) / 8 ≤ 1 := by omega
    obtain ⟨hd2, hd2'⟩ := hd2
    obtain ⟨hd4, hd4'⟩ := hd4
    clear hR hK hk6
    go_wp2_with fail
    have hfin := (HK6.out.put 0 (.int .i64 ((r1 : Int) - (r2 : Int) / 8))).put 1 (.int .i64 ((r3 : Int) - (r4 : Int) / 8))
    have q0 : ((w6.setCell ⟨w.heap.size, 0, none⟩ (.int .i64 ((r1 : Int) - (r2 : Int) / 8))).setCell ⟨w.heap.size, 1, none⟩ (.int .i64 ((r3 : Int) - (r4 : Int) / 8))).cell? ⟨w.heap.size, 0, none⟩ = some (.int .i64 ((r1 : Int) - (r2 : Int) / 8)) := hfin.cell 0
    have q1 : ((w6.setCell ⟨w.heap.size, 0, none⟩ (.int .i64 ((r1 : Int) - (r2 : Int) / 8))).setCell ⟨w.heap.size, 1, none⟩ (.int .i64 ((r3 : Int) - (r4 : Int) / 8))).cell? ⟨w.heap.size, 1, none⟩ = some (.int .i64 ((r3 : Int) - (r4 : Int) / 8)) := hfin.cell 1
    have hbf : Below w.heap.size w ((w6.setCell ⟨w.heap.size, 0, none⟩ (.int .i64 ((r1 : Int) - (r2 : Int) / 8))).setCell ⟨w.heap.size, 1, none⟩ (.int .i64 ((r3 : Int) - (r4 : Int) / 8))) := (HB6.out.setCell (Nat.le_refl _) _).setCell (Nat.le_refl _) _
    generalize (w6.setCell ⟨w.heap.size, 0, none⟩ (.int .i64 ((r1 : Int) - (r2 : Int) / 8))).setCell ⟨w.heap.size, 1, none⟩ (.int .i64 ((r3 : Int) - (r4 : Int) / 8)) = w7 at *
    refine bodyPost_ret (by simp [results, Tryd.results24, go_sem, q0, q1]; rfl) rfl ?_
    exact ⟨_, _, _, rfl, HT.out, by omega, by omega, by omega, by omega, hbf⟩

theorem l1Min (a b : Int) (w : World) :
    Calls Tryd.prog 42 #[.int .i64 a, .int .i64 b] w fun e w' => e = .returned (.int .i64 (min a b)) ∧ w = w' := by
  by_cases h : a < b
  · have e : Hid (min a b = a) := Int.min_eq_left (by omega)
    go_enter Tryd.func42, Tryd.ntmps42
    go_wp2_with fail
    go_ret
    exact ⟨by rw [e.out]; rfl, rfl⟩
  · have e : Hid (min a b = b) := Int.min_eq_right (by omega)
    go_enter Tryd.func42, Tryd.ntmps42
    go_wp2_with fail
    go_ret
    exact ⟨by rw [e.out]; rfl, rfl⟩

def TextOff (w : World) (e : Ending) (w' : World) : Prop := ∃ (s : ByteArray) (o : Int), e = .returned (.tuple #[.string s, .int .i64 o]) ∧ s.size ≤ 5000 ∧ -1 ≤ o ∧ o ≤ 62 ∧ Below w.heap.size w w'

set_option maxHeartbeats 4000000 in
theorem drawPosOf (A : Option Addr) (n c : Nat) (z : List Int) (w : World) (hz : IsRow .u8 w A n c z) :
    Calls Tryd.prog 25 #[.slice A n c] w (TextOff w) := by
  go_enter Tryd.func25, Tryd.ntmps25
  go_wp2_with fail
  refine (openIt A n c z w hz).mono ?_
  rintro e w1 ⟨rfl, h1, hb1⟩
  have HR1 := Lib.hid h1
  have HB1 := Lib.hid hb1
  clear h1 hb1 hz
  go_wp2_with fail
  refine (l1Text w.heap.size 0 w1 HR1.out (by omega)).mono ?_
  rintro e w2 ⟨v, p, rfl, ⟨s, rfl, hs⟩, hp0, hp, hR, hKe⟩
  have HR2 := Lib.hid hR
  have HB2 : Hid (Below w.heap.size w w2) := HB1.out.trans (hKe.below (Nat.le_refl _) HB1.out.size)
  have hs' : (s.size : Int) ≤ 5000 := by omega
  clear hR hKe
  go_wp2_with fail
  refine (l1Min (s.size : Int) 60 w2).mono ?_
  rintro e w3 ⟨rfl, rfl⟩
  obtain ⟨m, hm⟩ : ∃ m : Int, m = min (s.size : Int) 60 := ⟨_, rfl⟩
  have hm0 : 0 ≤ m ∧ m ≤ 60 := by omega
  obtain ⟨hm0, hm1⟩ := hm0
  rw [← hm]
  clear hm
  go_wp2_with fail
  refine (pick w.heap.size p (m + 3) w2 HR2.out (by omega) (by omega) (by omega)).mono ?_
  rintro e w3 ⟨r, rfl, _, hr, hR, hK, _⟩
  have hr := hr (by omega)
  have R : TextOff w (.returned (.tuple #[.string s, .int .i64 ((r : Int) - 1)])) w3 := ⟨s, _, rfl, hs, by omega, by omega, HB2.out.trans (hK.below (Nat.le_refl _) HB2.out.size)⟩
  have HR := Lib.hid R
  have hr' : (r : Int) ≤ 62 := by omega
  clear R hR hK
  go_wp2_with fail
  go_returns
  exact HR.out
end Go.Proofs.YtdimljolinmofaaDoor
