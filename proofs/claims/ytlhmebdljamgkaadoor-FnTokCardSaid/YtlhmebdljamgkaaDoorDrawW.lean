/- Walks: drawn words and lines of words. -/
import Derived.Test.YtlhmebdljamgkaaDoorDrawX
import Derived.Test.YtlhmebdljamgkaaDoorTl
namespace Go.Proofs.YtlhmebdljamgkaaDoor
open Go.RowKit Ilp
set_option linter.unusedVariables false

def someWords : List (List UInt8) := [[108, 101, 116], [115, 97, 121], [120], [121], [97, 115], [105, 110, 116], [49], [50, 48], [48], [43], [42], [40], [41], [58], [61], [60], [45], [49, 48, 48, 48, 48, 48, 48]]
def bentWords : List (List UInt8) := [[], [88], [48, 49], [97, 98, 99, 100, 101, 102, 103, 104, 105], [49, 48, 48, 48, 48, 48, 49], [43, 45], [63], [97, 49], [45, 49]]
theorem someWords_le : ∀ l ∈ someWords, l.length ≤ 7 := by decide
theorem bentWords_le : ∀ l ∈ bentWords, l.length ≤ 9 := by decide
theorem someWords_word : ∀ l ∈ someWords, l ≠ [] ∧ l.head? ≠ some 32 ∧ wlen l = l.length ∧ tokKind l ≠ 0 := by decide

set_option maxHeartbeats 2000000 in
set_option maxRecDepth 20000 in
theorem l3Some (g p : Nat) (w : World) (h : Rd w g p) (hp : (p : Int) ≤ 1000000) :
    Calls Tryd.prog 41 #[.pointer (some ⟨g, 0, none⟩)] w (Drawn g p 1 (fun v => ∃ l ∈ someWords, v = .string ⟨l.toArray⟩) w) := by
  have hlt := h.lt
  have H := Lib.hid h
  clear h
  go_enter Tryd.func41, Tryd.ntmps41
  go_wp2_with fail
  refine (strOf g p w.heap.size 18 18 someWords _ (by exact rd_alloc H.out _) (by omega) (by exact Blk.alloc_ _ _ (strV someWords)) (by unfold Hid; omega) rfl (by omega) (by omega)).mono ?_
  rintro e w3 ⟨v3, p', rfl, ⟨m, hm, rfl⟩, hp1, hp2, hR3, hK3⟩
  have R : Drawn g p 1 (fun v => ∃ l ∈ someWords, v = .string ⟨l.toArray⟩) w (.returned (.string ⟨m.toArray⟩)) w3 := ⟨_, p', rfl, ⟨m, hm, rfl⟩, hp1, hp2, hR3, (keep_alloc (Keep.refl _ _) _).trans hK3⟩
  have HR := Lib.hid R
  clear R hm hp1 hp2 hR3 hK3
  go_wp2_with fail
  go_ret
  exact HR.out

def IsText (m : Nat) (v : Value) : Prop := ∃ s : ByteArray, v = .string s ∧ s.size ≤ m
set_option maxHeartbeats 2000000 in
set_option maxRecDepth 20000 in
theorem l3Bent (g p : Nat) (w : World) (h : Rd w g p) (hp : (p : Int) ≤ 1000) :
    Calls Tryd.prog 39 #[.pointer (some ⟨g, 0, none⟩)] w (Drawn g p 2 (IsText 9) w) := by
  have hlt := h.lt
  go_enter Tryd.func39, Tryd.ntmps39
  go_wp2_with fail
  refine (pick g p 8 w h (by omega) (by omega) (by omega)).mono ?_
  rintro e w1 ⟨r, rfl, hr0, hr1, hR, hK, hs⟩
  have HR := Lib.hid hR
  have HK := Lib.hid hK
  have hlt1 := hR.lt
  clear hr0 hr1 hs hR hK h
  by_cases hr : r = 0
  · subst hr
    go_wp2_with fail
    refine (strOf g (p + 1) w1.heap.size 9 9 bentWords _ (by exact rd_alloc HR.out _) (by omega) (by exact Blk.alloc_ _ _ (strV bentWords)) (by unfold Hid; omega) rfl (by omega) (by omega)).mono ?_
    rintro e w3 ⟨v3, p', rfl, ⟨m, hm, rfl⟩, hp1, hp2, hR3, hK3⟩
    have R : Drawn g p 2 (IsText 9) w (.returned (.string ⟨m.toArray⟩)) w3 := ⟨_, p', rfl, ⟨_, rfl, by rw [size_mk]; exact bentWords_le m hm⟩, by omega, by omega, hR3, (keep_alloc HK.out _).trans hK3⟩
    have HRes := Lib.hid R
    clear R hm hp1 hp2 hR3 hK3
    go_wp2_with fail
    go_ret
    exact HRes.out
  · have hrb : ((r : Int) == 0) = false := by rw [beq_eq_false_iff_ne]; omega
    clear hr
    go_wp2_with fail
    refine (l3Some g (p + 1) w1 HR.out (by omega)).mono ?_
    rintro e w3 ⟨v3, p', rfl, ⟨m, hm, rfl⟩, hp1, hp2, hR3, hK3⟩
    have R : Drawn g p 2 (IsText 9) w (.returned (.string ⟨m.toArray⟩)) w3 := ⟨_, p', rfl, ⟨_, rfl, by rw [size_mk]; have := someWords_le m hm; omega⟩, by omega, by omega, hR3, HK.out.trans hK3⟩
    have HRes := Lib.hid R
    clear R hm hp1 hp2 hR3 hK3
    go_wp2_with fail
    go_ret
    exact HRes.out

def gapWords : List (List UInt8) := [[32], [32], [32, 32], []]
def headWords : List (List UInt8) := [[], [], [32]]
/-- A drawn line. -/
def SomeLine (w : World) (e : Ending) (w' : World) : Prop := ∃ s : ByteArray, e = .returned (.string s) ∧ s.size ≤ 200 ∧ Below w.heap.size w w'

set_option maxHeartbeats 4000000 in
set_option maxRecDepth 20000 in
theorem drawTokLine (A : Option Addr) (n c : Nat) (z : List Int) (w : World) (hz : IsRow .u8 w A n c z) :
    Calls Tryd.prog 25 #[.slice A n c] w (SomeLine w) := by
  go_enter Tryd.func25, Tryd.ntmps25
  go_wp2_with fail
  refine (openIt A n c z w hz).mono ?_
  rintro e w1 ⟨rfl, h1, hb1⟩
  have H1 := Lib.hid h1; clear h1
  have hlt1 := H1.out.lt
  have hs1 := hb1.size
  have HB1 := Lib.hid hb1
  clear hb1 hz
  go_wp2_with fail
  refine (strOf w.heap.size 0 w1.heap.size 3 3 headWords _ (by exact rd_alloc H1.out _) (by omega) (by exact Blk.alloc_ _ _ (strV headWords)) (by unfold Hid; omega) rfl (by omega) (by omega)).mono ?_
  rintro e w2 ⟨v2, p2, rfl, ⟨m2, hm2, rfl⟩, hp1, hp2, hR2, hK2⟩
  have hm3 : m2.length ≤ 1 := by
    have : ∀ l ∈ headWords, l.length ≤ 1 := by decide
    exact this m2 hm2
  have hsz2 : (ByteArray.mk m2.toArray).size ≤ 1 := by rw [size_mk]; exact hm3
  have hB2 : Below w.heap.size w w2 := (HB1.out.alloc hs1 _).trans (hK2.below (Nat.le_refl _) (by simp; omega))
  have HR2 := Lib.hid hR2
  have HB2 := Lib.hid hB2
  generalize ByteArray.mk m2.toArray = s2 at *
  clear hm2 hm3 hR2 hK2 hB2 HB1 H1 hlt1 hs1
  go_wp2_with fail
  refine (pick w.heap.size p2 8 w2 HR2.out (by omega) (by omega) (by omega)).mono ?_
  rintro e w3 ⟨r, rfl, hr0, hr1, hR, hK, hs⟩
  have hr2 := hr1 (by omega)
  have HR3 := Lib.hid hR
  have hB3 : Below w.heap.size w w3 := HB2.out.trans (hK.below (Nat.le_refl _) HB2.out.size)
  have HB3 := Lib.hid hB3
  clear hr0 hr1 hs hR hK hB3 HR2 HB2
  go_wp2_with fail
  go_loopw [4, 5] (fun v i wr => ∃ (s : ByteArray) (k q : Nat), v = .string s ∧ i = .int .i64 (k : Int) ∧ s.size + 11 * k ≤ 78 ∧ q + 3 * k ≤ 30 ∧ Rd wr w.heap.size q ∧ Below w.heap.size w wr) (fun _ i _ => (intOf i).toNat)
  case atStart => exact ⟨s2, r, p2 + 1, rfl, rfl, by omega, by omega, HR3.out, HB3.out⟩
  case round =>
    obtain ⟨s, k, q, rfl, rfl, hsz, hq, hR, hB⟩ := hrel
    have HR := Lib.hid hR; clear hR
    have HB := Lib.hid hB; clear hB
    have hszI : (s.size : Int) ≤ 78 := by omega
    by_cases hk0 : k = 0
    · subst hk0
      go_wp2_with fail
      refine (pick w.heap.size q 40 wr HR.out (by omega) (by omega) (by omega)).mono ?_
      rintro e w4 ⟨r4, rfl, hr0, hr1, hR, hK, hs⟩
      have HR4 := Lib.hid hR
      have hB4 : Below w.heap.size w w4 := HB.out.trans (hK.below (Nat.le_refl _) HB.out.size)
      have HB4 := Lib.hid hB4
      clear hr0 hr1 hs hR hK hB4
      by_cases e0 : r4 = 0
      · subst e0
        go_wp2_with fail
        refine (pick w.heap.size (q + 1) 2 w4 HR4.out (by omega) (by omega) (by omega)).mono ?_
        rintro e w5 ⟨r5, rfl, hr0, hr1, hR, hK, hs⟩
        have hr5 := hr1 (by omega)
        have hB5 : Below w.heap.size w w5 := HB4.out.trans (hK.below (Nat.le_refl _) HB4.out.size)
        have HB5 := Lib.hid hB5
        have hcast : (60 : Int) + (r5 : Int) = ((60 + r5 : Nat) : Int) := by omega
        have HM := Lib.hid (l12Many ⟨#[120, 32]⟩ (60 + r5) 122 w5 (by show 2 * (60 + r5) ≤ 122; omega) (by decide) (by omega) (by omega))
        have HCast := Lib.hid hcast
        clear hr0 hr1 hs hR hK hB5 hcast
        go_wp2_with fail
        rw [HCast.out]
        refine HM.out.mono ?_
        rintro e w6 ⟨⟨u, rfl, hu⟩, rfl⟩
        have R : SomeLine w (.returned (.string u)) w5 := ⟨u, rfl, by omega, HB5.out⟩
        have HRes := Lib.hid R
        clear R
        go_wp2_with fail
        go_ret
        exact HRes.out
      · have e0' : ((r4 : Int) == 0) = false := by rw [beq_eq_false_iff_ne]; omega
        have R : SomeLine w (.returned (.string s)) w4 := ⟨s, rfl, by omega, HB4.out⟩
        have HRes := Lib.hid R
        clear R
        go_wp2_with fail
        go_ret
        exact HRes.out
    · have hk1 : (0 : Int) < k := by omega
      go_wp2_with fail
      refine (l3Bent w.heap.size q wr HR.out (by omega)).mono ?_
      rintro e w3' ⟨v3, p', rfl, ⟨u, rfl, hu⟩, hp1', hp2', hR3, hK3⟩
      have HR3' := Lib.hid hR3
      have hB3 : Below w.heap.size w w3' := HB.out.trans (hK3.below (Nat.le_refl _) HB.out.size)
      have HB3' := Lib.hid hB3
      have hlt3 := hR3.lt
      clear hR3 hK3 hB3
      go_wp2_with fail
      refine (strOf w.heap.size p' w3'.heap.size 4 4 gapWords _ (by exact rd_alloc HR3'.out _) (by omega) (by exact Blk.alloc_ _ _ (strV gapWords)) (by unfold Hid; omega) rfl (by omega) (by omega)).mono ?_
      rintro e w5 ⟨v5, p5, rfl, ⟨m5, hm5, rfl⟩, hp51, hp52, hR5, hK5⟩
      have hml : m5.length ≤ 2 := by
        have : ∀ l ∈ gapWords, l.length ≤ 2 := by decide
        exact this m5 hm5
      have hsz5 : (ByteArray.mk m5.toArray).size ≤ 2 := by rw [size_mk]; exact hml
      have hB5 : Below w.heap.size w w5 := (HB3'.out.alloc HB3'.out.size _).trans (hK5.below (Nat.le_refl _) (by simp; have := HB3'.out.size; omega))
      have HB5 := Lib.hid hB5
      have HR5 := Lib.hid hR5
      generalize ByteArray.mk m5.toArray = s5 at *
      clear hm5 hml hB5 hR5 hK5
      go_wp2_with fail
      go_roundw
      case rel =>
        refine ⟨s ++ u ++ s5, k - 1, p5, rfl, ?_, by rw [ByteArray.size_append, ByteArray.size_append]; omega, by omega, HR5.out, HB5.out⟩
        congr 1; omega
      case measure => simp [intOf]; omega
end Go.Proofs.YtlhmebdljamgkaaDoor
