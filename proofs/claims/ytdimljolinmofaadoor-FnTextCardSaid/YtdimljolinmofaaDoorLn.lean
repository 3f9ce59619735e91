/- Walks: what TextLines of the program returns. -/
import Derived.Test.YtdimljolinmofaaDoorT1
import Derived.Test.YtdimljolinmofaaDoorSS
import Derived.Test.YtdimljolinmofaaDoorJB
import Derived.Test.YtdimljolinmofaaDoorWit
import Derived.Handy
namespace Go.Proofs.YtdimljolinmofaaDoor
open Go.RowKit Ilp
set_option linter.unusedVariables false

def mkB (l : List UInt8) : ByteArray := ⟨l.toArray⟩
theorem mkB_data (l : List UInt8) : (mkB l).data.toList = l := by simp [mkB]
theorem mkB_size (l : List UInt8) : (mkB l).size = l.length := by simp [mkB, ByteArray.size]
theorem data_mkB (s : ByteArray) : mkB s.data.toList = s := by apply ByteArray.ext; simp [mkB]
/-- The lines of a text. -/
def cutB (s : ByteArray) : List ByteArray := (cut s.data.toList).map mkB
theorem dats_cutB (s : ByteArray) : dats (cutB s) = cut s.data.toList := by
  simp only [dats, cutB, List.map_map]; conv => rhs; rw [← List.map_id (cut s.data.toList)]
  congr 1
theorem dats_inj : ∀ {xs ys : List ByteArray}, dats xs = dats ys → xs = ys := by
  intro xs ys h
  have h1 : xs.map id = ys.map id := by
    have e : ∀ zs : List ByteArray, zs.map id = (dats zs).map mkB := fun zs => by simp only [dats, List.map_map]; congr 1
    rw [e, e, h]
  simpa using h1
theorem split_cutB (s : ByteArray) : Lib.splitB ⟨#[10]⟩ 0 (Lib.countB s ⟨#[10]⟩) s = cutB s ∧ Lib.countB s ⟨#[10]⟩ + 1 = (cutB s).length := by
  have h := splitB_cut s
  refine ⟨dats_inj (by rw [dats_cutB]; exact h.1), by rw [h.2]; simp [cutB]⟩
theorem cutB_length (s : ByteArray) : (cutB s).length = (cut s.data.toList).length := by simp [cutB]
theorem cut_length_le : ∀ (s : List UInt8), (cut s).length ≤ s.length + 1
  | [] => by simp [cut]
  | c :: t => by
    have ih := cut_length_le t
    by_cases h : c = 10
    · subst h; rw [cut_nl]; simp; omega
    · obtain ⟨a, r, e⟩ := cut_cons t
      rw [cut_other h t e]; rw [e] at ih; simp at ih ⊢; omega
theorem cut_piece_le : ∀ (s : List UInt8), ∀ l ∈ cut s, l.length ≤ s.length
  | [], l, h => by simp [cut] at h; simp [h]
  | c :: t, l, h => by
    by_cases hc : c = 10
    · subst hc; rw [cut_nl] at h
      rcases List.mem_cons.1 h with rfl | h
      · simp
      · have := cut_piece_le t l h; simp; omega
    · obtain ⟨a, r, e⟩ := cut_cons t
      rw [cut_other hc t e] at h
      have ih := cut_piece_le t
      rw [e] at ih
      rcases List.mem_cons.1 h with rfl | h
      · have := ih a (by simp); simp; omega
      · have := ih l (by simp [h]); simp; omega

theorem Tabs.keep {w w' : World} (h : Tabs w) (hb : Below w.heap.size w w') : Tabs w' := by
  obtain ⟨m, hm⟩ := h
  exact ⟨m, (hb.cell (cell_lt hm)).trans hm⟩

set_option maxHeartbeats 1000000 in
theorem clipStrs (A : Option Addr) (n c : Nat) (w : World) (hc : n ≤ c) (hn : (n : Int) ≤ 4611686018427387904) :
    Calls Tryd.prog 38 #[.slice A n c] w fun e w' => e = .returned (.slice A n n) ∧ w = w' := by
  go_enter Tryd.func38, Tryd.ntmps38
  go_wp2
  go_ret
  exact ⟨rfl, rfl⟩

/-- What TextLines returns. -/
def Lined (s : ByteArray) (w : World) (e : Ending) (w' : World) : Prop :=
  if textOk s.data.toList = true then e = .returned (.slice (some ⟨w.heap.size, 0, none⟩) (cutB s).length (cutB s).length) ∧ Blk w' w.heap.size 9 (strB (cutB s)) ∧ Below w.heap.size w w'
  else e = .returned (.slice none 0 0) ∧ w = w'
theorem Lined.ok {s : ByteArray} {w w' : World} {e : Ending} (h : Lined s w e w') (ho : textOk s.data.toList = true) : e = .returned (.slice (some ⟨w.heap.size, 0, none⟩) (cutB s).length (cutB s).length) ∧ Blk w' w.heap.size 9 (strB (cutB s)) ∧ Below w.heap.size w w' := by
  unfold Lined at h; rw [if_pos ho] at h; exact h
theorem Lined.bad {s : ByteArray} {w w' : World} {e : Ending} (h : Lined s w e w') (ho : textOk s.data.toList = false) : e = .returned (.slice none 0 0) ∧ w = w' := by
  unfold Lined at h; rw [if_neg (by simp [ho])] at h; exact h

set_option maxHeartbeats 1000000 in
theorem implTextLines (s : ByteArray) (w : World) (hT : Tabs w) (hs : (s.size : Int) ≤ 1048576) :
    Calls Tryd.prog 18 #[.string s] w (Lined s w) := by
  obtain ⟨m, hm⟩ := hT
  go_enter Tryd.func18, Tryd.ntmps18
  go_wp2_with fail
  refine (implTextOk s _ (by omega)).mono ?_; rintro e w2 ⟨rfl, rfl⟩
  cases hok : textOk s.data.toList with
  | false =>
    have R : Lined s w (.returned (.slice none 0 0)) w := by unfold Lined; rw [if_neg (by simp [hok])]; exact ⟨rfl, rfl⟩
    have HR := Lib.hid R; clear R hok
    go_wp2_with fail
    go_ret
    exact HR.out
  | true =>
    have hsp := split_cutB s
    have hle := cut_length_le s.data.toList
    rw [← cutB_length] at hle
    have hle2 : ((cutB s).length : Int) ≤ 1048577 := by
      have : s.data.toList.length = s.size := by simp
      omega
    have R : Lined s w (.returned (.slice (some ⟨w.heap.size, 0, none⟩) (cutB s).length (cutB s).length)) (w.alloc (.cells (strB (cutB s)).toArray 9)) := by
      unfold Lined; rw [if_pos hok]; exact ⟨rfl, Blk.alloc_ _ _ _, (Below.refl _ _).alloc (Nat.le_refl _) _⟩
    have HR := Lib.hid R
    have cS := Tryd.strings_Split s ⟨#[10]⟩ m w (by omega) hm (by decide)
    rw [hsp.1, hsp.2] at cS
    have CS := Lib.hid cS
    have HM := Lib.hid hm
    clear R hok hsp hle cS hm
    go_wp2_with fail
    refine CS.out.mono ?_; rintro e w2 ⟨rfl, rfl⟩
    go_wp2_with fail
    refine (clipStrs _ _ _ _ (Nat.le_refl _) (by omega)).mono ?_; rintro e w2 ⟨rfl, rfl⟩
    go_wp2_with fail
    go_ret
    exact HR.out
end Go.Proofs.YtdimljolinmofaaDoor
