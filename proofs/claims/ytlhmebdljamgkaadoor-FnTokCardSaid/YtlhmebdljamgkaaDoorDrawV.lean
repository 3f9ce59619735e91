/- Walks: two drawn lists of words. -/
import Derived.Test.YtlhmebdljamgkaaDoorDrawW
namespace Go.Proofs.YtlhmebdljamgkaaDoor
open Go.RowKit Ilp
set_option linter.unusedVariables false

theorem lineToks_facts (s : ByteArray) : (lineToks s).length ≤ 120 ∧ ∀ t ∈ lineToks s, (0 : Int) ≤ t.col ∧ t.col ≤ 120 ∧ t.s.size ≤ 120 ∧ 1 ≤ t.s.size := by
  unfold lineToks
  cases h : tokLine s.data.toList with
  | none => simp
  | some ts =>
    have hsz : s.size ≤ 120 := by
      by_cases e : s.size ≤ 120
      · exact e
      · rw [tokLine_long e] at h; cases h
    have hw : words s.data.toList = some ts := by rw [← tokLine_short hsz]; exact h
    have hf := toks_words _ _ _ _ hw
    rw [len_data] at hf
    have key : ∀ t ∈ ts, t.col + t.s.length ≤ 120 ∧ 1 ≤ t.s.length := fun t ht => by
      have := hf t ht
      refine ⟨by omega, ?_⟩
      have h1 := this.1.1
      cases e : t.s with
      | nil => exact absurd e h1
      | cons c r => simp
    constructor
    · have hlen : ∀ (f a : Nat) (l : List UInt8) (ts : List T), toks f a l = some ts → ts.length ≤ l.length := by
        intro f
        induction f with
        | zero => intro a l ts h; simp [toks] at h
        | succ f ih =>
          intro a l ts h
          rcases toks_cases l with rfl | ⟨t, rfl⟩ | ⟨hn, hs⟩
          · simp [toks_nil] at h; subst h; simp
          · rw [toks_space] at h
            have := ih _ _ _ h
            simp only [List.length_cons]; omega
          · by_cases hk : tokKind (l.take (wlen l)) = 0
            · rw [toks_bad hn hs hk] at h; cases h
            · rw [toks_word hn hs hk] at h
              have hw := wlen_pos hn
              cases hr : toks f (a + wlen l) (l.drop (wlen l)) with
              | none => rw [hr] at h; cases h
              | some r =>
                rw [hr] at h
                simp only [Option.map_some, Option.some.injEq] at h
                subst h
                have := ih _ _ _ hr
                rw [List.length_drop] at this
                simp only [List.length_cons]; omega
      have := hlen _ _ _ _ hw
      rw [len_data] at this
      simp only [Option.getD_some, List.length_map]; omega
    · intro t ht
      simp only [Option.getD_some, List.mem_map] at ht
      obtain ⟨x, hx, rfl⟩ := ht
      have := key x hx
      simp only [toTk, mkB_size]
      omega

/-- Two lists of words. -/
def TwoToks (w : World) (e : Ending) (w' : World) : Prop := ∃ (ts us : List Tk) (A B : Option Addr) (c c' : Nat), e = .returned (.tuple #[.slice A ts.length c, .slice B us.length c']) ∧ ts.length ≤ c ∧ ts.length ≤ 120 ∧ us.length ≤ 120 ∧ Row w' w'.heap.size A (tksV ts) ∧ Row w' w'.heap.size B (tksV us) ∧ Below w.heap.size w w'
theorem tksV_col : ∀ (us : List Tk) (h : 0 < us.length) (v : Int), (tksV us).set 2 (.int .i64 v) = tksV (⟨us[0].kind, us[0].s, v⟩ :: us.tail)
  | u :: us, _, v => by simp [tksV_cons, tkV]

set_option maxHeartbeats 4000000 in
set_option maxRecDepth 20000 in
theorem drawTokSame (A : Option Addr) (n c : Nat) (z : List Int) (w : World) (hz : IsRow .u8 w A n c z) :
    Calls Tryd.prog 27 #[.slice A n c] w (TwoToks w) := by
  have HZ := Lib.hid hz
  obtain ⟨hrz, hlz, hnc, hn, hc, hw⟩ := hz.row
  have HRZ := Lib.hid hrz
  have HLZ := Lib.hid hlz
  have HWZ := Lib.hid hw
  clear hz hrz hlz hw hnc hc
  go_enter Tryd.func27, Tryd.ntmps27
  go_wp2_with fail
  refine (drawTokLine A n c z w HZ.out).mono ?_
  rintro e w1 ⟨s1, rfl, hs1, hb1⟩
  go_wp2_with fail
  refine (specTokLine s1 w1 (by omega)).mono ?_
  rintro e w2 ⟨A2, c2, rfl, hc2, hm2, hb2⟩
  have hB2 : Below w.heap.size w w2 := hb1.trans (hb2.mono hb1.size)
  have HROW := Lib.hid hm2.row
  have HF1 := Lib.hid (lineToks_facts s1)
  have HC2 := Lib.hid hc2
  generalize lineToks s1 = ts at *
  generalize (tokLine s1.data.toList).isSome = ok1 at *
  have HB2 := Lib.hid hB2
  clear hb1 hb2 hs1 hc2 hm2 hB2
  go_wp2_with fail
  refine (drawTokLine A n c z w2 (isRow_below HZ.out HB2.out)).mono ?_
  rintro e w3 ⟨s3, rfl, hs3, hb3⟩
  have HB3 : Hid (Below w.heap.size w w3) := HB2.out.trans (hb3.mono HB2.out.size)
  have HROW3 := Lib.hid ((HROW.out.below hb3).more hb3.size)
  clear hb3
  go_wp2_with fail
  refine (specTokLine s3 w3 (by omega)).mono ?_
  rintro e w4 ⟨A4, c4, rfl, hc4, hm4, hb4⟩
  have HB4 : Hid (Below w.heap.size w w4) := HB3.out.trans (hb4.mono HB3.out.size)
  have HROW4 := Lib.hid (HROW3.out.below hb4)
  have HF4 := Lib.hid (lineToks_facts s3)
  have HM4 := Lib.hid hm4
  have hs34 := hb4.size
  generalize lineToks s3 = us at *
  generalize (tokLine s3.data.toList).isSome = ok2 at *
  clear hc4 hm4 hb4 hs3 HROW HROW3
  have R : TwoToks w (.returned (.tuple #[.slice A2 ts.length c2, .slice A4 us.length c4])) w4 := ⟨ts, us, A2, A4, c2, c4, rfl, HC2.out, HF1.out.1, HF4.out.1, HROW4.out.more hs34, HM4.out.row, HB4.out⟩
  have HR := Lib.hid R
  clear R
  by_cases hn0 : n = 0
  · subst hn0
    go_wp2_with fail
    go_returns
    exact HR.out
  · have hnp : (0 : Int) < (n : Int) := by omega
    have hzl : 0 < (z.take n).length := by rw [HLZ.out]; omega
    obtain ⟨b, o, eA, hbb, hcell⟩ := HRZ.out.at_ (i := 0) (by simpa using hzl)
    have hcell4 : w4.cell? ⟨b, o, none⟩ = some (.int .u8 (z.take n)[0]) := by
      have := (HB4.out.cell (p := ⟨b, o + 0, none⟩) hbb).trans hcell
      simpa using this
    have hrange := wf_u8 (HWZ.out _ (List.getElem_mem hzl))
    generalize (z.take n)[0] = x at hcell4 hrange
    obtain ⟨x0, x1⟩ := hrange
    subst eA
    clear hcell hzl hn0 HRZ HLZ HWZ
    by_cases hodd : x % 2 = 1
    · have hob : ((x % 2 : Int) == 1) = true := by rw [hodd]; rfl
      by_cases hu0 : us.length = 0
      · rw [hu0] at HR
        clear hodd
        go_wp2_with fail
        go_returns
        exact HR.out
      · have hup : (0 : Int) < (us.length : Int) := by omega
        have hup' : 0 < us.length := by omega
        have hcells : (tksV us)[2]? = some (.int .i64 us[0].col) := tksV_get us 0 2 hup' (by omega)
        have hl2 : 2 < (tksV us).length := by rw [tksV_length]; omega
        obtain ⟨g, rfl, hBg, hcg, hfg, hput⟩ := HM4.out.at_ (i := 2) hl2
        have hcg' : w4.cell? ⟨g, 2, none⟩ = some (.int .i64 us[0].col) := by
          rw [hcg]
          rw [List.getElem?_eq_getElem hl2] at hcells
          exact hcells
        have hcol := HF4.out.2 us[0] (List.getElem_mem hup')
        obtain ⟨q, hq⟩ : ∃ q, q = us[0].col := ⟨_, rfl⟩
        rw [← hq] at hcol hcg'
        have hcol0 := hcol.1
        have hcol1 := hcol.2.1
        have hp := hput (.int .i64 (q + 1))
        rw [tksV_col us hup'] at hp
        have R2 : TwoToks w (.returned (.tuple #[.slice A2 ts.length c2, .slice (some ⟨g, 0, none⟩) us.length c4])) (w4.setCell ⟨g, 2, none⟩ (.int .i64 (q + 1))) :=
          ⟨ts, _, A2, _, c2, c4, by rw [show us.length = ((⟨us[0].kind, us[0].s, q + 1⟩ : Tk) :: us.tail).length by simp; omega], HC2.out, HF1.out.1, by have := HF4.out.1; simp; omega,
            (HROW4.out.below ((Below.refl _ _).setCell hBg _)).more (by simp [World.setCell]; exact hs34), hp.row, HB4.out.setCell (Nat.le_trans HB3.out.size hBg) _⟩
        have HR2 := Lib.hid R2
        clear R2 hp hput hcg hcells hl2 hq hcol hu0 hodd hBg HR
        go_wp2_with fail
        go_returns
        exact HR2.out
    · have hob : ((x % 2 : Int) == 1) = false := by rw [beq_eq_false_iff_ne]; exact hodd
      clear hodd
      go_wp2_with fail
      go_returns
      exact HR.out
end Go.Proofs.YtlhmebdljamgkaaDoor
