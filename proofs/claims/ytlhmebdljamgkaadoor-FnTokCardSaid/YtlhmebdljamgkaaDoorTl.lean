/- Walk of the reference: TokLine. -/
import Derived.Test.YtlhmebdljamgkaaDoorTz
namespace Go.Proofs.YtlhmebdljamgkaaDoor
open Go.RowKit Ilp
set_option linter.unusedVariables false

def mkB (l : List UInt8) : ByteArray := ⟨l.toArray⟩
theorem mkB_data (l : List UInt8) : (mkB l).data.toList = l := by simp [mkB]
theorem mkB_size (l : List UInt8) : (mkB l).size = l.length := by simp [mkB, ByteArray.size]
theorem data_mkB (s : ByteArray) : mkB s.data.toList = s := by apply ByteArray.ext; simp [mkB]
/-- A word as memory holds it. -/
def toTk (t : T) : Tk := ⟨(t.kind : Int), mkB t.s, (t.col : Int)⟩
def lineToks (s : ByteArray) : List Tk := ((tokLine s.data.toList).getD []).map toTk
def LineR (s : ByteArray) (w : World) (e : Ending) (w' : World) : Prop :=
  ∃ A c, e = .returned (.tuple #[.slice A (lineToks s).length c, .bool (tokLine s.data.toList).isSome]) ∧ (lineToks s).length ≤ c ∧ Mine w' w.heap.size 37 A (tksV (lineToks s)) ∧ Below w.heap.size w w'
theorem lineR_none {s : ByteArray} {w w' : World} (h : tokLine s.data.toList = none) (A : Option Addr) (c : Nat) (hb : Below w.heap.size w w') : LineR s w (.returned (.tuple #[.slice A 0 c, .bool false])) w' := by
  have e : lineToks s = [] := by unfold lineToks; rw [h]; rfl
  exact ⟨A, c, by rw [e, h]; rfl, by rw [e]; exact Nat.zero_le _, by rw [e]; exact .inl rfl, hb⟩
theorem lineR_some {s : ByteArray} {w w' : World} {ts : List T} (h : tokLine s.data.toList = some ts) {A : Option Addr} {c : Nat} (hc : ts.length ≤ c) (hm : Mine w' w.heap.size 37 A (tksV (ts.map toTk))) (hb : Below w.heap.size w w') : LineR s w (.returned (.tuple #[.slice A ts.length c, .bool true])) w' := by
  have e : lineToks s = ts.map toTk := by unfold lineToks; rw [h]; rfl
  exact ⟨A, c, by rw [e, h, List.length_map]; rfl, by rw [e, List.length_map]; exact hc, by rw [e]; exact hm, hb⟩
theorem tokLine_short {s : ByteArray} (h : s.size ≤ 120) : tokLine s.data.toList = words s.data.toList := by unfold tokLine; rw [len_data, if_pos h]
theorem tokLine_long {s : ByteArray} (h : ¬ s.size ≤ 120) : tokLine s.data.toList = none := by unfold tokLine; rw [len_data, if_neg h]
theorem toks_cells (xs : List T) (x : T) : tksV (xs.map toTk) ++ [.int .i64 (x.kind : Int), .string (mkB x.s), .int .i64 (x.col : Int)] = tksV ((xs ++ [x]).map toTk) := by
  rw [List.map_append, tksV_app]; rfl

set_option maxHeartbeats 4000000 in
set_option maxRecDepth 20000 in
theorem specTokLine (s : ByteArray) (w : World) (hs : (s.size : Int) ≤ 4611686018427387904) :
    Calls Tryd.prog 21 #[.string s] w (LineR s w) := by
  by_cases hbig : (120 : Int) < (s.size : Int)
  · have hn := tokLine_long (s := s) (by omega)
    have HR := Lib.hid (lineR_none (w := w) (w' := (w.alloc (.cells #[] 37)).alloc (.cells #[] 37)) hn (some ⟨w.heap.size + 1, 0, none⟩) 0 (by go_grown))
    clear hn
    go_enter Tryd.func21, Tryd.ntmps21
    go_wp2_with fail
    go_returns
    first | exact HR.out | simpa using HR.out
  · have HS := Lib.hid (tokLine_short (s := s) (by omega))
    have hsI : (s.size : Int) ≤ 120 := by omega
    obtain ⟨i0, hi, hz0, hz1, hz2⟩ := info_parts tokInfo
    clear hbig hs
    go_enter Tryd.func21, Tryd.ntmps21
    go_wp2_with fail
    have hown : (w.alloc (.cells #[] 37)).ownsRow w.heap.size 37 3 (.slice (some ⟨w.heap.size, 0, none⟩) 0 0) 0 (tksV (List.map toTk [])) :=
      World.ownsRow_made w #[] 0 (Nat.le_refl _) (by unfold maxLen; omega) rfl
    have HO := Lib.hid hown
    have hbw : Below w.heap.size w (w.alloc (.cells #[] 37)) := by go_grown
    have hsz : w.heap.size < (w.alloc (.cells #[] 37)).heap.size := by simp
    clear hown
    go_loopw [4, 5] (fun v a wr => ∃ (ts : List T) (k : Nat), a = .int .i64 (k : Int) ∧ k ≤ s.size ∧ ts.length ≤ k ∧ Hid (LineInv s.data.toList k ts) ∧ wr.ownsRow w.heap.size 37 3 v ts.length (tksV (ts.map toTk)) ∧ Below w.heap.size w wr ∧ w.heap.size < wr.heap.size) (fun _ a _ => s.size - (intOf a).toNat)
    case atStart => exact ⟨[], 0, rfl, Nat.zero_le _, Nat.le_refl _, lineInv_start _, HO.out, hbw, hsz⟩
    case round =>
      clear HO hbw hsz
      obtain ⟨ts, k, rfl, hk, htk, hinv, hown, hbw, hsz⟩ := hrel
      have HO := Lib.hid hown; clear hown
      have HB := Lib.hid hbw; clear hbw
      by_cases hlt : (k : Int) < (s.size : Int)
      · have hkn : k < s.size := by omega
        have hk0 : (0 : Int) ≤ (k : Int) := by omega
        have hkl : k < s.data.toList.length := by rw [len_data]; exact hkn
        have hgd := get_data s k hkn
        go_wp2_with fail
        refine (l3End s k wr (by omega) hkn).mono ?_
        rintro e w1 ⟨j, rfl, hj1, hj2, hjw, rfl⟩
        have hj := hjw hkn
        clear hjw
        have hkj : (k : Int) ≤ (j : Int) := by omega
        have hjs : (j : Int) ≤ (s.size : Int) := by omega
        by_cases h32 : s[k] = 32
        · have hb : ((s[k].toNat : Int) == 32) = true := by rw [h32]; rfl
          have hbn : ((s[k].toNat : Int) != 32) = false := by simp [bne, hb]
          have hj' : j = k + 1 := by
            have := hj (by rw [h32]; decide)
            rw [wlen_at hkl, hgd, h32] at this
            exact this
          subst hj'
          have HI := Lib.hid (lineInv_space hinv.out hkl (by rw [hgd]; exact h32))
          clear h32 hj hgd
          go_wp2_with fail
          go_roundw
          case rel => exact ⟨ts, k + 1, by go_num, by omega, by omega, HI, HO.out, HB.out, hsz⟩
          case measure => simp [intOf]; omega
        · have hb : ((s[k].toNat : Int) == 32) = false := byte_ne (b := 32) h32
          have hbn : ((s[k].toNat : Int) != 32) = true := by simp [bne, hb]
          have hpd := piece_data s k j
          have hpz : (s.extract k j).size = j - k := by rw [ByteArray.size_extract]; omega
          have CK := specTokKind (s.extract k j) wr (by omega)
          have hdrop : s.data.toList.drop k = s[k] :: s.data.toList.drop (k + 1) := by rw [List.drop_eq_getElem_cons hkl, hgd]
          have hK0 : tokKind (s.extract k j).data.toList = 0 → words s.data.toList = none := by
            intro h0
            refine lineInv_bad hinv.out hkl (by rw [hgd]; exact h32) ?_
            by_cases hc : cls s[k] = 0
            · have hp := wlen_pos (drop_ne hkl)
              obtain ⟨m, hm⟩ : ∃ m, wlen (s.data.toList.drop k) = m + 1 := ⟨wlen (s.data.toList.drop k) - 1, by omega⟩
              rw [hm, hdrop, List.take_succ_cons]
              exact kind_cls hc _
            · have := hj hc
              rw [hpd, show j - k = wlen (s.data.toList.drop k) by omega] at h0
              exact h0
          have hK1 : tokKind (s.extract k j).data.toList ≠ 0 → LineInv s.data.toList j (ts ++ [⟨tokKind (s.extract k j).data.toList, (s.extract k j).data.toList, k⟩]) := by
            intro h0
            have hc : cls s[k] ≠ 0 := by
              intro hc
              apply h0
              obtain ⟨m, hm⟩ : ∃ m, j - k = m + 1 := ⟨j - k - 1, by omega⟩
              rw [hpd, hm, hdrop, List.take_succ_cons]
              exact kind_cls hc _
            have hj' := hj hc
            have e : (s.extract k j).data.toList = (s.data.toList.drop k).take (wlen (s.data.toList.drop k)) := by rw [hpd, show j - k = wlen (s.data.toList.drop k) by omega]
            rw [e] at h0 ⊢
            rw [hj']
            exact lineInv_word hinv.out hkl (by rw [hgd]; exact h32) h0
          have hle := tokKind_le (s.extract k j).data.toList
          obtain ⟨u, hu⟩ : ∃ u, s.extract k j = u := ⟨_, rfl⟩
          rw [hu] at CK hK0 hK1 hle
          generalize hq : tokKind u.data.toList = q at CK hK0 hK1 hle
          have HCK := Lib.hid CK
          have HK0 := Lib.hid hK0
          have HK1 := Lib.hid hK1
          clear CK hK0 hK1 hpd hdrop hpz h32 hgd hj hq
          go_wp2_with fail
          refine HCK.out.mono ?_
          rintro e w1 ⟨rfl, hd1⟩
          have hB1 : Below w.heap.size w w1 := HB.out.trans (hd1.below.mono HB.out.size)
          have hown1 := own_below HO.out hd1.below
          have hs1 := hd1.below.size
          by_cases hq0 : q = 0
          · have hn := HS.out.trans (HK0.out hq0)
            have HR := Lib.hid (lineR_none (w := w) (w' := w1.alloc (.cells #[] 37)) hn (some ⟨w1.heap.size, 0, none⟩) 0 (hB1.alloc hB1.size _))
            subst hq0
            clear hn hown1 hB1
            go_wp2_with fail
            go_returns
            exact HR.out
          · have hq0b : ((q : Int) == 0) = false := by rw [beq_eq_false_iff_ne]; omega
            have HI := Lib.hid (HK1.out hq0)
            have HB1 := Lib.hid hB1
            clear hq0 hB1
            go_wp2_with (at_builtin; refine wpList_append_own _ rfl _ _ 33 rfl w.heap.size 37 i0 (.agg #[.int .i64 0, .string ByteArray.empty, .int .i64 0]) 3 32 Tryd.underlying33 hi hz0 hz1 hz2 rfl (by decide) _ _ _ rfl (hown1.alloc _) ⟨w1.heap.size, 0, none⟩ 1 1 [.int .i64 (q : Int), .string u, .int .i64 (k : Int)] rfl rfl ?c1 ?c2 ?c3 ?c4 ?c5 ?_)
            case c1 =>
              intro j u hj
              match j, hj with
              | 0, hj => simp at hj; subst hj; simp [Addr.add]
              | 1, hj => simp at hj; subst hj; simp [Addr.add]
              | 2, hj => simp at hj; subst hj; simp [Addr.add]
            case c2 => intro u hu; simp at hu; rcases hu with rfl | rfl | rfl <;> rfl
            case c3 => unfold maxLen; omega
            case c4 => omega
            case c5 => simp; omega
            intro v' w4 hown' hgrow _
            have hs4 := hgrow.size
            simp only [World.size_alloc] at hs4
            have hB4 : Below w.heap.size w w4 := (HB1.out.alloc (by omega) _).grown hgrow (by simp; omega) (fun k hk => (HO.out.lt k (by first | exact hk | simpa using hk)).1)
            have hown4 : w4.ownsRow w.heap.size 37 3 v' (ts ++ [(⟨q, u.data.toList, k⟩ : T)]).length (tksV ((ts ++ [(⟨q, u.data.toList, k⟩ : T)]).map toTk)) := by
              rw [← toks_cells]
              simpa [data_mkB] using hown'
            have HO4 := Lib.hid hown4
            have HB4 := Lib.hid hB4
            have hsz4 : w.heap.size < w4.heap.size := by omega
            clear hown' hown4 hB4 hs4 hgrow
            go_wp2_with fail
            go_roundw
            case rel => exact ⟨ts ++ [⟨q, u.data.toList, k⟩], j, rfl, by omega, by simp; omega, HI, HO4.out, HB4.out, hsz4⟩
            case measure => simp [intOf]; omega
      · have hk' : s.size ≤ k := by omega
        have hn := HS.out.trans (lineInv_end hinv.out (by rw [len_data]; exact hk') (by rw [len_data]; exact hk))
        obtain ⟨A', c', hv, hnc, hm⟩ := Mine.of_own HO.out
        subst hv
        have HR := Lib.hid (lineR_some (w := w) hn hnc hm HB.out)
        clear hn hnc hm
        go_wp2_with fail
        go_returns
        exact HR.out
end Go.Proofs.YtlhmebdljamgkaaDoor
