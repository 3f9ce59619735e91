/- The walk of FnTokText. -/
import Derived.Test.YtlhmebdljamgkaaDoorIl
import Derived.Test.YtlhmebdljamgkaaDoorTK
import Derived.Test.YtlhmebdljamgkaaDoorDrawV
namespace Ilp
def offs (ws : List (List UInt8)) (i : Nat) : Nat := ((ws.take i).map (fun w => w.length + 1)).sum
theorem offs_succ {ws : List (List UInt8)} {i : Nat} (h : i < ws.length) : offs ws (i + 1) = offs ws i + ws[i].length + 1 := by
  unfold offs; rw [List.take_succ_eq_append_getElem h, List.map_append, List.sum_append]; simp; omega
theorem place_at : ∀ (ws : List (List UInt8)) (a i : Nat) (h : i < ws.length), (place a ws)[i]? = some ⟨tokKind ws[i], ws[i], a + offs ws i⟩ := by
  intro ws
  induction ws with
  | nil => intro a i h; simp at h
  | cons w r ih =>
    intro a i h
    cases i with
    | zero => simp [place, offs]
    | succ i =>
      have := ih (a + w.length + 1) i (by simpa using h)
      simp only [place, List.getElem?_cons_succ, List.getElem_cons_succ]
      rw [this]
      simp only [offs, List.take_succ_cons, List.map_cons, List.sum_cons, Option.some.injEq, T.mk.injEq, true_and]
      omega
end Ilp
namespace Go.Proofs.YtlhmebdljamgkaaDoor
open Go.RowKit Ilp
set_option linter.unusedVariables false

theorem lib_join_sp : ∀ (xs : List (List UInt8)), Lib.join xs [32] = Ilp.tokText xs
  | [] => rfl
  | [a] => by simp [Lib.join, Ilp.tokText]
  | a :: b :: r => by
    have ih := lib_join_sp (b :: r)
    rw [Ilp.tokText, ← ih]
    simp [Lib.join]

theorem dats_at {xs : List ByteArray} {i : Nat} (h : i < xs.length) (hd : i < (dats xs).length) : (dats xs)[i] = xs[i].data.toList := by simp [dats]
theorem line_of_words {xs : List ByteArray} (h : ∀ x ∈ xs, Word x.data.toList) (hs : (joinB 32 xs).size ≤ 120) : tokLine (joinB 32 xs).data.toList = some (place 0 (dats xs)) := by
  rw [tokLine_short hs, joinB_data, lib_join_sp]
  exact words_text _ fun w hw => by
    obtain ⟨x, hx, rfl⟩ := List.mem_map.1 hw
    exact h x hx

/-- Drawn words. -/
def SomeWords (w : World) (e : Ending) (w' : World) : Prop := ∃ (xs : List ByteArray) (A : Option Addr) (c : Nat), e = .returned (.slice A xs.length c) ∧ xs.length ≤ c ∧ xs.length ≤ 6 ∧ (∀ x ∈ xs, x.size ≤ 7 ∧ Word x.data.toList) ∧ Row w' w'.heap.size A (strB xs) ∧ Below w.heap.size w w'
set_option maxHeartbeats 4000000 in
set_option maxRecDepth 20000 in
theorem drawTokText (A : Option Addr) (n c : Nat) (z : List Int) (w : World) (hz : IsRow .u8 w A n c z) :
    Calls Tryd.prog 17 #[.slice A n c] w (SomeWords w) := by
  obtain ⟨i0, hi, hz0, hz1, hz2⟩ := info_parts strInfo
  go_enter Tryd.func17, Tryd.ntmps17
  go_wp2_with fail
  refine (openIt A n c z w hz).mono ?_
  rintro e w1 ⟨rfl, h1, hb1⟩
  have H1 := Lib.hid h1; clear h1
  have hlt := H1.out.lt
  have hs1 := hb1.size
  go_wp2_with fail
  refine (pick w.heap.size 0 7 _ (rd_alloc H1.out _) (by omega) (by omega) (by omega)).mono ?_
  rintro e w2 ⟨r, rfl, hr0, hr1, hR, hK, hs⟩
  have hr2 := hr1 (by omega)
  have hown : w2.ownsRow w1.heap.size 9 1 (.slice (some ⟨w1.heap.size, 0, none⟩) 0 0) 0 (strB []) :=
    own_keep (World.ownsRow_made w1 #[] 0 (Nat.le_refl _) (by unfold maxLen; omega) rfl) hK hlt
  have hB2 : Below w.heap.size w w2 := (hb1.alloc hs1 _).trans (hK.below (Nat.le_refl _) (by simp; omega))
  have HO := Lib.hid hown
  have HR := Lib.hid hR
  have hs2 : w1.heap.size < w2.heap.size := by rw [hs]; simp
  clear hr0 hr1 hs hown hR
  go_wp2_with fail
  go_loopw [4, 5] (fun v i wr => ∃ (xs : List ByteArray) (k p : Nat), i = .int .i64 (k : Int) ∧ xs.length + k ≤ 6 ∧ p ≤ 1 + 5 * xs.length ∧ (∀ x ∈ xs, x.size ≤ 7 ∧ Word x.data.toList) ∧ wr.ownsRow w1.heap.size 9 1 v xs.length (strB xs) ∧ Rd wr w.heap.size p ∧ Below w.heap.size w wr ∧ w1.heap.size < wr.heap.size) (fun _ i _ => (intOf i).toNat)
  case atStart => exact ⟨[], r, 1, rfl, by simp; omega, by omega, by simp, HO.out, HR.out, hB2, hs2⟩
  case round =>
    obtain ⟨xs, k, p, rfl, hk, hp, hsm, hown, hR, hbw, hsz⟩ := hrel
    have HO := Lib.hid hown; clear hown
    have HR := Lib.hid hR; clear hR
    have HS := Lib.hid hsm; clear hsm
    by_cases hk0 : k = 0
    · subst hk0
      obtain ⟨A', c', hv, hnc, hrow⟩ := own_row HO.out
      subst hv
      have R : SomeWords w (.returned (.slice A' xs.length c')) wr := ⟨xs, A', c', rfl, hnc, by omega, HS.out, hrow, hbw⟩
      have HRes := Lib.hid R
      clear R hrow
      go_wp2_with fail
      go_ret
      exact HRes.out
    · have hk1 : (0 : Int) < k := by omega
      go_wp2_with fail
      refine (l3Some w.heap.size p wr HR.out (by omega)).mono ?_
      rintro e w3 ⟨v3, p', rfl, ⟨l, hl, rfl⟩, hp1, hp2, hR3, hK3⟩
      have hs3 := hK3.size
      have HR3 := Lib.hid hR3; clear hR3
      have hown3 := own_keep HO.out hK3 hlt
      have HV : Hid ((ByteArray.mk l.toArray).size ≤ 7 ∧ Word (ByteArray.mk l.toArray).data.toList) := ⟨by rw [size_mk]; exact someWords_le l hl, by rw [data_mk]; exact someWords_word l hl⟩
      have hB3 : Below w.heap.size w w3 := hbw.trans (hK3.below (Nat.le_refl _) (by omega))
      clear hl
      generalize ByteArray.mk l.toArray = x at *
      go_wp2_with (at_builtin; refine wpList_append_own _ rfl _ _ 30 rfl w1.heap.size 9 i0 (.string ByteArray.empty) 1 16 Tryd.underlying30 hi hz0 hz1 hz2 rfl (by decide) _ _ _ rfl (hown3.alloc _) ⟨w3.heap.size, 0, none⟩ 1 1 [.string x] rfl rfl ?c1 ?c2 ?c3 ?c4 ?c5 ?_)
      case c1 =>
        intro j u hj
        match j, hj with
        | 0, hj => simp at hj; subst hj; simp [Addr.add]
      case c2 => intro u hu; simp at hu; subst hu; rfl
      case c3 => unfold maxLen; omega
      case c4 => omega
      case c5 => simp; omega
      intro v' w4 hown' hgrow _
      have hs4 := hgrow.size
      simp only [World.size_alloc] at hs4
      have hR4 : Rd w4 w.heap.size p' := rd_grown (rd_alloc HR3.out _) hgrow (fun k hk => by have := (HO.out.lt k (by first | exact hk | simpa using hk)).1; omega)
      have hB4 : Below w.heap.size w w4 := (hB3.alloc (by omega) _).grown hgrow (by simp; omega) (fun k hk => by have := (HO.out.lt k (by first | exact hk | simpa using hk)).1; omega)
      have hown4 : w4.ownsRow w1.heap.size 9 1 v' (xs ++ [x]).length (strB (xs ++ [x])) := by simpa [strB] using hown'
      have HO4 := Lib.hid hown4
      clear hown' hown4 hown3
      go_wp2_with fail
      go_roundw
      case rel =>
        refine ⟨xs ++ [x], k - 1, p', ?_, by simp; omega, by simp; omega, fun y hy => ?_, HO4.out, hR4, hB4, by omega⟩
        · congr 1; omega
        · rcases List.mem_append.1 hy with hy | hy
          · exact HS.out y hy
          · rw [List.mem_singleton] at hy; subst hy; exact HV.out
      case measure => simp [intOf]; omega

theorem sizes_le (m : Nat) : ∀ (xs : List ByteArray), (∀ x ∈ xs, x.size ≤ m) → sizes xs ≤ m * xs.length
  | [], _ => by simp [sizes]
  | x :: xs, h => by
    have := sizes_le m xs fun y hy => h y (by simp [hy])
    have h1 := h x (by simp)
    unfold sizes at this ⊢
    simp only [List.map_cons, List.sum_cons, List.length_cons, Nat.mul_succ]; omega
set_option maxHeartbeats 4000000 in
set_option maxRecDepth 20000 in
theorem law_FnTokText (a : Option Addr) (n c : Nat) (z : List Int) (w : World) (hsh : w.ShapedOpen Tryd.prog) (hT : Tabs w) (hz : IsRow .u8 w a n c z) :
    Calls Tryd.prog 6 #[.slice a n c] w fun e w' => e = .returned (.bool true) ∧ Below w.heap.size w w' := by
  clear hsh
  obtain ⟨_, _, hnc, hn, hc, _⟩ := hz.row
  have HZ := Lib.hid hz; clear hz
  have HT := Lib.hid hT; clear hT
  by_cases hbig : (1048576 : Int) < (n : Int)
  · go_enter Tryd.func6, Tryd.ntmps6
    go_wp2
    go_ret
    exact ⟨rfl, Below.refl _ _⟩
  · clear hnc hc
    go_enter Tryd.func6, Tryd.ntmps6
    go_wp2_with fail
    refine (drawTokText a n c z w HZ.out).mono ?_
    rintro e w1 ⟨xs, A, cA, rfl, hcA, hlen, hwords, hrow, hb1⟩
    obtain ⟨m, hm⟩ : ∃ m, xs.length = m := ⟨_, rfl⟩
    have HM := Lib.hid hm
    have hsz := sizes_le 7 xs fun x hx => (hwords x hx).1
    rw [hm] at hcA hlen hsz ⊢
    have hjs : (joinB 32 xs).size ≤ 120 := by
      have := joinB_le 32 xs xs.length
      rw [joinB_all] at this; omega
    have hline := line_of_words (fun x hx => (hwords x hx).2) hjs
    have hlt : lineToks (joinB 32 xs) = (place 0 (dats xs)).map toTk := by unfold lineToks; rw [hline]; rfl
    have hpl : (lineToks (joinB 32 xs)).length = m := by rw [hlt, List.length_map, place_length]; unfold dats; rw [List.length_map]; exact hm
    have hsome : (tokLine (joinB 32 xs).data.toList).isSome = true := by rw [hline]; rfl
    have hget : ∀ i (h : i < xs.length), (lineToks (joinB 32 xs))[i]? = some ⟨(tokKind xs[i].data.toList : Int), xs[i], ((offs (dats xs) i : Nat) : Int)⟩ := by
      intro i h
      have hd : i < (dats xs).length := by unfold dats; rw [List.length_map]; exact h
      have e : (dats xs)[i] = xs[i].data.toList := dats_at _ hd
      rw [hlt, List.getElem?_map, place_at _ 0 i hd, e]
      simp [toTk, data_mkB]
    have hoff : ∀ i, i < m → offs (dats xs) (i + 1) = offs (dats xs) i + ((xs.getD i ByteArray.empty).size) + 1 := by
      intro i h
      have hx : i < xs.length := by omega
      have hd : i < (dats xs).length := by unfold dats; rw [List.length_map]; exact hx
      rw [offs_succ hd]
      have e : (dats xs)[i] = xs[i].data.toList := dats_at _ hd
      rw [e, List.getD_eq_getElem?_getD, List.getElem?_eq_getElem hx]; simp
    have hoffs : ∀ i, i ≤ m → offs (dats xs) i ≤ 8 * i := by
      intro i
      induction i with
      | zero => intro _; simp [offs]
      | succ i ih =>
        intro h
        have h1 := ih (by omega)
        have h2 := hoff i (by omega)
        have h3 : (xs.getD i ByteArray.empty).size ≤ 7 := by
          have hx : i < xs.length := by omega
          rw [List.getD_eq_getElem?_getD, List.getElem?_eq_getElem hx]
          exact (hwords _ (List.getElem_mem hx)).1
        omega
    have CI := fun W (h : Below w.heap.size w W) => implTokLine (joinB 32 xs) W (HT.out.keep h) (by omega)
    unfold LineR at CI
    rw [hpl, hsome] at CI
    have HCI := Lib.hid CI
    have HROW := Lib.hid hrow
    have HB1 := Lib.hid hb1
    have HGET := Lib.hid hget
    have HOFF := Lib.hid hoff
    have HOFFS := Lib.hid hoffs
    have HSZ : Hid (sizes xs + xs.length ≤ 1048576) := by unfold Hid; omega
    have HWD := Lib.hid hwords
    clear hline hlt hpl hsome hget hoff hoffs CI hrow hb1 hwords hm hsz hbig hn
    go_wp2_with fail
    refine (implTokText A cA m xs w1 HROW.out HM hcA HSZ).mono ?_
    rintro e w2 ⟨rfl, hb2⟩
    have HROW2 := Lib.hid ((HROW.out.below hb2).more hb2.size)
    have HB2 : Hid (Below w.heap.size w w2) := HB1.out.trans (hb2.mono HB1.out.size)
    have hjsI : ((joinB 32 xs).size : Int) ≤ 120 := by omega
    obtain ⟨js, hjs2⟩ : ∃ js, joinB 32 xs = js := ⟨_, rfl⟩
    rw [hjs2] at HCI hjsI hjs ⊢
    have HJ := Lib.hid hjs2
    clear hb2 hjs2
    go_wp2_with fail
    refine (HCI.out w2 HB2.out).mono ?_
    rintro e w3 ⟨A3, c3, rfl, hc3, hm3, hb3⟩
    have HROW3 := Lib.hid ((HROW2.out.below hb3).more hb3.size)
    have hrow3 := hm3.row
    rw [← HJ.out] at hrow3
    have HT3 := Lib.hid hrow3
    clear hrow3
    have HB3 : Hid (Below w.heap.size w w3) := HB2.out.trans (hb3.mono HB2.out.size)
    clear hb3 hm3
    go_wp2_with fail
    refine (specTokText A cA m xs w3 HROW3.out HM (by have := HSZ.out; omega)).mono ?_
    rw [HJ.out]
    rintro e w4 ⟨rfl, rfl⟩
    have hjj : (js.toList == js.toList) = true := by simp
    have hmm : ((m : Int) != (m : Int)) = false := by simp
    go_wp2_with fail
    go_loopw [7, 8] (fun v i wr => ∃ k : Nat, i = .int .i64 (k : Int) ∧ v = .int .i64 ((offs (dats xs) k : Nat) : Int) ∧ k ≤ m ∧ Below w3.heap.size w3 wr) (fun _ i _ => m - (intOf i).toNat)
    case atStart => exact ⟨0, rfl, by simp [offs], Nat.zero_le _, Below.refl _ _⟩
    case round =>
      obtain ⟨k, rfl, rfl, hk, hbw⟩ := hrel
      have HBW := Lib.hid hbw
      clear hbw
      by_cases hlt : k < m
      · have hx : k < xs.length := by rw [HM.out]; exact hlt
        obtain ⟨b, o, rfl, hbb, hcs⟩ := HROW3.out.at_ (i := k) (by rw [strB_length]; exact hx)
        have hcs' : w3.cell? ⟨b, o + k, none⟩ = some (.string xs[k]) := by rw [hcs]; simp [strB]
        have cs := (HBW.out.cell (p := ⟨b, o + k, none⟩) hbb).trans hcs'
        obtain ⟨hxl, hxe⟩ := List.getElem?_eq_some_iff.1 (HGET.out k hx)
        obtain ⟨b', o', rfl, hbb', d0, d1, d2⟩ := HT3.out.tk hxl
        rw [hxe] at d0 d1 d2
        simp only at d0 d1 d2
        have c1 := (HBW.out.cell (p := ⟨b', o' + k * 3 + 1, none⟩) hbb').trans d1
        have c2 := (HBW.out.cell (p := ⟨b', o' + k * 3 + 2, none⟩) hbb').trans d2
        have hstep := HOFF.out k hlt
        rw [List.getD_eq_getElem?_getD, List.getElem?_eq_getElem hx, Option.getD_some] at hstep
        have hb8 := HOFFS.out k hk
        have hw7 := (HWD.out _ (List.getElem_mem hx)).1
        obtain ⟨x, ex⟩ : ∃ x, x = xs[k] := ⟨_, rfl⟩
        rw [← ex] at cs c1 hstep hw7
        obtain ⟨q, hq⟩ : ∃ q, offs (dats xs) k = q := ⟨_, rfl⟩
        rw [hq] at c2 hstep hb8 ⊢
        have HST := Lib.hid hstep
        have e1 : (x.toList == x.toList) = true := by simp
        have e2 : ((q : Int) != (q : Int)) = false := by simp
        have h0 : (0 : Int) ≤ (k : Int) := by omega
        have h1 : (k : Int) < (m : Int) := by omega
        have hw7I : (x.size : Int) ≤ 7 := by omega
        have hqI : (q : Int) ≤ 48 := by omega
        clear hcs hcs' d0 d1 d2 hstep hxe hxl ex hq hx
        go_wp2_with fail
        go_quiet (fail)
        go_wp2_with fail
        go_roundw
        case rel => exact ⟨k + 1, by go_num, by rw [HST.out]; go_num, by omega, drewN_below HBW.out _⟩
        case measure => simp [intOf]; omega
      · obtain rfl : k = m := by omega
        go_wp2_with fail
        go_ret
        exact ⟨rfl, HB3.out.trans (HBW.out.mono HB3.out.size)⟩
end Go.Proofs.YtlhmebdljamgkaaDoor
