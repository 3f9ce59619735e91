/- The walk of FnText. -/
import Derived.Test.YtdimljolinmofaaDoorTLL
import Derived.Test.YtdimljolinmofaaDoorTJ
import Derived.Test.YtdimljolinmofaaDoorDrawY
import Derived.BigQuiet
import Derived.Deep.QuietTactic
namespace Go.Proofs.YtdimljolinmofaaDoor
open Go.RowKit Ilp
set_option linter.unusedVariables false

theorem start_lens : ∀ ls : List (List UInt8), Ilp.start ls ls.length = Lib.lens ls + ls.length
  | [] => rfl
  | a :: r => by
    have := start_lens r
    simp only [List.length_cons, Ilp.start, Lib.lens, List.map_cons, List.sum_cons] at this ⊢
    omega
theorem sizes_cutB (s : ByteArray) : sizes (cutB s) + (cutB s).length = s.size + 1 := by
  have h1 := start_lens (cut s.data.toList)
  rw [start_all] at h1
  rw [← dats_lens, dats_cutB, cutB_length, ← h1]
  simp
theorem join_cutB (s : ByteArray) : joinB 10 (cutB s) = s := by
  apply ByteArray.ext; apply Array.ext'
  rw [joinB_data, dats_cutB, lib_join_nl, join_cut]

/-- A line that can be seen, of at most 12 bytes. -/
def Vis (x : ByteArray) : Prop := x.size ≤ 12 ∧ ∀ c ∈ x.data.toList, 32 ≤ c.toNat ∧ c.toNat ≤ 126
theorem ok_vis : ∀ (l : List UInt8) (w : Nat), w + l.length ≤ 120 → (∀ c ∈ l, 32 ≤ c.toNat ∧ c.toNat ≤ 126) → okFrom w l = true
  | [], _, _, _ => rfl
  | c :: t, w, h, hc => by
    have h1 := hc c (by simp)
    have hn : c ≠ 10 := by rintro rfl; revert h1; decide
    simp only [List.length_cons] at h
    rw [okFrom, if_neg hn, ok_vis t (w + 1) (by omega) (fun d hd => hc d (by simp [hd])), decide_eq_true h1.1, decide_eq_true h1.2, decide_eq_true (by omega)]; rfl
theorem vis_ne {x : ByteArray} (h : Vis x) : ∀ c ∈ x.data.toList, c ≠ 10 := by
  intro c hc e
  have := h.2 c hc
  subst e; revert this; decide
theorem lines_join {xs : List ByteArray} (h0 : xs ≠ []) (hn : xs.length ≤ 4) (h : ∀ x ∈ xs, Vis x) : linesOf (joinB 10 xs) = xs := by
  have hd : ∀ a ∈ dats xs, ∀ c ∈ a, c ≠ 10 := by
    intro a ha
    obtain ⟨x, hx, rfl⟩ := List.mem_map.1 ha
    exact vis_ne (h x hx)
  have hlen : (joinB 10 xs).size ≤ 4000 := by
    have h1 := joinB_le 10 xs xs.length
    rw [List.take_length] at h1
    have h2 : ∀ ys : List ByteArray, (∀ x ∈ ys, Vis x) → sizes ys ≤ 12 * ys.length := by
      intro ys
      induction ys with
      | nil => intro _; simp [sizes]
      | cons y ys ih =>
        intro hy
        have h3 := ih (fun x hx => hy x (by simp [hx]))
        have h4 := (hy y (by simp)).1
        simp only [sizes, List.map_cons, List.sum_cons, List.length_cons] at h3 ⊢; omega
    have := h2 xs h
    omega
  have hok : textOk (joinB 10 xs).data.toList = true := by
    have h5 : okFrom 0 (joinB 10 xs).data.toList = true := by
      rw [joinB_data, lib_join_nl]
      apply ok_lines
      intro a ha
      obtain ⟨x, hx, rfl⟩ := List.mem_map.1 ha
      have hv := h x hx
      refine ok_vis _ 0 ?_ hv.2
      have : x.data.toList.length = x.size := by simp
      have := hv.1
      omega
    rw [textOk_good h5]
    have : (joinB 10 xs).data.toList.length = (joinB 10 xs).size := by simp
    exact decide_eq_true (by omega)
  rw [linesOf_ok hok]
  apply dats_inj
  rw [dats_cutB, joinB_data, lib_join_nl]
  exact cut_join _ (by intro e; apply h0; simpa [dats] using e) hd
theorem lines_nil : linesOf (joinB 10 []) = [⟨#[]⟩] := by
  have e : joinB 10 [] = ⟨#[]⟩ := rfl
  rw [e, linesOf_ok (by decide)]
  rfl

def SomeLines (w : World) (e : Ending) (w' : World) : Prop := ∃ (xs : List ByteArray) (A : Option Addr) (c : Nat), e = .returned (.slice A xs.length c) ∧ xs.length ≤ c ∧ xs.length ≤ 4 ∧ (∀ x ∈ xs, Vis x) ∧ Row w' w'.heap.size A (strB xs) ∧ Below w.heap.size w w'

set_option maxHeartbeats 2000000 in
theorem drawTextJoin (A : Option Addr) (n c : Nat) (z : List Int) (w : World) (hz : IsRow .u8 w A n c z) :
    Calls Tryd.prog 30 #[.slice A n c] w (SomeLines w) := by
  obtain ⟨i0, hi, hz0, hz1, hz2⟩ := info_parts strInfo
  go_enter Tryd.func30, Tryd.ntmps30
  go_wp2_with fail
  refine (openIt A n c z w hz).mono ?_
  rintro e w1 ⟨rfl, h1, hb1⟩
  have H1 := Lib.hid h1; clear h1
  have hlt := H1.out.lt
  have hs1 := hb1.size
  go_wp2_with fail
  refine (pick w.heap.size 0 5 _ (rd_alloc H1.out _) (by omega) (by omega) (by omega)).mono ?_
  rintro e w2 ⟨r, rfl, hr0, hr1, hR, hK, hs⟩
  have hr2 := hr1 (by omega)
  have hown : w2.ownsRow w1.heap.size 9 1 (.slice (some ⟨w1.heap.size, 0, none⟩) 0 0) 0 (strB []) :=
    own_keep (World.ownsRow_made w1 #[] 0 (Nat.le_refl _) (by unfold maxLen; omega) rfl) hK hlt
  have hB2 : Below w.heap.size w w2 := (hb1.alloc hs1 _).trans (hK.below (Nat.le_refl _) (by simp; omega))
  have HO := Lib.hid hown
  have HR := Lib.hid hR
  have hs2 : w1.heap.size < w2.heap.size := by rw [hs]; simp
  clear hr0 hr1 hs hown hR
  go_wp2_with fail
  go_loopw [4, 5] (fun v i wr => ∃ (xs : List ByteArray) (k p : Nat), i = .int .i64 (k : Int) ∧ xs.length + k ≤ 4 ∧ p ≤ 1 + 5 * xs.length ∧ (∀ x ∈ xs, Vis x) ∧ wr.ownsRow w1.heap.size 9 1 v xs.length (strB xs) ∧ Rd wr w.heap.size p ∧ Below w.heap.size w wr ∧ w1.heap.size < wr.heap.size) (fun _ i _ => (intOf i).toNat)
  case atStart => exact ⟨[], r, 1, rfl, by simp; omega, by omega, by simp, HO.out, HR.out, hB2, hs2⟩
  case round =>
    obtain ⟨xs, k, p, rfl, hk, hp, hsm, hown, hR, hbw, hsz⟩ := hrel
    have HO := Lib.hid hown; clear hown
    have HR := Lib.hid hR; clear hR
    have HS := Lib.hid hsm; clear hsm
    by_cases hk0 : k = 0
    · subst hk0
      obtain ⟨A', c', hv, hnc, hrow⟩ := own_row HO.out
      subst hv
      have R : SomeLines w (.returned (.slice A' xs.length c')) wr := ⟨xs, A', c', rfl, hnc, by omega, HS.out, hrow, hbw⟩
      have HRes := Lib.hid R
      clear R hrow
      go_wp2_with fail
      go_ret
      exact HRes.out
    · have hk1 : (0 : Int) < k := by omega
      go_wp2_with fail
      refine (l1Line w.heap.size p wr HR.out (by omega)).mono ?_
      rintro e w3 ⟨v3, p', rfl, ⟨l, rfl, hl1, hl2⟩, hp1, hp2, hR3, hK3⟩
      have hs3 := hK3.size
      have HR3 := Lib.hid hR3; clear hR3
      have hown3 := own_keep HO.out hK3 hlt
      have HV : Hid (Vis ⟨l.toArray⟩) := ⟨by rw [size_mk]; exact hl1, by rw [data_mk]; exact hl2⟩
      have hB3 : Below w.heap.size w w3 := hbw.trans (hK3.below (Nat.le_refl _) (by omega))
      clear hl2
      generalize ByteArray.mk l.toArray = x at *
      go_wp2_with (at_builtin; refine wpList_append_own _ rfl _ _ 34 rfl w1.heap.size 9 i0 (.string ByteArray.empty) 1 16 Tryd.underlying34 hi hz0 hz1 hz2 rfl (by decide) _ _ _ rfl (hown3.alloc _) ⟨w3.heap.size, 0, none⟩ 1 1 [.string x] rfl rfl ?c1 ?c2 ?c3 ?c4 ?c5 ?_)
      case c1 =>
        intro j u hj
        match j, hj with
        | 0, hj => simp at hj; subst hj; simp [Addr.add]
      case c2 => intro u hu; simp at hu; subst hu; rfl
      case c3 => unfold maxLen; omega
      case c4 => omega
      case c5 => simp; omega
      intro v' w4 hown' hgrow _
      have hs4 := hgrow.size
      simp only [World.size_alloc] at hs4
      have hR4 : Rd w4 w.heap.size p' := rd_grown (rd_alloc HR3.out _) hgrow (fun k hk => by have := (HO.out.lt k (by first | exact hk | simpa using hk)).1; omega)
      have hB4 : Below w.heap.size w w4 := (hB3.alloc (by omega) _).grown hgrow (by simp; omega) (fun k hk => by have := (HO.out.lt k (by first | exact hk | simpa using hk)).1; omega)
      have hown4 : w4.ownsRow w1.heap.size 9 1 v' (xs ++ [x]).length (strB (xs ++ [x])) := by simpa [strB] using hown'
      have HO4 := Lib.hid hown4
      clear hown' hown4 hown3
      go_wp2_with fail
      go_roundw
      case rel =>
        refine ⟨xs ++ [x], k - 1, p', ?_, by simp; omega, by simp; omega, fun y hy => ?_, HO4.out, hR4, hB4, by omega⟩
        · congr 1; omega
        · rcases List.mem_append.1 hy with hy | hy
          · exact HS.out y hy
          · rw [List.mem_singleton] at hy; subst hy; exact HV.out
      case measure => simp [intOf]; omega

theorem l1One (n : Nat) (w : World) : Calls Tryd.prog 33 #[.int .i64 (n : Int)] w fun e w' => e = .returned (.int .i64 ((if n = 0 then 1 else n : Nat) : Int)) ∧ w = w' := by
  by_cases h : n = 0
  · subst h
    go_enter Tryd.func33, Tryd.ntmps33
    go_wp2_with fail
    go_ret
    exact ⟨rfl, rfl⟩
  · rw [if_neg h]
    have h1 : ((n : Int) == 0) = false := by rw [beq_eq_false_iff_ne]; omega
    clear h
    go_enter Tryd.func33, Tryd.ntmps33
    go_wp2_with fail
    go_ret
    exact ⟨rfl, rfl⟩

set_option maxHeartbeats 8000000 in
theorem law_FnText (a : Option Addr) (n c : Nat) (z : List Int) (a' : Option Addr) (n' c' : Nat) (z' : List Int) (w : World) (hsh : w.ShapedOpen Tryd.prog) (hT : Tabs w) (hz : IsRow .u8 w a n c z) (hz' : IsRow .u8 w a' n' c' z') :
    Calls Tryd.prog 10 #[.slice a n c, .slice a' n' c'] w fun e w' => e = .returned (.bool true) ∧ Below w.heap.size w w' := by
  clear hsh
  obtain ⟨_, _, hnc, hn, hc, _⟩ := hz.row
  obtain ⟨_, _, hnc', hn', hc', _⟩ := hz'.row
  have HZ := Lib.hid hz; clear hz
  have HZ' := Lib.hid hz'; clear hz'
  have HT := Lib.hid hT; clear hT
  by_cases hbig : (1048576 : Int) < (n : Int)
  · go_enter Tryd.func10, Tryd.ntmps10
    go_wp2
    go_ret
    exact ⟨rfl, Below.refl _ _⟩
  · by_cases hbig' : (1048576 : Int) < (n' : Int)
    · go_enter Tryd.func10, Tryd.ntmps10
      go_wp2
      go_ret
      exact ⟨rfl, Below.refl _ _⟩
    · have hs : (n : Int) ≤ 1048576 := by omega
      have hs' : (n' : Int) ≤ 1048576 := by omega
      clear hbig hbig' hn hn' hc hc' hnc hnc'
      go_enter Tryd.func10, Tryd.ntmps10
      go_wp2_with fail
      refine (drawTextLines a n c z w HZ.out).mono ?_
      rintro e w1 ⟨s, rfl, hss, hb1⟩
      have HZ1 : Hid (IsRow .u8 w1 a' n' c' z') := isRow_below HZ'.out hb1
      have hss' : (s.size : Int) ≤ 5000 := by omega
      have HT1 : Hid (Tabs w1) := HT.out.keep hb1
      have HB1 := Lib.hid hb1
      have ci := implLines s w1 HT1.out (by omega)
      have cs := fun W => specTextLines s W (by omega)
      have hle := linesOf_le s
      obtain ⟨xs, hxs⟩ : ∃ xs, linesOf s = xs := ⟨_, rfl⟩
      rw [hxs] at ci cs hle
      have CS := Lib.hid cs
      have HXS := Lib.hid hxs
      obtain ⟨N, hN⟩ : ∃ N, xs.length = N := ⟨_, rfl⟩
      have HN : Hid (xs.length = N) := hN
      have hN' : (N : Int) ≤ 5001 := by omega
      clear cs hxs hle hN hb1
      go_wp2_with fail
      refine ci.mono ?_
      clear ci
      rintro e w3 ⟨A, rfl, hm, hb3⟩
      rw [HN.out]
      have HM3 := Lib.hid hm.row
      have HZ3 : Hid (IsRow .u8 w3 a' n' c' z') := isRow_below HZ1.out hb3
      have HT3 : Hid (Tabs w3) := HT1.out.keep hb3
      have HB3 : Hid (Below w.heap.size w w3) := HB1.out.trans (hb3.mono HB1.out.size)
      clear hm hb3
      have hNN : ((N : Int) != (N : Int)) = false := by simp
      go_wp2_with fail
      refine (CS.out w3).mono ?_
      rintro e w4 ⟨A4, c4, rfl, hc4, _, hb4⟩
      rw [HN.out]
      have hs4 := hb4.size
      have HR4 := Lib.hid ((HM3.out.below hb4).more hs4)
      have HZ4 : Hid (IsRow .u8 w4 a' n' c' z') := isRow_below HZ3.out hb4
      have HT4 : Hid (Tabs w4) := HT3.out.keep hb4
      have HB4 : Hid (Below w.heap.size w w4) := HB3.out.trans (hb4.mono HB3.out.size)
      clear hb4 hs4 hc4 HM3
      go_wp2_with fail
      refine (implTextOk s _ (by omega)).mono ?_; rintro e w5 ⟨rfl, rfl⟩
      cases hok : textOk s.data.toList with
      | false =>
        obtain rfl : N = 0 := by rw [← HN.out, ← HXS.out, linesOf_bad hok]; rfl
        have HOK := Lib.hid hok
        clear hok
        go_wp2_with fail
        refine (specTextOk s _ (by omega)).mono ?_; rintro e w5 ⟨rfl, rfl⟩
        rw [HOK.out]
        go_wp2_with fail
        refine (specTextOk s _ (by omega)).mono ?_; rintro e w5 ⟨rfl, rfl⟩
        rw [HOK.out]
        go_wp2_with fail
        go_ret
        exact ⟨rfl, HB4.out⟩
      | true =>
        obtain rfl : xs = cutB s := by rw [← HXS.out, linesOf_ok hok]
        have HOK := Lib.hid hok
        clear hok
        go_wp2_with fail
        refine (specTextOk s _ (by omega)).mono ?_; rintro e w5 ⟨rfl, rfl⟩
        rw [HOK.out]
        go_wp2_with fail
        refine (specTextOk s _ (by omega)).mono ?_; rintro e w5 ⟨rfl, rfl⟩
        rw [HOK.out]
        go_wp2_with fail
        refine (drawTextJoin a' n' c' z' w4 HZ4.out).mono ?_
        rintro e w5 ⟨ys, A5, c5, rfl, hc5, hn5, hv5, hr5, hb5⟩
        obtain ⟨M, hM⟩ : ∃ M, ys.length = M := ⟨_, rfl⟩
        have HM : Hid (ys.length = M) := hM
        rw [hM] at hc5 hn5 ⊢
        have hs5 := hb5.size
        have HR5 := Lib.hid ((HR4.out.below hb5).more hs5)
        have HY5 := Lib.hid hr5
        have HV := Lib.hid hv5
        have HT5 : Hid (Tabs w5) := HT4.out.keep hb5
        have HB5 : Hid (Below w.heap.size w w5) := HB4.out.trans (hb5.mono HB4.out.size)
        have HSZ : Hid (sizes ys + ys.length ≤ 1048576) := by
          have h2 : ∀ zs : List ByteArray, (∀ x ∈ zs, Vis x) → sizes zs ≤ 12 * zs.length := by
            intro zs
            induction zs with
            | nil => intro _; simp [sizes]
            | cons y zs ih =>
              intro hy
              have h3 := ih (fun x hx => hy x (by simp [hx]))
              have h4 := (hy y (by simp)).1
              simp only [sizes, List.map_cons, List.sum_cons, List.length_cons] at h3 ⊢; omega
          have := h2 ys hv5
          unfold Hid; omega
        have HLN : Hid (linesOf (joinB 10 ys) = if M = 0 then [⟨#[]⟩] else ys) := by
          unfold Hid
          by_cases h0 : M = 0
          · rw [if_pos h0]
            obtain rfl : ys = [] := List.eq_nil_of_length_eq_zero (by omega)
            exact lines_nil
          · rw [if_neg h0]
            exact lines_join (by rintro rfl; simp at hM; omega) (by omega) hv5
        have hM4 : (M : Int) ≤ 4 := by omega
        have HJS : Hid (((joinB 10 ys).size : Int) ≤ 1048576) := by
          have h1 := joinB_le 10 ys ys.length
          rw [List.take_length] at h1
          have := HSZ.out
          unfold Hid; omega
        clear hb5 hr5 hv5 hM hs5 HR4 CS HXS HZ4 HZ3 HZ1
        go_wp2_with fail
        refine (implTextJoin A5 c5 M ys w5 HY5.out HM hc5 HSZ).mono ?_
        rintro e w6 ⟨rfl, hb6⟩
        have hs6 := hb6.size
        have HR6 := Lib.hid ((HR5.out.below hb6).more hs6)
        have HY6 := Lib.hid ((HY5.out.below hb6).more hs6)
        have HT6 : Hid (Tabs w6) := HT5.out.keep hb6
        have HB6 : Hid (Below w.heap.size w w6) := HB5.out.trans (hb6.mono HB5.out.size)
        have ck := implLines (joinB 10 ys) w6 HT6.out HJS.out
        have cj := fun W h => specTextJoin A5 c5 M ys W h HM (by have := HSZ.out; omega)
        have CK := Lib.hid ck
        have CJ := Lib.hid cj
        have HLN2 := HLN
        generalize joinB 10 ys = J at *
        clear hb6 hs6 ck cj
        have hJJ : (J.toList == J.toList) = true := by simp
        go_wp2_with fail
        refine CK.out.mono ?_
        rw [HLN2.out]
        obtain ⟨ks, hks⟩ : ∃ ks, ks = (if M = 0 then [⟨#[]⟩] else ys : List ByteArray) := ⟨_, rfl⟩
        have HKL : Hid (ks.length = if M = 0 then 1 else M) := by
          unfold Hid; rw [hks]; split
          · rfl
          · exact HM.out
        have HKY : Hid (∀ i (h : i < ys.length), ks[i]? = some ys[i]) := fun i h => by
          rw [hks, if_neg (by have := HM.out; omega), List.getElem?_eq_getElem h]
        rw [← hks]
        clear hks
        rintro e w7 ⟨A7, rfl, hm7, hb7⟩
        rw [HKL.out]
        have hs7 := hb7.size
        have HR7 := Lib.hid ((HR6.out.below hb7).more hs7)
        have HY7 := Lib.hid ((HY6.out.below hb7).more hs7)
        have HK7 := Lib.hid hm7.row
        have HB7 : Hid (Below w.heap.size w w7) := HB6.out.trans (hb7.mono HB6.out.size)
        obtain ⟨K, hK⟩ : ∃ K, K = (if M = 0 then 1 else M : Nat) := ⟨_, rfl⟩
        have HK := Lib.hid hK
        rw [← hK]
        have hK0 : ((K : Int) != (K : Int)) = false := by simp
        have hMK : M ≤ K := by rw [hK]; split <;> omega
        have C1 : Hid (∀ W, Calls Tryd.prog 33 #[.int .i64 (M : Int)] W fun e w' => e = .returned (.int .i64 (K : Int)) ∧ W = w') := fun W => by rw [hK]; exact l1One M W
        have CT : Hid (∀ W, Row W W.heap.size A (strB (cutB s)) → Calls Tryd.prog 31 #[.slice A N N] W fun e w' => e = .returned (.string s) ∧ Below W.heap.size W w') := fun W h => by
          have h2 := implTextJoin A N N (cutB s) W h HN (Nat.le_refl _) (by have := sizes_cutB s; unfold Hid; omega)
          rw [join_cutB] at h2; exact h2
        have hss2 : (s.toList == s.toList) = true := by simp
        clear hm7 hb7 hs7 CK HLN HLN2 hK
        go_wp2_with fail
        refine (CJ.out w7 HY7.out).mono ?_
        rintro e w8 ⟨rfl, rfl⟩
        go_wp2_with fail
        refine (CT.out w7 HR7.out).mono ?_
        rintro e w8 ⟨rfl, hb8⟩
        have hs8 := hb8.size
        have HY8 := Lib.hid ((HY7.out.below hb8).more hs8)
        have HK8 := Lib.hid ((HK7.out.below hb8).more hs8)
        have HB8 : Hid (Below w.heap.size w w8) := HB7.out.trans (hb8.mono HB7.out.size)
        clear hb8 hs8 CJ
        go_wp2_with fail
        refine (C1.out w8).mono ?_
        rintro e w9 ⟨rfl, rfl⟩
        go_wp2_with fail
        go_loopw [11] (fun v wr => ∃ k : Nat, v = .int .i64 (k : Int) ∧ k ≤ M ∧ Below w8.heap.size w8 wr) (fun v _ => M - (intOf v).toNat)
        case atStart => exact ⟨0, rfl, Nat.zero_le _, Below.refl _ _⟩
        case round =>
          obtain ⟨k, rfl, hk, hbw⟩ := hrel
          have HBW := Lib.hid hbw
          clear hbw
          by_cases hlt : k < M
          · have hx : k < ys.length := by rw [HM.out]; exact hlt
            obtain ⟨b, o, rfl, hbb, hcell⟩ := HY8.out.at_ (i := k) (by rw [strB_length]; exact hx)
            obtain ⟨b', o', e', hbb', hcell'⟩ := HK8.out (i := k) (.string ys[k]) (by
              have := HKY.out k hx
              simp [strB, this])
            subst e'
            have c1 : wr.cell? ⟨b, o + k, none⟩ = some (.string ys[k]) := by rw [HBW.out.cell (p := ⟨b, o + k, none⟩) hbb, hcell]; simp [strB]
            have c2 : wr.cell? ⟨b', o' + k, none⟩ = some (.string ys[k]) := by rw [HBW.out.cell (p := ⟨b', o' + k, none⟩) hbb', hcell']
            generalize ys[k] = U at *
            have g0 : (0 : Int) ≤ (k : Int) := by omega
            have g1 : (k : Int) < (M : Int) := by omega
            have g2 : (k : Int) < (K : Int) := by omega
            clear hcell hcell'
            go_wp2_with fail
            go_quiet (fail)
            go_wp2_with fail
            go_roundw
            case rel => exact ⟨k + 1, by go_num, by omega, drewN_below HBW.out _⟩
            case measure => simp [intOf]; omega
          · obtain rfl : k = M := by omega
            go_wp2_with fail
            go_ret
            exact ⟨rfl, HB8.out.trans (HBW.out.mono HB8.out.size)⟩
end Go.Proofs.YtdimljolinmofaaDoor
