/- Walk of the program: TokLine. -/
import Derived.Test.YtlhmebdljamgkaaDoorIw
import Derived.Test.YtlhmebdljamgkaaDoorTl
namespace Go.Proofs.YtlhmebdljamgkaaDoor
open Go.RowKit Ilp
set_option linter.unusedVariables false

theorem clipToks (A : Option Addr) (n c : Nat) (w : World) (hc : n ≤ c) (hn : (n : Int) ≤ 4611686018427387904) :
    Calls Tryd.prog 44 #[.slice A n c] w fun e w' => e = .returned (.slice A n n) ∧ w = w' := by
  go_enter Tryd.func44, Tryd.ntmps44
  go_wp2
  go_ret
  exact ⟨rfl, rfl⟩

theorem ownNil (w : World) (B : Nat) (T : TypeId) (k : Nat) : w.ownsRow B T k (.slice none 0 0) 0 [] := ⟨by simp, .inl ⟨rfl, rfl⟩⟩

theorem max_three (a b : Nat) : ∀ ats ty, Builtin.max_ ats ty #[.int .i64 1, .int .i64 (a : Int), .int .i64 (b : Int)] = pure (.int .i64 ((max 1 (max a b) : Nat) : Int)) := by
  intro ats ty
  have e : Builtin.max_ ats ty #[.int .i64 1, .int .i64 (a : Int), .int .i64 (b : Int)] = (pure (.int .i64 (if (b : Int) > (if (a : Int) > 1 then (a : Int) else 1) then (b : Int) else (if (a : Int) > 1 then (a : Int) else 1))) : Sem Value) := by
    simp [Builtin.max_, Builtin.max2]
  rw [e]
  congr 2
  split <;> split <;> omega
theorem regrown_same {P : Program} {f : FuncId} {args : Array Value} {w : World} {d : Nat} {os : Array Obj} {v : Value} (h : Calls P f args (Go.Sort.grow (redrawn w d) os) fun e w' => e = .returned v ∧ Go.Sort.grow (redrawn w d) os = w') :
    Calls P f args (Go.Sort.grow (redrawn w d) os) fun e w'' => e = .returned v ∧ ∃ p : Regrown, w'' = Go.Sort.grow (redrawn w p.d) p.os := h.mono fun _ _ ⟨he, hw⟩ => ⟨he, ⟨d, os⟩, hw.symm⟩
set_option maxHeartbeats 1000000 in
set_option maxRecDepth 20000 in
theorem implTokLine (s : ByteArray) (w : World) (hT : Tabs w) (hs : (s.size : Int) ≤ 4611686018427387904) :
    Calls Tryd.prog 19 #[.string s] w (LineR s w) := by
  have HT := Lib.hid hT
  clear hT
  by_cases hbig : (120 : Int) < (s.size : Int)
  · have hn := tokLine_long (s := s) (by omega)
    have HR := Lib.hid (lineR_none (w := w) (w' := w) hn none 0 (Below.refl _ _))
    clear hn
    go_enter Tryd.func19, Tryd.ntmps19
    go_wp2_with fail
    go_returns
    exact HR.out
  · have HS := Lib.hid (tokLine_short (s := s) (by omega))
    have hsI : (s.size : Int) ≤ 120 := by omega
    obtain ⟨i0, hi, hz0, hz1, hz2⟩ := info_parts tokInfo
    clear hbig hs
    go_enter Tryd.func19, Tryd.ntmps19
    go_wp2_with fail
    go_loopw [4, 5] (fun v a wr => ∃ (ts : List T) (k : Nat), a = .int .i64 (k : Int) ∧ k ≤ s.size ∧ ts.length ≤ k ∧ Hid (LineInv s.data.toList k ts) ∧ wr.ownsRow w.heap.size 37 3 v ts.length (tksV (ts.map toTk)) ∧ Below w.heap.size w wr) (fun _ a _ => s.size - (intOf a).toNat)
    case atStart => exact ⟨[], 0, rfl, Nat.zero_le _, Nat.le_refl _, lineInv_start _, ownNil _ _ _ _, Below.refl _ _⟩
    case round =>
      obtain ⟨ts, k, rfl, hk, htk, hinv, hown, hbw⟩ := hrel
      have HO := Lib.hid hown; clear hown
      have HB := Lib.hid hbw; clear hbw
      by_cases hlt : (k : Int) < (s.size : Int)
      · have hkn : k < s.size := by omega
        have hk0 : (0 : Int) ≤ (k : Int) := by omega
        have hk1 : (k : Int) ≤ (s.size : Int) := by omega
        have hkl : k < s.data.toList.length := by rw [len_data]; exact hkn
        have hgd := get_data s k hkn
        by_cases h32 : s[k] = 32
        · have hb : ((s[k].toNat : Int) == 32) = true := by rw [h32]; rfl
          have HI := Lib.hid (lineInv_space hinv.out hkl (by rw [hgd]; exact h32))
          clear h32 hgd
          go_wp2_with fail
          go_roundw
          case rel => exact ⟨ts, k + 1, by go_num, by omega, by omega, HI, HO.out, HB.out⟩
          case measure => simp [intOf]; omega
        · have hb : ((s[k].toNat : Int) == 32) = false := byte_ne (b := 32) h32
          have hmx := wlen_max (drop_ne hkl)
          have hwp := wlen_pos (drop_ne hkl)
          rw [List.length_drop, len_data] at hwp
          have hrest : (s.extract k s.size).data.toList = s.data.toList.drop k := by rw [piece_data, List.take_of_length_le (by rw [List.length_drop, len_data]; exact Nat.le_refl _)]
          have hrsz : (s.extract k s.size).size = s.size - k := by rw [ByteArray.size_extract]; omega
          have CL := fun W => runLetter (s.extract k s.size) W (by omega)
          have CD := fun W => runDigit (s.extract k s.size) W (by omega)
          rw [hrest] at CL CD
          obtain ⟨j, hj⟩ : ∃ j, wlen (s.data.toList.drop k) = j := ⟨_, rfl⟩
          have hpd := piece_data s k (k + j)
          have hpz : (s.extract k (k + j)).size = j := by rw [ByteArray.size_extract]; omega
          have hK0 : tokKind (s.extract k (k + j)).data.toList = 0 → words s.data.toList = none := by
            intro h0
            refine lineInv_bad hinv.out hkl (by rw [hgd]; exact h32) ?_
            rw [hpd, show k + j - k = j by omega, ← hj] at h0
            exact h0
          have hK1 : tokKind (s.extract k (k + j)).data.toList ≠ 0 → LineInv s.data.toList (k + j) (ts ++ [⟨tokKind (s.extract k (k + j)).data.toList, (s.extract k (k + j)).data.toList, k⟩]) := by
            intro h0
            have e : (s.extract k (k + j)).data.toList = (s.data.toList.drop k).take (wlen (s.data.toList.drop k)) := by rw [hpd, show k + j - k = wlen (s.data.toList.drop k) by omega]
            rw [e] at h0 ⊢
            rw [← hj]
            exact lineInv_word hinv.out hkl (by rw [hgd]; exact h32) h0
          have hle := tokKind_le (s.extract k (k + j)).data.toList
          have CK := fun W (h : Below w.heap.size w W) => implTokKind (s.extract k (k + j)) W (HT.out.keep h) (by omega)
          rw [hj] at hmx hwp
          generalize runOf isLet (s.data.toList.drop k) = rl at CL hmx
          generalize runOf isDig (s.data.toList.drop k) = rd at CD hmx
          obtain ⟨r, hr⟩ : ∃ r, s.extract k s.size = r := ⟨_, rfl⟩
          rw [hr] at CL CD
          obtain ⟨u, hu⟩ : ∃ u, s.extract k (k + j) = u := ⟨_, rfl⟩
          rw [hu] at CK hK0 hK1 hle hpz
          generalize hq : tokKind u.data.toList = q at CK hK0 hK1 hle
          have HCL := Lib.hid CL
          have HCD := Lib.hid CD
          have HCK := Lib.hid CK
          have HK0 := Lib.hid hK0
          have HK1 := Lib.hid hK1
          have hj1 : (1 : Int) ≤ (j : Int) := by omega
          have hj2 : (k : Int) + (j : Int) ≤ (s.size : Int) := by omega
          have hj0 : (k : Int) ≤ (k : Int) + (j : Int) := by omega
          have hrl0 : (0 : Int) ≤ (rl : Int) := by omega
          have hrd0 : (0 : Int) ≤ (rd : Int) := by omega
          clear CL CD CK hK0 hK1 hpd h32 hgd hj hq hrest hrsz hpz
          go_wp2_with fail
          have sL : ∀ d os, Calls Tryd.prog 34 #[.string r, .func (.func 35) #[] #[]] (Go.Sort.grow (redrawn wr d) os) fun e w'' => e = .returned (.int .i64 (rl : Int)) ∧ ∃ p : Regrown, w'' = Go.Sort.grow (redrawn wr p.d) p.os := fun d os => regrown_same (HCL.out _)
          have sD : ∀ d os, Calls Tryd.prog 34 #[.string r, .func (.func 43) #[] #[]] (Go.Sort.grow (redrawn wr d) os) fun e w'' => e = .returned (.int .i64 (rd : Int)) ∧ ∃ p : Regrown, w'' = Go.Sort.grow (redrawn wr p.d) p.os := fun d os => regrown_same (HCD.out _)
          have SL := Lib.hid sL
          have SD := Lib.hid sD
          clear sL sD
          have hmaxJ := max_three rl rd
          rw [← hmx] at hmaxJ
          clear hmx
          refine wp_region_quiet_below (by kernel_rfl) (by kernel_rfl) ?_
          repeat (go_big_quiet_step (first | with_reducible exact SL.out _ _ | with_reducible exact SD.out _ _))
          refine wpQuiet_nil ?_
          intro w1 hw'
          have hb1 : Below wr.heap.size wr w1 := by obtain ⟨⟨dq, osq⟩, rfl⟩ := hw'; exact below_regrown _ _ _
          have HB1 : Hid (Below w.heap.size w w1) := HB.out.trans (hb1.mono HB.out.size)
          have HO1 := Lib.hid (own_below HO.out hb1)
          clear hw' hb1 SL SD HCL HCD hmaxJ
          have hex : s.extract k (k + j) = u := hu
          have hnn : ((k : Int) + (j : Int)).toNat = k + j := by omega
          have hwr : IntKind.i64.wrap ((k : Int) + (j : Int)) = (k : Int) + (j : Int) := by rw [IntKind.wrap_i64]; omega
          go_wp2_with fail
          go_region_with (go_at_call 14; first
            | (refine (HCK.out _ HB1.out.drew).mono ?_
               rintro e w2 ⟨rfl, hb2⟩)
            | (refine (HCK.out _ (HB1.out.alloc HB1.out.size _).drew).mono ?_
               rintro e w2 ⟨rfl, hb2⟩
               have hblk : Blk w2 w1.heap.size 37 [.int .i64 0, .string ⟨#[]⟩, .int .i64 0] := (show Blk (World.drew (w1.alloc (.cells #[.int .i64 0, .string ⟨#[]⟩, .int .i64 0] 37))) w1.heap.size 37 [.int .i64 0, .string ⟨#[]⟩, .int .i64 0] from Blk.alloc_ w1 _ [.int .i64 0, .string ⟨#[]⟩, .int .i64 0]).below hb2 (by show w1.heap.size < (w1.alloc _).heap.size; simp)
               have c0 := hblk.cell 0
               have c1 := hblk.cell 1
               have c2 := hblk.cell 2
               simp only [List.getElem?_cons_zero, List.getElem?_cons_succ] at c0 c1 c2
               have f0 := hblk.frozen 0
               have f1 := hblk.frozen 1
               have f2 := hblk.frozen 2))
          all_goals
            first
              | (have hbA : Below w1.heap.size w1 (((w2.setCell ⟨w1.heap.size, 0, none⟩ (.int .i64 (q : Int))).setCell ⟨w1.heap.size, 1, none⟩ (.string u)).setCell ⟨w1.heap.size, 2, none⟩ (.int .i64 (k : Int))) := ((((((Below.refl _ w1).alloc (Nat.le_refl _) _).drew).trans (hb2.mono (by show w1.heap.size ≤ (w1.alloc _).heap.size; simp))).setCell (Nat.le_refl _) _).setCell (Nat.le_refl _) _).setCell (Nat.le_refl _) _
                 have hbl : Blk (((w2.setCell ⟨w1.heap.size, 0, none⟩ (.int .i64 (q : Int))).setCell ⟨w1.heap.size, 1, none⟩ (.string u)).setCell ⟨w1.heap.size, 2, none⟩ (.int .i64 (k : Int))) w1.heap.size 37 [.int .i64 (q : Int), .string u, .int .i64 (k : Int)] := by
                   have := ((hblk.put 0 (.int .i64 (q : Int))).put 1 (.string u)).put 2 (.int .i64 (k : Int))
                   simpa using this
                 have HBz : Hid (Below w.heap.size w (((w2.setCell ⟨w1.heap.size, 0, none⟩ (.int .i64 (q : Int))).setCell ⟨w1.heap.size, 1, none⟩ (.string u)).setCell ⟨w1.heap.size, 2, none⟩ (.int .i64 (k : Int)))) := HB1.out.trans (hbA.mono HB1.out.size)
                 have HOz := Lib.hid (own_below HO1.out hbA)
                 clear hblk c0 c1 c2 f0 f1 f2 hbA
                 generalize (((w2.setCell ⟨w1.heap.size, 0, none⟩ (.int .i64 (q : Int))).setCell ⟨w1.heap.size, 1, none⟩ (.string u)).setCell ⟨w1.heap.size, 2, none⟩ (.int .i64 (k : Int))) = wz at *
                 generalize w1.heap.size = tb at *)
              | (have hbA : Below w1.heap.size w1 (w2.alloc (.cells #[.int .i64 (q : Int), .string u, .int .i64 (k : Int)] 37)) := (((Below.refl _ w1).drew).trans hb2).alloc (by have := hb2.size; exact this) _
                 have hbl : Blk (w2.alloc (.cells #[.int .i64 (q : Int), .string u, .int .i64 (k : Int)] 37)) w2.heap.size 37 [.int .i64 (q : Int), .string u, .int .i64 (k : Int)] := Blk.alloc_ w2 _ [.int .i64 (q : Int), .string u, .int .i64 (k : Int)]
                 have HBz : Hid (Below w.heap.size w (w2.alloc (.cells #[.int .i64 (q : Int), .string u, .int .i64 (k : Int)] 37))) := HB1.out.trans (hbA.mono HB1.out.size)
                 have HOz := Lib.hid (own_below HO1.out hbA)
                 clear hbA
                 generalize (w2.alloc (.cells #[.int .i64 (q : Int), .string u, .int .i64 (k : Int)] 37)) = wz at *
                 generalize w2.heap.size = tb at *)
            have e0 := hbl.cell 0
            have e1 := hbl.cell 1
            have e2 := hbl.cell 2
            simp only [List.getElem?_cons_zero, List.getElem?_cons_succ] at e0 e1 e2
            clear hb2 HB1 HO1 HCK hex hnn hwr hbl
            by_cases hq0 : q = 0
            · have hn := HS.out.trans (HK0.out hq0)
              have HR := Lib.hid (lineR_none (w := w) (w' := wz) hn none 0 HBz.out)
              subst hq0
              clear hn
              go_wp2_with fail
              go_returns
              exact HR.out
            · have hq0b : ((q : Int) == 0) = false := by rw [beq_eq_false_iff_ne]; omega
              have HI := Lib.hid (HK1.out hq0)
              clear hq0
              go_wp2_with (at_builtin; refine wpList_append_own _ rfl _ _ 33 rfl w.heap.size 37 i0 (.agg #[.int .i64 0, .string ByteArray.empty, .int .i64 0]) 3 32 Tryd.underlying33 hi hz0 hz1 hz2 rfl (by decide) _ _ _ rfl (HOz.out.alloc _) ⟨wz.heap.size, 0, none⟩ 1 1 [.int .i64 (q : Int), .string u, .int .i64 (k : Int)] rfl rfl ?c1 ?c2 ?c3 ?c4 ?c5 ?_)
              case c1 =>
                intro j u hj
                match j, hj with
                | 0, hj => simp at hj; subst hj; simp [Addr.add]
                | 1, hj => simp at hj; subst hj; simp [Addr.add]
                | 2, hj => simp at hj; subst hj; simp [Addr.add]
              case c2 => intro u hu; simp at hu; rcases hu with rfl | rfl | rfl <;> rfl
              case c3 => unfold maxLen; omega
              case c4 => omega
              case c5 => have := HBz.out.size; simp; omega
              intro v' w4 hown' hgrow _
              have hs4 := hgrow.size
              simp only [World.size_alloc] at hs4
              have hsz := HBz.out.size
              have hB4 : Below w.heap.size w w4 := (HBz.out.alloc (by omega) _).grown hgrow (by simp; omega) (fun k hk => (HO.out.lt k (by first | exact hk | simpa using hk)).1)
              have hown4 : w4.ownsRow w.heap.size 37 3 v' (ts ++ [(⟨q, u.data.toList, k⟩ : T)]).length (tksV ((ts ++ [(⟨q, u.data.toList, k⟩ : T)]).map toTk)) := by
                rw [← toks_cells]
                simpa [data_mkB] using hown'
              have HO4 := Lib.hid hown4
              have HB4 := Lib.hid hB4
              clear hown' hown4 hB4 hs4 hgrow hsz
              go_wp2_with fail
              go_roundw
              case rel => exact ⟨ts ++ [⟨q, u.data.toList, k⟩], k + j, by go_num, by omega, by simp; omega, HI, HO4.out, HB4.out⟩
              case measure => simp [intOf]; omega
      · have hk' : s.size ≤ k := by omega
        have hn := HS.out.trans (lineInv_end hinv.out (by rw [len_data]; exact hk') (by rw [len_data]; exact hk))
        obtain ⟨A', c', hv, hnc, hm⟩ := Mine.of_own HO.out
        subst hv
        have HR := Lib.hid (lineR_some (w := w) hn (Nat.le_refl _) hm HB.out)
        clear hn hm
        go_wp2_with fail
        refine (clipToks A' ts.length c' wr hnc (by omega)).mono ?_
        rintro e w1 ⟨rfl, rfl⟩
        go_wp2_with fail
        go_returns
        exact HR.out
end Go.Proofs.YtlhmebdljamgkaaDoor
