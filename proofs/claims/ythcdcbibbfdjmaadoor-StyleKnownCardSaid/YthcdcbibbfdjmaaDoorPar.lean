/- The program's Parse. -/
import Derived.Test.YthcdcbibbfdjmaaDoorWord
import Derived.Lib.QuietBelow
namespace Go.Proofs.YthcdcbibbfdjmaaDoor
open Go.RowKit

theorem seq_list (s : ByteArray) (l : List UInt8) : (s.toList == l) = decide (s = ⟨l.toArray⟩) := by
  rw [ByteArray.toList_eq]
  by_cases h : s = ⟨l.toArray⟩
  · subst h; simp
  · rw [decide_eq_false h]
    rw [beq_eq_false_iff_ne]
    intro e
    apply h
    apply ByteArray.ext
    rw [← e, Array.toArray_toList]

theorem seq_bytes (s t : ByteArray) : (s.toList == t.toList) = decide (s = t) := by
  rw [seq_list, ByteArray.toList_eq, Array.toArray_toList]

theorem parseUintM_le (M : Nat) (l : List UInt8) : ∀ acc u, acc ≤ M → Lib.parseUintM M acc l = .ok u → u ≤ M := by
  induction l with
  | nil => intro acc u h e; simp [Lib.parseUintM] at e; omega
  | cons c l ih =>
    intro acc u h e
    simp only [Lib.parseUintM] at e
    split at e
    · split at e
      · cases e
      · split at e
        · cases e
        · exact ih _ u (by omega) e
    · cases e

theorem okU_lt {l : List UInt8} {u : Nat} (h : okU l = some u) : u < 256 := by
  have e := okU_ok h
  unfold Lib.parseUintB at e
  split at e
  · cases e
  · have := parseUintM_le 255 l 0 u (by omega) e
    omega

theorem hexv_lt {c d : Nat} (h : hexv c = some d) : d < 16 := by
  unfold hexv at h
  split at h
  · cases h; omega
  · split at h
    · cases h; omega
    · split at h
      · cases h; omega
      · cases h

theorem hexL_bound (l : List UInt8) : ∀ a v k, hexL a l = some v → a < 16 ^ k → v < 16 ^ (k + l.length) := by
  induction l with
  | nil => intro a v k h b; simp only [hexL, Option.some.injEq] at h; subst h; simpa using b
  | cons c l ih =>
    intro a v k h b
    simp only [hexL] at h
    split at h
    · rename_i d hd
      have := hexv_lt hd
      have := ih _ v (k + 1) h (by rw [Nat.pow_succ]; omega)
      rw [List.length_cons, show k + (l.length + 1) = k + 1 + l.length by omega]
      exact this
    · cases h

theorem hexL_six {l : List UInt8} {v : Nat} (h : hexL 0 l = some v) (h6 : l.length = 6) : v < 16777216 := by
  have := hexL_bound l 0 v 0 h (by decide)
  rw [h6] at this
  simpa using this

theorem at_size (n : Nat) : 2 ≤ (atB n).size := by
  rw [atB, mk_size, List.length_cons, digL_len]
  unfold nd
  split <;> (try split) <;> omega

/-- a text of two bytes or more -/
structure Two (s : ByteArray) (X : Int) (x : UInt8) (T : ByteArray) (l : List UInt8) : Prop where
  is : s = ⟨(x :: l).toArray⟩
  hX : X = (x.toNat : Int)
  ix : ∀ W, (Instr.index 9 (.string s) (.int .i64 0)).run Tryd.prog W = .ok (.int .u8 X) W
  sl : s.extract 1 s.size = T
  hT : T = ⟨l.toArray⟩
  sz : s.size = T.size + 1

theorem Two.mk' (s : ByteArray) (h : 1 < s.size) : ∃ X x T l, Two s X x T l := by
  have hl : s = ⟨s.data.toList.toArray⟩ := by apply ByteArray.ext; simp
  generalize hd : s.data.toList = d at hl
  cases d with
  | nil => rw [hl] at h; simp [ByteArray.size] at h
  | cons x l =>
    refine ⟨_, x, _, l, hl, rfl, ?_, ?_, rfl, ?_⟩
    · intro W
      rw [run_index_string _ _ _ _ _ Tryd.underlying9, dif_pos (by omega)]
      congr 4
      subst hl
      rfl
    · rw [hl]; exact tail_mk x l _ (by rw [mk_size]; rfl)
    · rw [hl, mk_size, mk_size]; rfl

set_option maxHeartbeats 8000000 in
set_option maxRecDepth 100000 in
theorem tint_Parse (s : ByteArray) (hs : s.size ≤ 281474976710656) (r : Option Int) (hr : Word s r) (w : World) (E : Env w) :
    Calls Tryd.prog 53 #[.string s] w fun e w' => e = .returned (parEnd r) ∧ Below w.heap.size w w' := by
  replace E := Lib.hid E
  have HS := Lib.hid hs
  clear hs
  by_cases p0 : s = plainB
  · have hr1 : r = some 1 := hr.uniq (Or.inl ⟨p0, rfl⟩)
    subst hr1
    clear hr
    have b0 : (s.toList == [112, 108, 97, 105, 110]) = true := by rw [seq_list, p0]; exact decide_eq_true rfl
    clear p0
    go_enter Tryd.func53, Tryd.ntmps53
    go_wp2_with fail
    go_ret2
    exact ⟨rfl, Below.refl _ _⟩
  have HR := Lib.hid hr
  have P0 := Lib.hid p0
  have b0 : (s.toList == [112, 108, 97, 105, 110]) = false := by rw [seq_list]; exact decide_eq_false p0
  clear hr p0
  go_enter Tryd.func53, Tryd.ntmps53
  go_wp2_with fail
  clear b0
  go_loopw [11] (fun n wr => ∃ j : Nat, n = .int .i64 (j : Int) ∧ j ≤ 16 ∧ Hid (∀ m, m < j → s ≠ nameB m) ∧ Below w.heap.size w wr) (fun n _ => 16 - (intOf n).toNat)
  case atStart => exact ⟨0, rfl, by omega, Lib.hid (fun m hm => by omega), Below.refl _ _⟩
  case round =>
    obtain ⟨j, rfl, hj, ha, hb⟩ := hrel
    by_cases c : j < 16
    · go_wp2_with fail
      refine (tint_name j c _).mono ?_
      rintro e w1 ⟨rfl, hb1⟩
      have hb2 := below_call hb hb.size hb1
      by_cases q : s = nameB j
      · have hr1 : r = some (256 + (j : Int)) := HR.out.uniq (Or.inr (Or.inl ⟨j, by omega, Or.inr ⟨c, q⟩, rfl⟩))
        subst hr1
        have b1 : (s.toList == (nameB j).toList) = true := by rw [seq_bytes]; exact decide_eq_true q
        clear q ha
        go_wp2_with fail
        go_ret2
        exact ⟨rfl, hb2⟩
      · have b1 : (s.toList == (nameB j).toList) = false := by rw [seq_bytes]; exact decide_eq_false q
        have HA : Hid (∀ m, m < j + 1 → s ≠ nameB m) := Lib.hid fun m hm => by
          by_cases x : m = j
          · rw [x]; exact q
          · exact ha.out m (by omega)
        clear q ha
        go_wp2_with fail
        go_roundw
        case rel => exact ⟨j + 1, rfl, by omega, HA, hb2⟩
        case measure => simp [intOf]; omega
    · have e16 : j = 16 := by omega
      subst e16
      clear c hj
      by_cases z : 1 < s.size
      · obtain ⟨X, x, T, l, W2⟩ := Two.mk' s z
        have hX := W2.hX; have ix := W2.ix; have sl := W2.sl; have sz := W2.sz
        have tz : Hid (T.size ≤ 281474976710656) := Lib.hid (by have := HS.out; omega)
        have slr : ∀ W, (Instr.slice 9 (.string s) (some (.int .i64 1)) none none).run Tryd.prog W = .ok (.string T) W := fun W => by
          rw [run_slice_string_from_if _ _ _ _ _ Tryd.underlying9, if_pos (by omega)]
          show Result.ok (Value.string (s.extract 1 s.size)) W = _
          rw [sl]
        have W2 := Lib.hid W2
        clear sz
        by_cases x64 : X = 64
        · have hx : x = 64 := by
            have := W2.out.hX
            apply UInt8.toNat_inj.1
            rw [x64] at this
            show x.toNat = 64
            omega
          have Env1 := Lib.hid (E.out.of_below hb (Nat.le_refl _))
          have s64 : s = ⟨(64 :: l).toArray⟩ := by rw [W2.out.is, hx]
          have nhex : hexP s = none := by rw [s64]; unfold hexP; rw [if_neg]; rintro ⟨_, q⟩; revert q; simp
          have S64 := Lib.hid s64
          have NH := Lib.hid nhex
          clear hX s64 nhex hx
          subst x64
          cases ho : okU l with
          | none =>
            have R0 : r = none := by
              refine HR.out.uniq (Or.inr (Or.inr ⟨P0.out, fun n hn e => ?_, fun n hn => ha.out n hn, NH.out.symm⟩))
              have e2 : l = digL 10 n (nd n) := by
                have := congrArg (fun b : ByteArray => b.data.toList.tail) (S64.out.symm.trans e)
                simpa [atB] using this
              rw [e2, okU_dec ⟨n, hn⟩] at ho
              cases ho
            subst R0
            obtain ⟨ev, he1, he2⟩ := Env1.out.es
            obtain ⟨er, hr1, hr2⟩ := Env1.out.er
            have C := Lib.hid (pu10_err T tz.out (by rw [W2.out.hT]; exact okU_none ho) ev er wr he1 he2 hr1 hr2)
            clear he1 he2 hr1 hr2 ho
            go_wp2_with fail
            refine C.out.mono ?_
            rintro e w1 ⟨n, N, rfl, hb1⟩
            have hb2 := below_call hb hb.size hb1
            go_wp2_with fail
            go_quiet (fail)
            have hb3 := below_drewN hb2 nq
            by_cases z7 : (s.size : Int) = 7
            · go_wp2_with fail
              go_ret2
              exact ⟨rfl, hb3⟩
            · go_wp2_with fail
              go_ret2
              exact ⟨rfl, hb3⟩
          | some u =>
            have C := Lib.hid (pu10_ok T tz.out u (by rw [W2.out.hT]; exact okU_ok ho) wr)
            have u256 : u < 256 := okU_lt ho
            obtain ⟨D, hD⟩ : ∃ D : ByteArray, D = ⟨(digL 10 u (nd u)).toArray⟩ := ⟨_, rfl⟩
            have F : Hid (∀ w', Env w' → Calls Tryd.prog 81 #[.int .u64 u, .int .i64 10] w' fun e w'' => e = .returned (.string D) ∧ Below w'.heap.size w' w'') := Lib.hid fun w' E' => by
              rw [hD]; exact FormatUint_10 u u256 w' E'.tab
            have HO := Lib.hid ho
            have HD := Lib.hid hD
            clear ho hD
            by_cases q : D = T
            · have R1 : r = some (256 + (u : Int)) := by
                refine HR.out.uniq (Or.inr (Or.inl ⟨u, u256, Or.inl ?_, rfl⟩))
                rw [S64.out, atB]
                have e2 : (⟨l.toArray⟩ : ByteArray) = ⟨(digL 10 u (nd u)).toArray⟩ := by rw [← W2.out.hT, ← q, HD.out]
                have := congrArg (fun b : ByteArray => b.data.toList) e2
                rw [show l = digL 10 u (nd u) by simpa using this]
              subst R1
              have bq : (D.toList == T.toList) = true := by rw [seq_bytes]; exact decide_eq_true q
              clear q
              go_wp2_with fail
              refine C.out.mono ?_
              rintro e w1 ⟨rfl, hb1⟩
              have hb2 := below_call hb hb.size hb1
              have E1 := Lib.hid (E.out.of_below hb2 (Nat.le_refl _))
              go_wp2_with fail
              have cF := Lib.hid fun d os => (F.out _ (E1.out.of_below (below_regrown w1 d os) (Nat.le_refl _))).regrown_of
              refine wp_region_quiet_below (by kernel_rfl) (by kernel_rfl) ?_
              repeat (quiet_step (exact cF.out _ _))
              refine wpQuiet_nil ?_
              intro _ hw'
              obtain ⟨⟨dq, osq⟩, hw''⟩ := hw'
              subst hw''
              have hb3 := hb2.trans ((below_regrown w1 dq osq).mono hb2.size)
              go_wp2_with fail
              go_ret2
              exact ⟨rfl, hb3⟩
            · have R0 : r = none := by
                refine HR.out.uniq (Or.inr (Or.inr ⟨P0.out, fun n hn e => ?_, fun n hn => ha.out n hn, NH.out.symm⟩))
                have e2 : l = digL 10 n (nd n) := by
                  have := congrArg (fun b : ByteArray => b.data.toList.tail) (S64.out.symm.trans e)
                  simpa [atB] using this
                have e3 := HO.out
                rw [e2, okU_dec ⟨n, hn⟩] at e3
                cases e3
                exact q (by rw [HD.out, W2.out.hT, ← e2])
              subst R0
              have bq : (D.toList == T.toList) = false := by rw [seq_bytes]; exact decide_eq_false q
              clear q
              go_wp2_with fail
              refine C.out.mono ?_
              rintro e w1 ⟨rfl, hb1⟩
              have hb2 := below_call hb hb.size hb1
              have E1 := Lib.hid (E.out.of_below hb2 (Nat.le_refl _))
              go_wp2_with fail
              have cF := Lib.hid fun d os => (F.out _ (E1.out.of_below (below_regrown w1 d os) (Nat.le_refl _))).regrown_of
              refine wp_region_quiet_below (by kernel_rfl) (by kernel_rfl) ?_
              repeat (quiet_step (exact cF.out _ _))
              refine wpQuiet_nil ?_
              intro _ hw'
              obtain ⟨⟨dq, osq⟩, hw''⟩ := hw'
              subst hw''
              have hb3 := hb2.trans ((below_regrown w1 dq osq).mono hb2.size)
              by_cases z7 : (s.size : Int) = 7
              · go_wp2_with fail
                go_ret2
                exact ⟨rfl, hb3⟩
              · go_wp2_with fail
                go_ret2
                exact ⟨rfl, hb3⟩
        · have nat : ∀ n, n < 256 → s ≠ atB n := fun n hn e => by
            apply x64
            have e3 : (x :: l) = 64 :: digL 10 n (nd n) := by
              have := congrArg (fun b : ByteArray => b.data.toList) (W2.out.is.symm.trans e)
              simpa [atB] using this
            have e4 : x = 64 := (List.cons.inj e3).1
            rw [W2.out.hX, e4]
            rfl
          have NAT := Lib.hid nat
          clear nat hX
          by_cases z7 : (s.size : Int) = 7 ∧ X = 35
          · obtain ⟨z7, x35⟩ := z7
            have hx : x = 35 := by
              have := W2.out.hX
              apply UInt8.toNat_inj.1
              rw [x35] at this
              show x.toNat = 35
              omega
            have hh : hexP s = (hexL 0 l).map fun v => (16777216 + (v : Int)) := by
              unfold hexP
              rw [if_pos ⟨by omega, by rw [W2.out.is, hx]; rfl⟩, W2.out.is]
              simp
            have HH := Lib.hid hh
            have T6 : T.size = 6 := by have := W2.out.sz; omega
            have T6 := Lib.hid T6
            clear hh hx
            subst x35
            cases hv : hexL 0 l with
            | some v =>
              have R1 : r = some (16777216 + (v : Int)) := by
                refine HR.out.uniq (Or.inr (Or.inr ⟨P0.out, NAT.out, fun n hn => ha.out n hn, ?_⟩))
                rw [HH.out, hv]
                rfl
              subst R1
              have C := Lib.hid (pu16_some T T6.out v (by rw [W2.out.hT]; exact hv) wr)
              have vb := hexL_six hv (by have := T6.out; rw [W2.out.hT, mk_size] at this; exact this)
              obtain ⟨Y, hY, iy⟩ : ∃ Y : Int, Y ≠ 43 ∧ ∀ W, (Instr.index 9 (.string s) (.int .i64 1)).run Tryd.prog W = .ok (.int .u8 Y) W := by
                cases l with
                | nil => have := T6.out; rw [W2.out.hT] at this; cases this
                | cons y l =>
                  refine ⟨(y.toNat : Int), ?_, fun W => ?_⟩
                  · intro hy
                    rw [hexL, show y.toNat = 43 by omega] at hv
                    cases hv
                  · rw [run_index_string _ _ _ _ _ Tryd.underlying9, dif_pos (by omega)]
                    congr 4
                    have := W2.out.is
                    subst this
                    rfl
              clear hv
              go_wp2_with fail
              refine C.out.mono ?_
              rintro e w1 ⟨rfl, hb1⟩
              have hb2 := below_call hb hb.size hb1
              go_wp2_with fail
              go_ret2
              exact ⟨rfl, hb2⟩
            | none =>
              have R0 : r = none := by
                refine HR.out.uniq (Or.inr (Or.inr ⟨P0.out, NAT.out, fun n hn => ha.out n hn, ?_⟩))
                rw [HH.out, hv]
                rfl
              subst R0
              have Env1 := Lib.hid (E.out.of_below hb (Nat.le_refl _))
              obtain ⟨ev, he1, he2⟩ := Env1.out.es
              have C := Lib.hid (pu16_none T T6.out (by rw [W2.out.hT]; exact hv) ev wr Env1.out.sg he1 he2)
              clear hv he1 he2
              go_wp2_with fail
              refine C.out.mono ?_
              rintro e w1 ⟨N, rfl, hb1⟩
              have hb2 := below_call hb hb.size hb1
              go_wp2_with fail
              go_ret2
              exact ⟨rfl, hb2⟩
          · have hh : hexP s = none := by
              unfold hexP
              rw [if_neg]
              rintro ⟨q1, q2⟩
              apply z7
              refine ⟨by omega, ?_⟩
              have := W2.out.hX
              rw [W2.out.is] at q2
              have q3 : x = 35 := by simpa using q2
              rw [this, q3]
              rfl
            have R0 : r = none := HR.out.uniq (Or.inr (Or.inr ⟨P0.out, NAT.out, fun n hn => ha.out n hn, hh.symm⟩))
            subst R0
            clear hh
            by_cases q7 : (s.size : Int) = 7
            · have q35 : X ≠ 35 := fun e => z7 ⟨q7, e⟩
              clear z7
              go_wp2_with fail
              go_ret2
              exact ⟨rfl, hb⟩
            · clear z7
              go_wp2_with fail
              go_ret2
              exact ⟨rfl, hb⟩
      · have R0 : r = none := by
          refine HR.out.uniq (Or.inr (Or.inr ⟨P0.out, fun n hn e => ?_, fun n hn => ha.out n hn, ?_⟩))
          · have := at_size n
            rw [← e] at this
            omega
          · unfold hexP; rw [if_neg (by omega)]
        subst R0
        go_wp2_with fail
        go_ret2
        exact ⟨rfl, hb⟩
end Go.Proofs.YthcdcbibbfdjmaaDoor
