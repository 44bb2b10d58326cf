/- The reference's Parse. -/
import Derived.Test.YthcdcbibbfdjmaaDoorPar
namespace Go.Proofs.YthcdcbibbfdjmaaDoor
open Go.RowKit

def hexI (c : Nat) : Int := match hexv c with | some d => (d : Int) | none => -1

theorem ref_hex (c : Int) (h0 : 0 ≤ c) (h1 : c < 256) : Tells 109 #[.int .u8 c] (.int .i64 (hexI c.toNat)) := by
  intro w
  by_cases a : 48 ≤ c ∧ c ≤ 57
  · have e : hexI c.toNat = c - 48 := by unfold hexI hexv; rw [if_pos (by omega)]; show ((c.toNat - 48 : Nat) : Int) = _; omega
    rw [e]
    obtain ⟨a1, a2⟩ := a
    clear e
    go_enter Tryd.func109, Tryd.ntmps109
    go_wp2
    go_ret
    exact ⟨rfl, rfl⟩
  have na : c < 48 ∨ 57 < c := by omega
  by_cases b : 97 ≤ c ∧ c ≤ 102
  · have e : hexI c.toNat = c - 97 + 10 := by unfold hexI hexv; rw [if_neg (by omega), if_pos (by omega)]; show ((c.toNat - 87 : Nat) : Int) = _; omega
    rw [e]
    obtain ⟨a1, a2⟩ := b
    clear e a na
    go_enter Tryd.func109, Tryd.ntmps109
    go_wp2
    go_ret
    exact ⟨rfl, rfl⟩
  have nb : c < 97 ∨ 102 < c := by omega
  by_cases d : 65 ≤ c ∧ c ≤ 70
  · have e : hexI c.toNat = c - 65 + 10 := by unfold hexI hexv; rw [if_neg (by omega), if_neg (by omega), if_pos (by omega)]; show ((c.toNat - 55 : Nat) : Int) = _; omega
    rw [e]
    obtain ⟨a1, a2⟩ := d
    clear e a na b nb
    go_enter Tryd.func109, Tryd.ntmps109
    go_wp2
    go_ret
    exact ⟨rfl, rfl⟩
  · have e : hexI c.toNat = -1 := by unfold hexI hexv; rw [if_neg (by omega), if_neg (by omega), if_neg (by omega)]
    rw [e]
    have nd : c < 65 ∨ 70 < c := by omega
    clear e a b d
    rcases na with na | na <;> rcases nb with nb | nb <;> rcases nd with nd | nd
    all_goals first | omega | skip
    all_goals
      go_enter Tryd.func109, Tryd.ntmps109
      go_wp2
      go_ret
      exact ⟨rfl, rfl⟩

theorem Two.at {s : ByteArray} {X : Int} {x : UInt8} {T : ByteArray} {l : List UInt8} (W2 : Two s X x T l) (k : Nat) (h : k < l.length) (I : Int) (hI : I = (k : Int) + 1) (W : World) :
    (Instr.index 9 (.string s) (.int .i64 I)).run Tryd.prog W = .ok (.int .u8 (l[k].toNat : Int)) W := by
  subst hI
  have e := W2.is
  have z : s.size = l.length + 1 := by rw [e, mk_size]; rfl
  clear W2
  subst e
  rw [run_index_string _ _ _ _ _ Tryd.underlying9, dif_pos (by omega)]
  have e2 : ((k : Int) + 1).toNat = k + 1 := by omega
  simp only [e2]
  rfl

set_option maxHeartbeats 8000000 in
set_option maxRecDepth 100000 in
theorem ref_Parse (s : ByteArray) (r : Option Int) (hr : Word s r) : Gives 96 #[.string s] (parEnd r) := by
  intro w
  by_cases p0 : s = plainB
  · have hr1 : r = some 1 := hr.uniq (Or.inl ⟨p0, rfl⟩)
    subst hr1
    clear hr
    have b0 : (s.toList == [112, 108, 97, 105, 110]) = true := by rw [seq_list, p0]; exact decide_eq_true rfl
    clear p0
    go_enter Tryd.func96, Tryd.ntmps96
    go_wp2_with fail
    go_ret2
    exact ⟨rfl, Below.refl _ _⟩
  have HR := Lib.hid hr
  have P0 := Lib.hid p0
  have b0 : (s.toList == [112, 108, 97, 105, 110]) = false := by rw [seq_list]; exact decide_eq_false p0
  clear hr p0
  go_enter Tryd.func96, Tryd.ntmps96
  go_wp2_with fail
  clear b0
  go_loopw [4] (fun n wr => ∃ j : Nat, n = .int .i64 (j : Int) ∧ j ≤ 256 ∧ Hid (∀ m, m < j → ¬ (s = atB m ∨ m < 16 ∧ s = nameB m)) ∧ Below w.heap.size w wr) (fun n _ => 256 - (intOf n).toNat)
  case atStart => exact ⟨0, rfl, by omega, Lib.hid (fun m hm => by omega), Below.refl _ _⟩
  case round =>
    obtain ⟨j, rfl, hj, ha, hb⟩ := hrel
    by_cases c : j < 256
    · obtain ⟨D, hD⟩ : ∃ D : ByteArray, D = ⟨(digL 10 j (nd j)).toArray⟩ := ⟨_, rfl⟩
      have F := ref_digits10 j c
      rw [← hD] at F
      have hK : (⟨#[64]⟩ : ByteArray) ++ D = atB j := by rw [hD]; exact cons_mk 64 _
      have DZ : D.size ≤ 3 := by rw [hD, mk_size, digL_len]; unfold nd; split <;> (try split) <;> omega
      have F := Lib.hid F
      have HK := Lib.hid hK
      clear hD
      have nxt : ∀ _ : ¬ (s = atB j ∨ j < 16 ∧ s = nameB j), Hid (∀ m, m < j + 1 → ¬ (s = atB m ∨ m < 16 ∧ s = nameB m)) := fun q => Lib.hid fun m hm => by
        by_cases x : m = j
        · rw [x]; exact q
        · exact ha.out m (by omega)
      have NXT := Lib.hid nxt
      clear nxt
      by_cases q : s = atB j
      · have hr1 : r = some (256 + (j : Int)) := HR.out.uniq (Or.inr (Or.inl ⟨j, c, Or.inl q, rfl⟩))
        subst hr1
        have b1 : (s.toList == ((⟨#[64]⟩ : ByteArray) ++ D).toList) = true := by rw [hK, seq_bytes]; exact decide_eq_true q
        clear q ha hK
        go_wp2_with fail
        refine (F.out _).mono ?_
        rintro e w1 ⟨rfl, hb1⟩
        have hb2 := below_call hb hb.size hb1
        go_wp2_with fail
        go_ret2
        exact ⟨rfl, hb2⟩
      · have b1 : (s.toList == ((⟨#[64]⟩ : ByteArray) ++ D).toList) = false := by rw [hK, seq_bytes]; exact decide_eq_false q
        clear hK
        by_cases c16 : j < 16
        · have FN := Lib.hid (ref_name j c16)
          by_cases q2 : s = nameB j
          · have hr1 : r = some (256 + (j : Int)) := HR.out.uniq (Or.inr (Or.inl ⟨j, c, Or.inr ⟨c16, q2⟩, rfl⟩))
            subst hr1
            have b2 : (s.toList == (nameB j).toList) = true := by rw [seq_bytes]; exact decide_eq_true q2
            clear q q2 ha
            go_wp2_with fail
            refine (F.out _).mono ?_
            rintro e w1 ⟨rfl, hb1⟩
            have hb2 := below_call hb hb.size hb1
            go_wp2_with fail
            refine (FN.out _).mono ?_
            rintro e w2 ⟨rfl, hb3⟩
            have hb4 := below_call hb2 hb2.size hb3
            go_wp2_with fail
            go_ret2
            exact ⟨rfl, hb4⟩
          · have b2 : (s.toList == (nameB j).toList) = false := by rw [seq_bytes]; exact decide_eq_false q2
            have HA := NXT.out (by rintro (x | ⟨_, x⟩) <;> contradiction)
            clear q q2 ha
            go_wp2_with fail
            refine (F.out _).mono ?_
            rintro e w1 ⟨rfl, hb1⟩
            have hb2 := below_call hb hb.size hb1
            go_wp2_with fail
            refine (FN.out _).mono ?_
            rintro e w2 ⟨rfl, hb3⟩
            have hb4 := below_call hb2 hb2.size hb3
            go_wp2_with fail
            go_roundw
            case rel => exact ⟨j + 1, rfl, by omega, HA, hb4⟩
            case measure => simp [intOf]; omega
        · have HA := NXT.out (by rintro (x | ⟨x, _⟩) <;> contradiction)
          clear q ha
          go_wp2_with fail
          refine (F.out _).mono ?_
          rintro e w1 ⟨rfl, hb1⟩
          have hb2 := below_call hb hb.size hb1
          go_wp2_with fail
          go_roundw
          case rel => exact ⟨j + 1, rfl, by omega, HA, hb2⟩
          case measure => simp [intOf]; omega
    · have e256 : j = 256 := by omega
      subst e256
      have rh : r = hexP s := HR.out.uniq (Or.inr (Or.inr ⟨P0.out, fun n hn e => ha.out n hn (Or.inl e), fun n hn e => ha.out n (by omega) (Or.inr ⟨hn, e⟩), rfl⟩))
      have RH := Lib.hid rh
      clear c hj ha HR P0 rh
      by_cases z7 : (s.size : Int) = 7
      · obtain ⟨X, x, T, l, W2⟩ := Two.mk' s (by omega)
        have ix := W2.ix
        by_cases x35 : X = 35
        · have hx : x = 35 := by
            have := W2.hX
            apply UInt8.toNat_inj.1
            rw [x35] at this
            show x.toNat = 35
            omega
          have hh : hexP s = (hexL 0 l).map fun v => (16777216 + (v : Int)) := by
            unfold hexP
            rw [if_pos ⟨by omega, by rw [W2.is, hx]; rfl⟩, W2.is]
            simp
          have l6 : l.length = 6 := by
            have h1 := congrArg ByteArray.size W2.hT
            rw [mk_size l] at h1
            have h2 := W2.sz
            omega
          have HH := Lib.hid hh
          have L6 := Lib.hid l6
          have W2 := Lib.hid W2
          subst x35
          clear hh hx l6
          go_wp2_with fail
          clear ix
          go_loopw [5, 6] (fun v i wr => ∃ (k acc : Nat) (a I : Int), v = .int .i64 a ∧ i = .int .i64 I ∧ 0 ≤ a ∧ a < 16777216 ∧ 1 ≤ I ∧ I ≤ 7 ∧ Hid (I = (k : Int) + 1 ∧ a = (acc : Int) ∧ acc < 16 ^ k ∧ hexL 0 l = hexL acc (l.drop k)) ∧ Below w.heap.size w wr) (fun _ i _ => 8 - (intOf i).toNat)
          case atStart => exact ⟨0, 0, 0, 1, rfl, rfl, by omega, by omega, by omega, by omega, Lib.hid ⟨rfl, rfl, by decide, rfl⟩, hb⟩
          case round =>
            obtain ⟨k, acc, a, I, rfl, rfl, a0, a1, i1, i7, hk, hb⟩ := hrel
            by_cases c : I < 7
            · have kb : k < l.length := by rw [L6.out]; have := hk.out.1; omega
              obtain ⟨c', hd, hix⟩ : ∃ c' : UInt8, l.drop k = c' :: l.drop (k + 1) ∧ ∀ W, (Instr.index 9 (.string s) (.int .i64 I)).run Tryd.prog W = .ok (.int .u8 (c'.toNat : Int)) W := by
                exact ⟨l[k], List.drop_eq_getElem_cons kb, W2.out.at k kb I hk.out.1⟩
              have HD := Lib.hid hd
              have cb := c'.toNat_lt
              have RX := Lib.hid (ref_hex (c'.toNat : Int) (by omega) (by omega))
              clear hd
              cases hv : hexv c'.toNat with
              | none =>
                have he : hexI (c'.toNat : Int).toNat = -1 := by
                  unfold hexI
                  rw [Int.toNat_natCast, hv]
                have R0 : r = none := by
                  rw [RH.out, HH.out, hk.out.2.2.2, HD.out, hexL, hv]
                  rfl
                subst R0
                have RX2 := RX.out
                rw [he] at RX2
                have RX2 := Lib.hid RX2
                clear he hv RX hk
                go_wp2_with fail
                refine (RX2.out _).mono ?_
                rintro e w1 ⟨rfl, rfl⟩
                go_wp2_with fail
                go_ret2
                exact ⟨rfl, hb⟩
              | some d =>
                have he : hexI (c'.toNat : Int).toNat = (d : Int) := by
                  unfold hexI
                  rw [Int.toNat_natCast, hv]
                have d16 := hexv_lt hv
                have RX2 := RX.out
                rw [he] at RX2
                have RX2 := Lib.hid RX2
                have n1 : acc * 16 + d < 16 ^ (k + 1) := by have := hk.out.2.2.1; rw [Nat.pow_succ]; omega
                have n2 : acc < 16 ^ 5 := Nat.lt_of_lt_of_le hk.out.2.2.1 (Nat.pow_le_pow_right (by decide) (by have := hk.out.1; omega))
                have a5 : a < 1048576 := by have := hk.out.2.1; omega
                have HN : Hid (I + 1 = ((k + 1 : Nat) : Int) + 1 ∧ 16 * a + (d : Int) = ((acc * 16 + d : Nat) : Int) ∧ acc * 16 + d < 16 ^ (k + 1) ∧ hexL 0 l = hexL (acc * 16 + d) (l.drop (k + 1))) := Lib.hid ⟨by have := hk.out.1; omega, by have := hk.out.2.1; omega, n1, by rw [hk.out.2.2.2, HD.out, hexL, hv]⟩
                have dz : (0 : Int) ≤ d := by omega
                have dz2 : (d : Int) < 16 := by omega
                generalize (d : Int) = dd at *
                clear he hv RX hk n1 n2
                go_wp2_with fail
                refine (RX2.out _).mono ?_
                rintro e w1 ⟨rfl, rfl⟩
                go_wp2_with fail
                refine (RX2.out _).mono ?_
                rintro e w1 ⟨rfl, rfl⟩
                go_wp2_with fail
                go_roundw
                case rel => exact ⟨_, _, _, _, _, _, _, _, _, _, _, _, _, _, _, _, _, _, _, _, ⟨k + 1, acc * 16 + d, 16 * a + dd, I + 1, rfl, rfl, by omega, by omega, by omega, by omega, HN, hb⟩, rfl⟩
                case measure => simp [intOf]; omega
            · have k6 : k = 6 := by have := hk.out.1; omega
              have R1 : r = some (16777216 + a) := by
                rw [RH.out, HH.out, hk.out.2.2.2, k6, List.drop_eq_nil_of_le (by rw [L6.out]; omega), hexL, hk.out.2.1]
                rfl
              subst R1
              clear hk k6
              go_wp2_with fail
              go_ret2
              exact ⟨rfl, hb⟩
        · have hh : hexP s = none := by
            unfold hexP
            rw [if_neg]
            rintro ⟨q1, q2⟩
            apply x35
            have := W2.hX
            rw [W2.is] at q2
            have q3 : x = 35 := by simpa using q2
            rw [this, q3]
            rfl
          have R0 : r = none := RH.out.trans hh
          subst R0
          clear hh W2
          go_wp2_with fail
          go_ret2
          exact ⟨rfl, hb⟩
      · have hh : hexP s = none := by unfold hexP; rw [if_neg (by omega)]
        have R0 : r = none := RH.out.trans hh
        subst R0
        clear hh
        go_wp2_with fail
        go_ret2
        exact ⟨rfl, hb⟩
end Go.Proofs.YthcdcbibbfdjmaaDoor
