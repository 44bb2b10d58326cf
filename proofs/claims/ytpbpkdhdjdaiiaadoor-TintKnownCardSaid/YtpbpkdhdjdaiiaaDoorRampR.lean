/- The ramp of colours: the walk of the reference's Ramp. -/
import Derived.Test.YtpbpkdhdjdaiiaaDoorRampT
import Derived.Deep.RegionLaw
namespace Go.Proofs.YtpbpkdhdjdaiiaaDoor
open Go.RowKit Flt
set_option linter.unusedVariables false

/-- the first k of a row -/
def firstK (F : Nat → Int) (k : Nat) : List Value := (List.range k).map fun i => .int .i32 (F i)
theorem firstK_len (F : Nat → Int) (k : Nat) : (firstK F k).length = k := by simp [firstK]
theorem firstK_succ (F : Nat → Int) (k : Nat) : firstK F (k + 1) = firstK F k ++ [.int .i32 (F k)] := by simp [firstK, List.range_succ]

theorem news1 (w : World) (x : Value) (T : TypeId) : ∀ (j : Nat) (u : Value), [x][j]? = some u → (w.alloc (.cells #[x] T)).cell? ((⟨w.heap.size, 0, none⟩ : Addr).add j) = some u := by
  intro j u h
  cases j with
  | zero =>
    simp at h
    subst h
    simp [Addr.add]
  | succ j => simp at h

/-- an append to a row of the call's own, as one step of a region that draws -/
theorem step_append_own {P : Program} (w : World) {ops : Array Oper} {o : Oper} {a : Act} {K : Act → World → Prop} {Q : Exit → Act → World → Prop} {E : Prop} (hgd : o.guard = none) (s x : Operand) (t : TypeId)
    (ho : o.op = .call { callee := .builtin .append, args := #[s, x], argTypes := #[t, t] })
    (base : Nat) (e : TypeId) (i : TypeInfo) (z : Value) (size bytes : Nat) (ht : P.underlying t = some (.slice e)) (hi : P.info? e = some i) (hz : i.zero = some z)
    (hsize : i.size = size) (hby : i.bytes = bytes) (hzs : z.cells.size = size) (hsz : 0 < size)
    (v : Value) (n : Nat) (xs : List Value) (hs : a.eval s = v) (hown : w.ownsRow base e size v n xs)
    (ad : Addr) (m c : Nat) (news : List Value) (hx : a.eval x = .slice (some ad) m c) (hl : news.length = m * size) (hnews : ∀ j u, news[j]? = some u → w.cell? (ad.add j) = some u) (h1 : ∀ u ∈ news, u.oneCell' = true)
    (h63 : n + m ≤ maxLen) (hbytes : (n + m) * bytes ≤ 140737488355328) (hbase : base ≤ w.heap.size)
    (h : ∀ v' w', w'.ownsRow base e size v' (n + m) (xs ++ news) → w.grownBy w' v.ownBlock → (v' = .slice none 0 0 ↔ v = .slice none 0 0 ∧ m = 0) → K (a.put o.dst v') w') :
    if Region.wanted o (yielded ops a.tmps) = true then Oper.wp P o a w K Q else E := by
  have hw : Region.wanted o (yielded ops a.tmps) = true := by simp [Region.wanted, hgd]
  rw [if_pos hw]
  exact wp_append_own w s x t ho base e i z size bytes ht hi hz hsize hby hzs hsz v n xs hs hown ad m c news hx hl hnews h1 h63 hbytes hbase h

/-- the numbers of the reference's search -/
theorem ramp_search {n : Int} {m i : Nat} {P q : Int} {j : Nat} {r : Int} (X : RampIx n m i P q j r) :
    (∀ t : Nat, t < j → ((t : Int) + 1) * q ≤ P) ∧ P < ((j : Int) + 1) * q ∧ 0 ≤ (j : Int) * q ∧ (j : Int) * q ≤ P ∧ P - (j : Int) * q = r := by
  have e := Int.mul_ediv_add_emod P q
  rw [X.hj, X.hr] at e
  have c : q * (j : Int) = (j : Int) * q := Int.mul_comm _ _
  have c1 : ((j : Int) + 1) * q = (j : Int) * q + q := by rw [Int.add_mul, Int.one_mul]
  have r0 := X.r0
  have r1 := X.r1
  have q0 := X.q0
  refine ⟨fun t ht => ?_, by omega, Int.mul_nonneg (by omega) (by omega), by omega, by omega⟩
  have := Int.mul_le_mul_of_nonneg_right (show (t : Int) + 1 ≤ (j : Int) by omega) (show 0 ≤ q by omega)
  omega

set_option maxHeartbeats 4000000 in
set_option maxRecDepth 100000 in
theorem ref_Ramp_none (n : Int) (A : Option Addr) (c : Nat) (xs : List Int) (h : rampOk n xs.length = false) (hm : xs.length ≤ 100000000000000) (w : World) :
    Calls Tryd.prog 35 #[.int .i64 n, .slice A xs.length c] w fun e w' => e = .returned (.slice none 0 0) ∧ w = w' := by
  have hx : ¬ (1 ≤ n ∧ n ≤ 4096 ∧ 1 ≤ xs.length ∧ xs.length ≤ 16) := by unfold rampOk at h; rwa [decide_eq_false_iff_not] at h
  clear h
  generalize xs.length = m at *
  by_cases c1 : n < 1
  · go_enter Tryd.func35, Tryd.ntmps35
    go_wp2
    go_ret
    exact ⟨rfl, rfl⟩
  by_cases c2 : 4096 < n
  · go_enter Tryd.func35, Tryd.ntmps35
    go_wp2
    go_ret
    exact ⟨rfl, rfl⟩
  by_cases c3 : m < 1
  · go_enter Tryd.func35, Tryd.ntmps35
    go_wp2
    go_ret
    exact ⟨rfl, rfl⟩
  · have c4 : 16 < m := by omega
    clear hx
    go_enter Tryd.func35, Tryd.ntmps35
    go_wp2
    go_ret
    exact ⟨rfl, rfl⟩

set_option maxHeartbeats 4000000 in
set_option maxRecDepth 100000 in
theorem ref_Ramp_some (n : Int) (A : Option Addr) (c : Nat) (xs : List Int) (hwf : ∀ x ∈ xs, -2147483648 ≤ x ∧ x ≤ 2147483647) (h : rampOk n xs.length = true) (w : World) (hS : Sees w w.heap.size A (xs.map (.int .i32))) :
    Calls Tryd.prog 35 #[.int .i64 n, .slice A xs.length c] w (OwnRet w 22 ((rampL n xs).map (.int .i32))) := by
  obtain ⟨n0, n1, m0, m1⟩ : 1 ≤ n ∧ n ≤ 4096 ∧ 1 ≤ xs.length ∧ xs.length ≤ 16 := by unfold rampOk at h; rwa [decide_eq_true_iff] at h
  obtain ⟨N, hN⟩ : ∃ N : Nat, n = (N : Int) := ⟨n.toNat, by omega⟩
  subst hN
  have LE : Hid ((rampL (N : Int) xs).map (Value.int .i32) = firstK (fun i => rampAt (N : Int) xs (i : Int)) N) := by
    unfold Hid rampL firstK; rw [if_pos h, Int.toNat_natCast, List.map_map]; rfl
  obtain ⟨ad, rfl, adb, adc⟩ := hS (by intro e; rw [List.map_eq_nil_iff] at e; rw [e] at m0; simp at m0)
  have IX := Lib.hid (fun i hi => ramp_ix (N : Int) xs.length i n0 n1 m0 m1 hi)
  have AT := Lib.hid (fun i P q j r => @rampAt_ix (N : Int) xs i P q j r)
  have WF := Lib.hid (fun (j : Nat) (hj : j < xs.length) => show -2147483648 ≤ xs.getD j 0 ∧ xs.getD j 0 ≤ 2147483647 by
    rw [List.getD_eq_getElem?_getD, List.getElem?_eq_getElem hj]; exact hwf _ (List.getElem_mem hj))
  have ADC := Lib.hid (fun (j : Nat) (hj : j < xs.length) => show w.cell? (ad.add j) = some (.int .i32 (xs.getD j 0)) by
    refine adc j _ ?_
    rw [List.getElem?_map, List.getD_eq_getElem?_getD, List.getElem?_eq_getElem hj]; rfl)
  obtain ⟨m, hm⟩ : ∃ m, m = xs.length := ⟨_, rfl⟩
  rw [← hm] at m0 m1 ADC WF ⊢
  rw [← hm] at IX
  have HM := Lib.hid hm
  clear h adc hS hm hwf
  obtain ⟨i0, hi0, hz0, hz1, hz2⟩ := info_parts infoC
  go_enter Tryd.func35, Tryd.ntmps35
  go_wp2_with fail
  go_loopw [5, 7] (fun v i wr => ∃ k : Nat, k ≤ N ∧ i = .int .i64 k ∧ wr.ownsRow w.heap.size 22 1 v k (firstK (fun i => rampAt (N : Int) xs (i : Int)) k) ∧ Below w.heap.size w wr) (fun _ i _ => N - (intOf i).toNat)
  case atStart => exact ⟨0, Nat.zero_le _, rfl, World.ownsRow_nil _ _ _ _, Below.refl _ _⟩
  case round =>
    obtain ⟨k, hk, rfl, ho, hb⟩ := hrel
    by_cases hlt : k < N
    · obtain ⟨P, q, j, r, X⟩ := IX.out k (by omega)
      have AE := AT.out k P q j r (by have := HM.out; subst this; exact X)
      obtain ⟨y1, y2, y3, y4, y5⟩ := ramp_search X
      obtain ⟨x1, x2, x3, x4, x5, x6, _, _, x9, x10, x11, x12⟩ := X
      have u1 := (hb.cell (p := ad.add j) (by rw [add_blk]; exact adb)).trans (ADC.out j x11)
      have u2' : Hid (r ≠ 0 → wr.cell? ⟨ad.block, ad.off + (j + 1), none⟩ = some (.int .i32 (xs.getD (j + 1) 0))) := Lib.hid (fun ne => by
        have := (hb.cell (p := ad.add (j + 1)) (by rw [add_blk]; exact adb)).trans (ADC.out (j + 1) (x12 ne))
        simpa [Addr.add] using this)
      have HO := Lib.hid ho
      have X1 := Lib.hid x1; have X2 := Lib.hid x2; have AEH := Lib.hid AE
      have Y1 := Lib.hid y1
      clear x1 x2 AE ho y1
      have mb0 : 0 ≤ (k : Int) * ((m : Int) - 1) := Int.mul_nonneg (by omega) (by omega)
      have mb1 : (k : Int) * ((m : Int) - 1) ≤ 61425 := by have := Int.mul_le_mul (show (k : Int) ≤ 4095 by omega) (show (m : Int) - 1 ≤ 15 by omega) (by omega) (by omega); omega
      go_upto_if 41 with fail
      go_cut [8, 9] (fun s8 s9 wx => s8 = .int .i64 P ∧ s9 = .int .i64 q ∧ wx = wr)
      case first =>
        by_cases c : N = 1
        · subst c
          have P0 : P = 0 := by have := X1.out; simpa using this
          have Q0 : q = 1 := by have := X2.out; omega
          subst P0
          subst Q0
          rw [show (((1 : Nat) : Int) == 1) = true from rfl]
          go_wp2_with fail
          go_meet
          exact ⟨rfl, rfl, rfl⟩
        · have e1 : ((N : Int) == 1) = false := by simp; omega
          have P0 : P = (k : Int) * ((m : Int) - 1) := by have := X1.out; rw [if_neg (by omega)] at this; exact this
          have Q0 : q = (N : Int) - 1 := by have := X2.out; omega
          have HP := Lib.hid P0
          have HQ := Lib.hid Q0
          clear P0 Q0 c
          rw [e1]
          go_wp2_with fail
          go_meet
          exact ⟨by rw [HP.out], by rw [HQ.out], rfl⟩
      case rest =>
        obtain ⟨rfl, rfl, rfl⟩ := hcut
        clear mb0 mb1
        go_wp2_with fail
        go_loop [10] (fun v => ∃ t : Nat, t ≤ j ∧ v = .int .i64 t) (fun v => j - (intOf v).toNat)
        case atStart => exact ⟨0, Nat.zero_le _, rfl⟩
        case round =>
          obtain ⟨t, ht, rfl⟩ := hrel
          by_cases tl : t < j
          · have g1 := Y1.out t tl
            have g0 : 0 ≤ ((t : Int) + 1) * q := Int.mul_nonneg (by omega) (by omega)
            go_wp2_with fail
            go_round
            case rel => exact ⟨t + 1, by omega, by go_num⟩
            case measure => simp [intOf]; omega
          · have e : t = j := by omega
            subst e
            have g2 : ((t : Int) + 1) * q ≤ 70000 := by have : ((t : Int) + 1) * q = (t : Int) * q + q := by rw [Int.add_mul, Int.one_mul]
                                                        omega
            have g0 : 0 ≤ ((t : Int) + 1) * q := Int.mul_nonneg (by omega) (by omega)
            clear ht tl
            go_upto_region 17 with fail
            by_cases rz : r = 0
            · have e1 : (r == 0) = true := by simpa using rz
              subst rz
              have AE2 : Hid (rampAt (N : Int) xs (k : Int) = mixV (xs.getD t 0) (xs.getD t 0) 0) := by have := AEH.out; rwa [if_pos rfl] at this
              have wj := WF.out t x11
              generalize xs.getD t 0 = xj at *
              have H1 : ∀ u ∈ [Value.int .i32 (mixV xj xj 0)], u.oneCell' = true := by intro u hu; simp at hu; subst hu; rfl
              have H2 : k + 1 ≤ maxLen := by unfold maxLen; omega
              have H3 : (k + 1) * 4 ≤ 140737488355328 := by omega
              go_wp2_with fail
              have hb1 : Below w.heap.size w wc.drew := hb.drew
              have ho1 : Hid (wc.drew.ownsRow w.heap.size 22 1 u5 k (firstK (fun i => rampAt (N : Int) xs (i : Int)) k)) := HO
              go_region_law (first
                | (refine step_append_own _ rfl (.tmp 57) (.tmp 67) 48 rfl w.heap.size 22 i0 (.int .i32 0) 1 4 Tryd.underlying48 hi0 hz0 hz1 hz2 rfl (by decide) u5 k _ rfl ow.out ⟨w2.heap.size, 0, none⟩ 1 1 [.int .i32 (mixV xj xj 0)] rfl rfl (news1 _ _ _) H1 H2 H3 H4 ?_
                   intro v' w3 hown3 hg3 _)
                | (go_simp; go_at_call 65
                   refine (ref_Mix _ _ _ wj.1 wj.2 wj.1 wj.2 _).mono ?_
                   rintro e w2 ⟨rfl, hb2⟩
                   have ow := Lib.hid ((own_call ho1.out hb2).alloc (.cells #[.int .i32 (mixV xj xj 0)] 22))
                   have B2 := below_call hb1 hb1.size hb2
                   have H4 := (B2.alloc B2.size (.cells #[.int .i32 (mixV xj xj 0)] 22)).size))
              all_goals
                have OW : Hid (w3.ownsRow w.heap.size 22 1 v' (k + 1) (firstK (fun i => rampAt (N : Int) xs (i : Int)) (k + 1))) := by
                  rw [firstK_succ, AE2.out]; exact Lib.hid hown3
                have BW : Below w.heap.size w w3 := (B2.alloc B2.size _).grown hg3 H4 (fun g hg => (ho1.out.lt g hg).1)
                clear hown3 hg3 ow B2 H4 hb2
                go_simp
                go_wp2_with fail
                go_roundw
                case rel => exact ⟨k + 1, by omega, by go_num, OW.out, BW⟩
                case measure => simp [intOf]; omega
            · have e1 : (r == 0) = false := by simpa using rz
              have AE2 : Hid (rampAt (N : Int) xs (k : Int) = mixV (xs.getD t 0) (xs.getD (t + 1) 0) (fdiv (floatOfInt .f64 r) (floatOfInt .f64 q))) := by have := AEH.out; rwa [if_neg rz] at this
              have wj := WF.out t x11
              have x12' := x12 rz
              have wk := WF.out (t + 1) x12'
              have u2 := u2'.out rz
              obtain ⟨_, fr, _⟩ := int_rat r (by omega) (by omega)
              obtain ⟨_, fq, vq⟩ := int_rat q (by omega) (by omega)
              have nq0 : val (floatOfInt .f64 q) ≠ 0 := by
                rw [vq]; intro e
                have : q = 0 := by exact_mod_cast e
                omega
              clear x12 rz vq u2'
              generalize xs.getD t 0 = xj at *
              generalize xs.getD (t + 1) 0 = xk at *
              have H2 : k + 1 ≤ maxLen := by unfold maxLen; omega
              have H3 : (k + 1) * 4 ≤ 140737488355328 := by omega
              have s1 : IntKind.i64.wrap ((t : Int) + 1) = (t : Int) + 1 := IntWalk.i64_in _ (by omega)
              have s2 : 0 ≤ (t : Int) + 1 := by omega
              have s3 : ((t : Int) + 1).toNat = t + 1 := by omega
              have s4 : (t : Int) + 1 < (m : Int) := by omega
              have H1 : ∀ u ∈ [Value.int .i32 (mixV xj xk (fdiv (floatOfInt .f64 r) (floatOfInt .f64 q)))], u.oneCell' = true := by intro u hu; simp at hu; subst hu; rfl
              go_wp2_with fail
              have hb1 : Below w.heap.size w wc.drew := hb.drew
              have ho1 : Hid (wc.drew.ownsRow w.heap.size 22 1 u5 k (firstK (fun i => rampAt (N : Int) xs (i : Int)) k)) := HO
              go_region_law (first
                | (refine step_append_own _ rfl (.tmp 69) (.tmp 85) 48 rfl w.heap.size 22 i0 (.int .i32 0) 1 4 Tryd.underlying48 hi0 hz0 hz1 hz2 rfl (by decide) u5 k _ rfl ow.out ⟨w2.heap.size, 0, none⟩ 1 1 [.int .i32 (mixV xj xk (fdiv (floatOfInt .f64 r) (floatOfInt .f64 q)))] rfl rfl (news1 _ _ _) H1 H2 H3 H4 ?_
                   intro v' w3 hown3 hg3 _)
                | (go_simp; go_at_call 65
                   refine (ref_Mix _ _ _ wj.1 wj.2 wk.1 wk.2 _).mono ?_
                   rintro e w2 ⟨rfl, hb2⟩
                   have ow := Lib.hid ((own_call ho1.out hb2).alloc (.cells #[.int .i32 (mixV xj xk (fdiv (floatOfInt .f64 r) (floatOfInt .f64 q)))] 22))
                   have B2 := below_call hb1 hb1.size hb2
                   have H4 := (B2.alloc B2.size (.cells #[.int .i32 (mixV xj xk (fdiv (floatOfInt .f64 r) (floatOfInt .f64 q)))] 22)).size))
              all_goals
                clear s1 s2 s3 s4
                have OW : Hid (w3.ownsRow w.heap.size 22 1 v' (k + 1) (firstK (fun i => rampAt (N : Int) xs (i : Int)) (k + 1))) := by
                  rw [firstK_succ, AE2.out]; exact Lib.hid hown3
                have BW : Below w.heap.size w w3 := (B2.alloc B2.size _).grown hg3 H4 (fun g hg => (ho1.out.lt g hg).1)
                clear hown3 hg3 ow B2 H4 hb2
                go_simp
                go_wp2_with fail
                go_roundw
                case rel => exact ⟨k + 1, by omega, by go_num, OW.out, BW⟩
                case measure => simp [intOf]; omega
    · have e : k = N := by omega
      subst e
      go_wp2_with fail
      go_ret
      rename_i v _ _ _
      exact ⟨_, rfl, by rw [LE.out, firstK_len]; exact ho, hb⟩
end Go.Proofs.YtpbpkdhdjdaiiaaDoor
