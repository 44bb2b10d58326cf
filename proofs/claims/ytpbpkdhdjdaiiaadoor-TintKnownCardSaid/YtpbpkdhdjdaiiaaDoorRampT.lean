/- The ramp of colours: plain, and the walk of the program's Ramp. -/
import Derived.Test.YtpbpkdhdjdaiiaaDoorMem
import Derived.Test.YtpbpkdhdjdaiiaaDoorMixY
import Derived.Deep.RegionWith
import Derived.Deep.DeepCutAuto
import Derived.IntWalk
namespace Go.Proofs.YtpbpkdhdjdaiiaaDoor
open Go.RowKit Flt
set_option linter.unusedVariables false

def rampAt (n : Int) (xs : List Int) (i : Int) : Int :=
  if (if n = 1 then 0 else i * ((xs.length : Int) - 1)) % (max (n - 1) 1) = 0
  then mixV (xs.getD ((if n = 1 then 0 else i * ((xs.length : Int) - 1)) / (max (n - 1) 1)).toNat 0) (xs.getD ((if n = 1 then 0 else i * ((xs.length : Int) - 1)) / (max (n - 1) 1)).toNat 0) 0
  else mixV (xs.getD ((if n = 1 then 0 else i * ((xs.length : Int) - 1)) / (max (n - 1) 1)).toNat 0) (xs.getD ((if n = 1 then 0 else i * ((xs.length : Int) - 1)) / (max (n - 1) 1) + 1).toNat 0) (fdiv (floatOfInt .f64 ((if n = 1 then 0 else i * ((xs.length : Int) - 1)) % (max (n - 1) 1))) (floatOfInt .f64 (max (n - 1) 1)))
def rampOk (n : Int) (m : Nat) : Bool := decide (1 ≤ n ∧ n ≤ 4096 ∧ 1 ≤ m ∧ m ≤ 16)
def rampL (n : Int) (xs : List Int) : List Int := if rampOk n xs.length = true then (List.range n.toNat).map (fun (i : Nat) => rampAt n xs (i : Int)) else []

/-- the first k of N done -/
def upTo (F : Nat → Int) (N k : Nat) : List Value := (List.range N).map fun i => .int .i32 (if i < k then F i else 0)
theorem upTo_length (F : Nat → Int) (N k : Nat) : (upTo F N k).length = N := by simp [upTo]
theorem upTo_zero (F : Nat → Int) (N : Nat) : upTo F N 0 = List.replicate N (.int .i32 0) := by
  unfold upTo
  apply List.ext_getElem
  · simp
  · intro i h1 h2; simp
theorem upTo_succ (F : Nat → Int) (N k : Nat) (h : k < N) : (upTo F N k).set k (.int .i32 (F k)) = upTo F N (k + 1) := by
  unfold upTo
  apply List.ext_getElem
  · simp
  · intro i h1 h2
    simp only [List.getElem_set, List.getElem_map, List.getElem_range]
    by_cases e : k = i
    · subst e; rw [if_pos rfl, if_pos (by omega)]
    · rw [if_neg e]
      by_cases l : i < k
      · rw [if_pos l, if_pos (by omega)]
      · rw [if_neg l, if_neg (by omega)]
theorem upTo_full (F : Nat → Int) (N : Nat) : upTo F N N = ((List.range N).map F).map (.int .i32) := by
  unfold upTo
  rw [List.map_map]
  apply List.map_congr_left
  intro i hi
  rw [List.mem_range] at hi
  simp [hi]

/-- the numbers of a round -/
structure RampIx (n : Int) (m : Nat) (i : Nat) (P q : Int) (j : Nat) (r : Int) : Prop where
  hP : P = if n = 1 then 0 else (i : Int) * ((m : Int) - 1)
  hq : q = max (n - 1) 1
  q0 : 1 ≤ q
  q1 : q ≤ 4095
  p0 : 0 ≤ P
  p1 : P ≤ 61425
  hj : P / q = (j : Int)
  hr : P % q = r
  r0 : 0 ≤ r
  r1 : r < q
  jm : j < m
  jm1 : r ≠ 0 → j + 1 < m

theorem ramp_ix (n : Int) (m i : Nat) (h0 : 1 ≤ n) (h1 : n ≤ 4096) (m0 : 1 ≤ m) (m1 : m ≤ 16) (hi : (i : Int) < n) : ∃ P q j r, RampIx n m i P q j r := by
  have q0 : 1 ≤ max (n - 1) 1 := by omega
  have q1 : max (n - 1) 1 ≤ 4095 := by omega
  obtain ⟨q, hq⟩ : ∃ q, q = max (n - 1) 1 := ⟨_, rfl⟩
  rw [← hq] at q0 q1
  obtain ⟨P, hP⟩ : ∃ P : Int, P = if n = 1 then 0 else (i : Int) * ((m : Int) - 1) := ⟨_, rfl⟩
  have pq : 0 ≤ P ∧ P ≤ q * ((m : Int) - 1) ∧ P ≤ 61425 := by
    by_cases c : n = 1
    · rw [if_pos c] at hP
      have : 0 ≤ q * ((m : Int) - 1) := Int.mul_nonneg (by omega) (by omega)
      omega
    · rw [if_neg c] at hP
      have a := Int.mul_nonneg (show (0 : Int) ≤ (i : Int) by omega) (show (0 : Int) ≤ (m : Int) - 1 by omega)
      have b := Int.mul_le_mul_of_nonneg_right (show (i : Int) ≤ q by omega) (show (0 : Int) ≤ (m : Int) - 1 by omega)
      have d := Int.mul_le_mul (show (i : Int) ≤ 4095 by omega) (show (m : Int) - 1 ≤ 15 by omega) (by omega) (by omega)
      omega
  obtain ⟨p0, p2, p1⟩ := pq
  have d0 : 0 ≤ P / q := Int.ediv_nonneg p0 (by omega)
  have r0 := Int.emod_nonneg P (show q ≠ 0 by omega)
  have r1 := Int.emod_lt_of_pos P (show 0 < q by omega)
  have e := Int.mul_ediv_add_emod P q
  have up : P / q ≤ (m : Int) - 1 := Int.le_of_mul_le_mul_left (a := q) (by omega) (by omega)
  have up1 : P % q ≠ 0 → P / q < (m : Int) - 1 := by
    intro ne
    refine Int.lt_of_mul_lt_mul_left (a := q) ?_ (by omega)
    omega
  exact ⟨P, q, (P / q).toNat, P % q, hP, hq, q0, q1, p0, p1, by omega, rfl, r0, r1, by omega, fun ne => by have := up1 ne; omega⟩

theorem rampAt_ix {n : Int} {xs : List Int} {i : Nat} {P q : Int} {j : Nat} {r : Int} (h : RampIx n xs.length i P q j r) :
    rampAt n xs (i : Int) = if r = 0 then mixV (xs.getD j 0) (xs.getD j 0) 0 else mixV (xs.getD j 0) (xs.getD (j + 1) 0) (fdiv (floatOfInt .f64 r) (floatOfInt .f64 q)) := by
  unfold rampAt
  rw [← h.hP, ← h.hq, h.hr, h.hj]
  have e1 : ((j : Int)).toNat = j := by omega
  have e2 : ((j : Int) + 1).toNat = j + 1 := by omega
  rw [e1, e2]

theorem infoC : (Tryd.prog.info? 22).map (fun i => (i.zero, i.size, i.bytes)) = some (some (.int .i32 0), 1, 4) := by kernel_rfl

set_option maxHeartbeats 4000000 in
set_option maxRecDepth 100000 in
theorem tint_Ramp_none (n : Int) (A : Option Addr) (c : Nat) (xs : List Int) (h : rampOk n xs.length = false) (hm : xs.length ≤ 100000000000000) (w : World) :
    Calls Tryd.prog 37 #[.int .i64 n, .slice A xs.length c] w fun e w' => e = .returned (.slice none 0 0) ∧ w = w' := by
  have hx : ¬ (1 ≤ n ∧ n ≤ 4096 ∧ 1 ≤ xs.length ∧ xs.length ≤ 16) := by unfold rampOk at h; rwa [decide_eq_false_iff_not] at h
  clear h
  generalize xs.length = m at *
  by_cases c1 : n < 1
  · go_enter Tryd.func37, Tryd.ntmps37
    go_wp2
    go_ret
    exact ⟨rfl, rfl⟩
  by_cases c2 : 4096 < n
  · go_enter Tryd.func37, Tryd.ntmps37
    go_wp2
    go_ret
    exact ⟨rfl, rfl⟩
  by_cases c3 : m = 0
  · subst c3
    go_enter Tryd.func37, Tryd.ntmps37
    go_wp2
    go_ret
    exact ⟨rfl, rfl⟩
  · have c4 : 16 < m := by omega
    have c5 : ((m : Int) == 0) = false := by simp; omega
    clear hx c3
    go_enter Tryd.func37, Tryd.ntmps37
    go_wp2
    go_ret
    exact ⟨rfl, rfl⟩

set_option maxHeartbeats 4000000 in
set_option maxRecDepth 100000 in
theorem tint_Ramp_some (n : Int) (A : Option Addr) (c : Nat) (xs : List Int) (h : rampOk n xs.length = true) (w : World) (hS : Sees w w.heap.size A (xs.map (.int .i32))) :
    Calls Tryd.prog 37 #[.int .i64 n, .slice A xs.length c] w fun e w' => e = .returned (.slice (some ⟨w.heap.size, 0, none⟩) n.toNat n.toNat) ∧ w'.ownsRow w.heap.size 22 1 (.slice (some ⟨w.heap.size, 0, none⟩) n.toNat n.toNat) n.toNat ((rampL n xs).map (.int .i32)) ∧ Below w.heap.size w w' := by
  obtain ⟨n0, n1, m0, m1⟩ : 1 ≤ n ∧ n ≤ 4096 ∧ 1 ≤ xs.length ∧ xs.length ≤ 16 := by unfold rampOk at h; rwa [decide_eq_true_iff] at h
  have LE : Hid ((rampL n xs).map (Value.int .i32) = upTo (fun i => rampAt n xs (i : Int)) n.toNat n.toNat) := by
    unfold Hid rampL; rw [if_pos h, upTo_full]
  obtain ⟨N, hN⟩ : ∃ N : Nat, n = (N : Int) := ⟨n.toNat, by omega⟩
  subst hN
  rw [Int.toNat_natCast] at LE ⊢
  obtain ⟨ad, rfl, adb, adc⟩ := hS (by intro e; rw [List.map_eq_nil_iff] at e; rw [e] at m0; simp at m0)
  have IX := Lib.hid (fun i hi => ramp_ix (N : Int) xs.length i n0 n1 m0 m1 hi)
  have AT := Lib.hid (fun i P q j r => @rampAt_ix (N : Int) xs i P q j r)
  have ADC := Lib.hid (fun (j : Nat) (hj : j < xs.length) => show w.cell? (ad.add j) = some (.int .i32 (xs.getD j 0)) by
    refine adc j _ ?_
    rw [List.getElem?_map, List.getD_eq_getElem?_getD, List.getElem?_eq_getElem hj]; rfl)
  obtain ⟨m, hm⟩ : ∃ m, m = xs.length := ⟨_, rfl⟩
  rw [← hm] at m0 m1 ADC ⊢
  rw [← hm] at IX
  have HM := Lib.hid hm
  clear h adc hS hm
  obtain ⟨i0, hi0, hz0, hz1, hz2⟩ := info_parts infoC
  have mne : ((m : Int) == 0) = false := by simp; omega
  obtain ⟨q, hq⟩ : ∃ q : Int, max ((N : Int) - 1) 1 = q := ⟨_, rfl⟩
  have q0 : 1 ≤ q := by omega
  have q1 : q ≤ 4095 := by omega
  have HQ := Lib.hid hq
  have hmk1 : i0.bytes * N ≤ 281474976710656 := by rw [hz2]; omega
  have hmk2 : N ≤ maxLen := by unfold maxLen; omega
  go_enter Tryd.func37, Tryd.ntmps37
  go_upto_region 4 with (at_make; refine wpList_make_full _ rfl _ _ _ rfl w.heap.size 22 i0 (.int .i32 0) 1 Tryd.underlying48 hi0 hz0 hz1 .i64 .i64 N N N rfl rfl rfl rfl hmk1 hmk2 (Nat.le_refl _) ?_; intro w1 hown hg1)
  go_cut [6] (fun s6 wx => s6 = .int .i64 q ∧ wx = w1)
  case first =>
    go_wp2_with fail
    all_goals
      go_meet
      exact ⟨by have := HQ.out; congr 1; omega, rfl⟩
  case rest =>
    obtain ⟨rfl, rfl⟩ := hcut
    go_wp2_with fail
    have hb1 : Below w.heap.size w wc := (Below.refl _ _).grown hg1 (Nat.le_refl _) (by simp)
    go_loopw [34] (fun i wr => ∃ k : Nat, k ≤ N ∧ i = .int .i64 k ∧ wr.ownsRow w.heap.size 22 1 (.slice (some ⟨w.heap.size, 0, none⟩) N N) N (upTo (fun i => rampAt (N : Int) xs (i : Int)) N k) ∧ Below w.heap.size w wr) (fun i _ => N - (intOf i).toNat)
    case atStart =>
      refine ⟨0, Nat.zero_le _, rfl, ?_, hb1⟩
      rw [upTo_zero]
      have := hown
      rwa [Nat.mul_one, show (Value.int IntKind.i32 0).cells = #[.int .i32 0] from rfl, toList_madeCells_one] at this
    case round =>
      obtain ⟨k, hk, rfl, ho, hb⟩ := hrel
      by_cases hlt : k < N
      · obtain ⟨P, qq, j, r, X⟩ := IX.out k (by omega)
        have hqq : qq = q := by rw [X.hq]; exact HQ.out
        subst hqq
        have AE := AT.out k P qq j r (by have := HM.out; subst this; exact X)
        obtain ⟨x1, x2, x3, x4, x5, x6, x7, x8, x9, x10, x11, x12⟩ := X
        have u1 := ADC.out j (by have := HM.out; omega)
        have u1 := (hb.cell (p := ad.add j) (by rw [add_blk]; exact adb)).trans u1
        have c0 : wr.cell? ⟨w.heap.size, k, none⟩ = some (.int .i32 (if k < k then rampAt (N : Int) xs (k : Int) else 0)) := by
          rw [ho.cellAt k (by omega)]; unfold upTo; simp [hlt]
        have f0 := ho.frozenAt k
        have lw : w.heap.size < wr.heap.size := block_lt_of_cell c0
        have HO := Lib.hid ho
        have X1 := Lib.hid x1; have X2 := Lib.hid x2; have AEH := Lib.hid AE
        clear x1 x2 AE ho
        have mb0 : 0 ≤ (k : Int) * ((m : Int) - 1) := Int.mul_nonneg (by omega) (by omega)
        have mb1 : (k : Int) * ((m : Int) - 1) ≤ 61425 := by have := Int.mul_le_mul (show (k : Int) ≤ 4095 by omega) (show (m : Int) - 1 ≤ 15 by omega) (by omega) (by omega); omega
        go_upto_if 43 with fail
        go_cut [8] (fun s8 wx => s8 = .int .i64 P ∧ wx = wr)
        case first =>
          by_cases c : N = 1
          · subst c
            have k0 : k = 0 := by omega
            subst k0
            have P0 : P = 0 := by have := X1.out; simpa using this
            subst P0
            rw [show (((1 : Nat) : Int) == 1) = true from rfl]
            go_wp2_with fail
            go_meet
            exact ⟨rfl, rfl⟩
          · have e1 : ((N : Int) == 1) = false := by simp; omega
            have P0 : P = (k : Int) * ((m : Int) - 1) := by have := X1.out; rw [if_neg (by omega)] at this; exact this
            have HP := Lib.hid P0
            clear P0 c
            rw [e1]
            go_wp2_with fail
            go_meet
            exact ⟨by rw [HP.out], rfl⟩
        case rest =>
          obtain ⟨rfl, rfl⟩ := hcut
          clear mb0 mb1
          go_upto_region 12 with (go_quiet (fail))
          rw [x7, x8]
          have hb' : Below w.heap.size w (wc.drewN nq) := below_drewN hb _
          have c0' : (wc.drewN nq).cell? ⟨w.heap.size, k, none⟩ = some (.int .i32 (if k < k then rampAt (N : Int) xs (k : Int) else 0)) := c0
          have f0' : (wc.drewN nq).frozen? ⟨w.heap.size, k, none⟩ = false := f0
          have lw' : w.heap.size < (wc.drewN nq).heap.size := lw
          have HO' : Hid ((wc.drewN nq).ownsRow w.heap.size 22 1 (.slice (some ⟨w.heap.size, 0, none⟩) N N) N (upTo (fun i => rampAt (N : Int) xs (i : Int)) N k)) := HO
          have u1' : (wc.drewN nq).cell? (ad.add j) = some (.int .i32 (xs.getD j 0)) := u1
          have u2' : Hid (r ≠ 0 → (wc.drewN nq).cell? (ad.add (j + 1)) = some (.int .i32 (xs.getD (j + 1) 0))) := Lib.hid (fun ne => (hb.cell (p := ad.add (j + 1)) (by rw [add_blk]; exact adb)).trans (ADC.out (j + 1) (by have := HM.out; have := x12 ne; omega)))
          clear hb c0 f0 lw HO u1 x7 x8
          generalize wc.drewN nq = wd at *
          by_cases rz : r = 0
          · have e1 : (r == 0) = true := by simpa using rz
            subst rz
            have AE2 : Hid (rampAt (N : Int) xs (k : Int) = mixV (xs.getD j 0) (xs.getD j 0) 0) := by have := AEH.out; rwa [if_pos rfl] at this
            generalize xs.getD j 0 = xj at *
            go_wp2_with fail
            go_region_with (go_at_call 34; refine (tint_Mix _ _ _ _).mono ?_; rintro e w2 ⟨rfl, hb2⟩; have c2 := (hb2.cell (p := ⟨w.heap.size, k, none⟩) (by simpa using lw')).trans c0'; have f2 := (hb2.frozen (p := ⟨w.heap.size, k, none⟩) (by simpa using lw')).trans f0')
            all_goals
              have hbw : Below w.heap.size w w2 := by
                refine below_call (w := w) ?_ ?_ hb2
                · repeat (first | exact hb' | refine Below.drew ?_ | refine below_drewN ?_ _)
                · exact hb'.size
              have ow : w2.ownsRow w.heap.size 22 1 (.slice (some ⟨w.heap.size, 0, none⟩) N N) N (upTo (fun i => rampAt (N : Int) xs (i : Int)) N k) := by
                refine own_call ?_ hb2
                first | exact HO'.out | exact HO'.out.drew | exact HO'.out.drew.drew
              have st := ow.stored k (.int .i32 (mixV xj xj 0))
              have OW : Hid ((w2.setCell ⟨w.heap.size, k, none⟩ (.int .i32 (mixV xj xj 0))).ownsRow w.heap.size 22 1 (.slice (some ⟨w.heap.size, 0, none⟩) N N) N (upTo (fun i => rampAt (N : Int) xs (i : Int)) N (k + 1))) := by
                have := st.1
                rw [← AE2.out, upTo_succ _ _ _ hlt] at this
                rw [← AE2.out]
                exact Lib.hid this
              have BW := hbw.setCell (p := ⟨w.heap.size, k, none⟩) (Nat.le_refl _) (.int .i32 (mixV xj xj 0))
              clear st ow hb2 hbw c2 f2
              go_wp2_with fail
              go_roundw
              case rel => exact ⟨k + 1, by omega, by go_num, OW.out, BW⟩
              case measure => simp [intOf]; omega
          · have e1 : (r == 0) = false := by simpa using rz
            have AE2 : Hid (rampAt (N : Int) xs (k : Int) = mixV (xs.getD j 0) (xs.getD (j + 1) 0) (fdiv (floatOfInt .f64 r) (floatOfInt .f64 qq))) := by have := AEH.out; rwa [if_neg rz] at this
            have u2 : wd.cell? ⟨ad.block, ad.off + (j + 1), none⟩ = some (.int .i32 (xs.getD (j + 1) 0)) := by have := u2'.out rz; simpa [Addr.add] using this
            obtain ⟨_, fr, _⟩ := int_rat r (by omega) (by omega)
            obtain ⟨_, fq, vq⟩ := int_rat qq (by omega) (by omega)
            have nq0 : val (floatOfInt .f64 qq) ≠ 0 := by
              rw [vq]; intro e
              have : qq = 0 := by exact_mod_cast e
              omega
            have x12' := x12 rz
            clear x12 rz vq u2'
            generalize xs.getD j 0 = xj at *
            generalize xs.getD (j + 1) 0 = xk at *
            have s1 : IntKind.i64.wrap ((j : Int) + 1) = (j : Int) + 1 := IntWalk.i64_in _ (by omega)
            have s2 : 0 ≤ (j : Int) + 1 := by omega
            have s3 : ((j : Int) + 1).toNat = j + 1 := by omega
            have s4 : (j : Int) + 1 < (m : Int) := by omega
            go_wp2_with fail
            go_region_with (go_at_call 34; refine (tint_Mix _ _ _ _).mono ?_; rintro e w2 ⟨rfl, hb2⟩; have c2 := (hb2.cell (p := ⟨w.heap.size, k, none⟩) (by simpa using lw')).trans c0'; have f2 := (hb2.frozen (p := ⟨w.heap.size, k, none⟩) (by simpa using lw')).trans f0')
            all_goals
              clear s1 s2 s3 s4
              have hbw : Below w.heap.size w w2 := by
                refine below_call (w := w) ?_ ?_ hb2
                · repeat (first | exact hb' | refine Below.drew ?_ | refine below_drewN ?_ _)
                · exact hb'.size
              have ow : w2.ownsRow w.heap.size 22 1 (.slice (some ⟨w.heap.size, 0, none⟩) N N) N (upTo (fun i => rampAt (N : Int) xs (i : Int)) N k) := by
                refine own_call ?_ hb2
                first | exact HO'.out | exact HO'.out.drew | exact HO'.out.drew.drew
              have st := ow.stored k (.int .i32 (mixV xj xk (fdiv (floatOfInt .f64 r) (floatOfInt .f64 qq))))
              have OW : Hid ((w2.setCell ⟨w.heap.size, k, none⟩ (.int .i32 (mixV xj xk (fdiv (floatOfInt .f64 r) (floatOfInt .f64 qq))))).ownsRow w.heap.size 22 1 (.slice (some ⟨w.heap.size, 0, none⟩) N N) N (upTo (fun i => rampAt (N : Int) xs (i : Int)) N (k + 1))) := by
                have := st.1
                rw [← AE2.out, upTo_succ _ _ _ hlt] at this
                rw [← AE2.out]
                exact Lib.hid this
              have BW := hbw.setCell (p := ⟨w.heap.size, k, none⟩) (Nat.le_refl _) (.int .i32 (mixV xj xk (fdiv (floatOfInt .f64 r) (floatOfInt .f64 qq))))
              clear st ow hb2 hbw c2 f2
              go_wp2_with fail
              go_roundw
              case rel => exact ⟨k + 1, by omega, by go_num, OW.out, BW⟩
              case measure => simp [intOf]; omega
      · have e : k = N := by omega
        subst e
        go_wp2_with fail
        go_ret
        exact ⟨rfl, by rw [LE.out]; exact ho, hb⟩
end Go.Proofs.YtpbpkdhdjdaiiaaDoor
