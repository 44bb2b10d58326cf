/- VtAnswers: the walk. -/
import Derived.Test.YtkllilehdpdbdaaGreatDoorVyPb
import Derived.Test.YtkllilehdpdbdaaGreatDoorVyK
import Derived.Test.YtkllilehdpdbdaaGreatDoorVtY
namespace Go.Proofs.YtkllilehdpdbdaaGreatDoor
open Go Go.RowKit Go.Sort
set_option linter.unusedVariables false
set_option linter.unusedSimpArgs false
section
theorem ans_live (h r : ByteArray) (hr : r.size ≤ 65536) : Live (ansT h r) :=
  ⟨(fine_new 6 2 (by decide) (by decide) (by decide) (by decide) (by decide)).still rfl rfl rfl, ⟨by show (0 : Int) ≤ 0; decide, by show (0 : Int) ≤ 7; decide, Or.inl rfl⟩, Or.inl rfl, fun _ => rfl, hr⟩
/-- bytes of a literal are fed -/
theorem lit_feed {W V : World} {nb : Nat} {t : Trm} (S : St W [] nb t V) (Lv : Live t) (D : List Int) (hD : D.length ≤ 1000) (rng : ∀ b ∈ D, 0 ≤ b ∧ b < 256) (hh : t.held.size ≤ 1000000) (fl : Nat × Nat) :
    Calls Tryz.prog 16 #[.pointer (some ⟨nb, 0, none⟩), .slice (some ⟨V.heap.size, 0, none⟩) D.length D.length] (V.alloc (.cells (D.map fun b => Value.int .u8 b).toArray 5 fl)) fun e w' => e = .returned (.int .i64 0) ∧ St W [] nb (feedT t D) w' := by
  have BV2 : Below V.heap.size V (V.alloc (.cells (D.map fun b => Value.int .u8 b).toArray 5 fl)) := (Below.refl _ V).alloc (Nat.le_refl _) _
  obtain ⟨F, h2, up, hF⟩ := S.holdAt BV2
  refine (t_Feed h2 Lv (some ⟨V.heap.size, 0, none⟩) D.length D (by omega) (by omega) rng (fed_lit D (World.alloc_heap_new V _) hF)).mono ?_
  rintro e w' ⟨h1, h3⟩
  exact ⟨h1, up _ _ h3⟩
theorem feed4 {W V : World} {nb : Nat} {h : ByteArray} {k : Nat} (S : St W [] nb (ansT h (repsK k)) V) (hh : h.size ≤ 1) :
    Calls Tryz.prog 16 #[.pointer (some ⟨nb, 0, none⟩), .slice (some ⟨V.heap.size, 0, none⟩) 4 4] (V.alloc (.cells #[.int .u8 27, .int .u8 91, .int .u8 53, .int .u8 110] 5 (4, 5))) fun e w' => e = .returned (.int .i64 0) ∧ St W [] nb (ansT ⟨#[53]⟩ (repsK (k + 1))) w' := by
  have z := repsK_size k
  refine (lit_feed S (ans_live _ _ (by omega)) [27, 91, 53, 110] (by decide) (by decide) (by show h.size ≤ _; omega) (4, 5)).mono ?_
  rintro e w' ⟨h1, h2⟩
  rw [feed_k k h (repsK k) rfl] at h2
  exact ⟨h1, h2⟩
theorem kept_front {V : World} {A : Option Addr} {c : Nat} {s : ByteArray} (h : KeptAt V (.slice A s.size c) s) (h4 : 4 ≤ s.size) : KeptAt V (.slice A 4 c) (s.extract 0 4) := by
  obtain ⟨A', c', e, h1, h2, h3, h5⟩ := h
  simp only [Value.slice.injEq] at e
  obtain ⟨rfl, _, rfl⟩ := e
  have sz : (s.extract 0 4).size = 4 := by rw [ByteArray.size_extract]; omega
  refine ⟨A, c, by rw [sz], by omega, h2, h3, fun hc => ?_⟩
  obtain ⟨g, o, cur, rfl, q1, q2, q3⟩ := h5 hc
  refine ⟨g, o, cur, rfl, q1, q2, fun j u hj => q3 j u ?_⟩
  have e : Lib.strCells (s.extract 0 4) = (Lib.strCells s).take 4 := by
    unfold Lib.strCells
    rw [← List.map_take]
    congr 1
    rw [ByteArray.data_extract, Array.toList_extract]
    simp [List.extract]
  rw [e, List.getElem?_take] at hj
  split at hj
  · exact hj
  · cases hj
set_option maxHeartbeats 16000000 in
set_option maxRecDepth 100000 in
theorem ans_walk (m a : Nat) (hm : m ≤ 65535) (ha : a ≤ 255) (W : World) (E : EnvV W) : Calls Tryz.prog 3 #[.int .u16 (m : Int), .int .u8 (a : Int)] W fun e w' => e = .returned (.bool true) ∧ Below W.heap.size W w' := by
  have NW := Lib.hid (t_New 6 2 (by decide) (by decide) (by decide) (by decide) (by decide) W E)
  have EW : Hid (∀ V, Below W.heap.size W V → EnvV V) := Lib.hid (fun V hb => E.mv (Mv.below (F := []) hb) (by simp))
  have CV := fun (w : World) (C : Array Value) (n c : Nat) => Lib.run_convert_bytes_const (P := Tryz.prog) w 29 5 C n c Tryz.underlying29 Tryz.underlying5
  clear E
  go_enter Tryz.func3, Tryz.ntmps3
  go_wp2_with fail
  refine NW.out.mono ?_; rintro e V ⟨nb, rfl, hb, hge, hn⟩
  have hn : St W [] nb (ansT zB (repsK 0)) V := hn
  have WK := Lib.hid (law_works V (EW.out V hb))
  have S0 := Lib.hid hn
  clear NW hb hge hn EW
  go_wp2_with fail
  refine WK.out.mono ?_; rintro e V1 ⟨rfl, hb1⟩
  have S1 := Lib.hid (S0.out.below hb1)
  clear WK S0 hb1
  go_wp2_with fail
  go_loopw [24] (fun i wr => ∃ (k : Nat) (h : ByteArray), k ≤ m ∧ i = .int .u16 (k : Int) ∧ Hid (h.size ≤ 1 ∧ St W [] nb (ansT h (repsK k)) wr)) (fun i _ => m - (intOf i).toNat)
  case atStart => exact ⟨0, zB, Nat.zero_le _, by simp, Lib.hid ⟨by decide, S1.out⟩⟩
  case round =>
    obtain ⟨k, h, hk, rfl, hr⟩ := hrel
    clear S1
    by_cases lt : k < m
    · have FE := Lib.hid (feed4 hr.out.2 hr.out.1)
      have q5 : (k : Int) < (m : Int) := by omega
      have wk : IntKind.u16.wrap ((k : Int) + 1) = (k : Int) + 1 := by rw [IntKind.wrap_u16]; omega
      clear hr
      go_wp2_with fail
      refine FE.out.mono ?_; rintro e w2 ⟨rfl, h2⟩
      have H2 : Hid ((⟨#[53]⟩ : ByteArray).size ≤ 1 ∧ St W [] nb (ansT ⟨#[53]⟩ (repsK (k + 1))) w2) := Lib.hid ⟨by decide, h2⟩
      clear h2 FE
      go_wp2_with fail
      go_roundw
      case rel => exact ⟨k + 1, _, by omega, by go_num, H2⟩
      case measure => simp [intOf]; omega
    · have ek : k = m := by omega
      subst ek
      have q5 : ¬ (k : Int) < (k : Int) := by omega
      have SZ := Lib.hid (repsK_size k)
      have F8 := Lib.hid (lit_feed hr.out.2 (ans_live _ _ (by have := repsK_size k; omega)) [27, 91, 54, 110, 27, 91, 53, 110] (by decide) (by decide) (by show h.size ≤ _; have := hr.out.1; omega) (8, 9))
      clear hr
      go_wp2_with fail
      refine F8.out.mono ?_; rintro e w2 ⟨rfl, h2⟩
      rw [feed_65] at h2
      have h2 : St W [] nb (ansT ⟨#[53]⟩ (repsE k)) w2 := h2
      have RE := Lib.hid (t_Replies h2)
      clear h2 F8
      go_wp2_with fail
      refine RE.out.mono ?_; rintro e w3 ⟨v, rfl, KR, _, S3⟩
      have KR : KeptAt w3 v (repsE k) := KR
      have S4 : Hid (St W [] nb (ansT ⟨#[53]⟩ (repsK 0)) w3) := Lib.hid S3
      clear S3
      have ZE := repsE_size k
      obtain ⟨A, c, ev, _⟩ := id KR
      subst ev
      have KH := Lib.hid KR
      obtain ⟨n, hn⟩ : ∃ n, n = (repsE k).size := ⟨_, rfl⟩
      rw [← hn] at ZE
      have HN := Lib.hid hn
      have CC : Hid (0 < k → 4 ≤ n ∧ (convert 29 9 (.slice A 4 c)).run Tryz.prog w3 = .ok (.string ⟨#[27, 91, 48, 110]⟩) w3 ∧ 4 ≤ c) := Lib.hid (fun h0 => by
        have n4 : 4 ≤ n := by
          rw [ZE]
          repeat' split
          all_goals omega
        rw [hn] at n4
        have := kept_string (kept_front KH.out n4)
        rw [repsE_front k h0] at this
        obtain ⟨_, c', e', q1, _⟩ := KH.out
        simp only [Value.slice.injEq] at e'
        obtain ⟨_, _, rfl⟩ := e'
        exact ⟨by rw [hn]; exact n4, this, by omega⟩)
      rw [← hn]
      clear RE KR hn
      obtain ⟨q, hq⟩ : ∃ q, q = min k 16384 := ⟨_, rfl⟩
      obtain ⟨z, hz⟩ : ∃ z : Int, z = (q : Int) := ⟨_, rfl⟩
      have z0 : 0 ≤ z ∧ z ≤ 16384 := by omega
      have mi : min (k : Int) 16384 = z := by omega
      have mi2 : (if (k : Int) ≤ 16384 then (k : Int) else 16384) = z := by split <;> omega
      have w4 : IntKind.i64.wrap (4 * z) = 4 * z := IntWalk.i64_in _ (by omega)
      have w6 : IntKind.i64.wrap (4 * z + 6) = 4 * z + 6 := IntWalk.i64_in _ (by omega)
      have wki : IntKind.i64.wrap (k : Int) = (k : Int) := IntWalk.i64_in _ (by omega)
      have ZH : Hid ((n : Int) = (if (if 4 * z + 6 ≤ 65536 then 4 * z + 6 else 4 * z) + 4 ≤ 65536 then (if 4 * z + 6 ≤ 65536 then 4 * z + 6 else 4 * z) + 4 else (if 4 * z + 6 ≤ 65536 then 4 * z + 6 else 4 * z))) := Lib.hid (by
        rw [← hq] at ZE
        rw [ZE, hz]
        by_cases a1 : 4 * q + 6 ≤ 65536
        · rw [if_pos a1, if_pos (show 4 * (q : Int) + 6 ≤ 65536 by omega)]
          by_cases a2 : 4 * q + 6 + 4 ≤ 65536
          · rw [if_pos a2, if_pos (by omega)]; omega
          · rw [if_neg a2, if_neg (by omega)]; omega
        · rw [if_neg a1, if_neg (show ¬ 4 * (q : Int) + 6 ≤ 65536 by omega)]
          by_cases a2 : 4 * q + 4 ≤ 65536
          · rw [if_pos a2, if_pos (by omega)]; omega
          · rw [if_neg a2, if_neg (by omega)]; omega)
      have Z0 := Lib.hid z0
      have HMA := Lib.hid (And.intro hm ha)
      clear hq ZE hz z0 hm
      go_upto_if 43 with fail
      go_cut [8] from 44 to 45 (fun s8 wx => s8 = .int .i64 (if 4 * z + 6 ≤ 65536 then 4 * z + 6 else 4 * z) ∧ wx = w3)
      case first =>
        by_cases c1 : 4 * z + 6 ≤ 65536
        · go_wp2_with fail
          go_meet
          exact ⟨by rw [if_pos c1], rfl⟩
        · go_wp2_with fail
          go_meet
          exact ⟨by rw [if_neg (by omega)], rfl⟩
      case rest =>
        obtain ⟨rfl, ew⟩ := hcut
        obtain ⟨X1, hX1⟩ : ∃ X1, X1 = wc := ⟨_, rfl⟩
        rw [← hX1] at ew ⊢
        clear hX1
        subst ew
        obtain ⟨n1, hn1⟩ : ∃ n1 : Int, n1 = (if 4 * z + 6 ≤ 65536 then 4 * z + 6 else 4 * z) := ⟨_, rfl⟩
        rw [← hn1]
        have ZF : (n : Int) = if n1 + 4 ≤ 65536 then n1 + 4 else n1 := by rw [hn1]; exact ZH.out
        have n1b : 0 ≤ n1 ∧ n1 ≤ 65544 := by rw [hn1]; have := Z0.out; split <;> omega
        have w14 : IntKind.i64.wrap (n1 + 4) = n1 + 4 := IntWalk.i64_in _ (by omega)
        have ZFH := Lib.hid ZF
        clear ZF hn1 ZH w4 w6 mi mi2
        go_upto_if 48 with fail
        go_cut [8] from 49 to 50 (fun s8 wx => s8 = .int .i64 (n : Int) ∧ wx = X1)
        case first =>
          by_cases c2 : n1 + 4 ≤ 65536
          · go_wp2_with fail
            go_meet
            exact ⟨by rw [ZFH.out, if_pos c2], rfl⟩
          · go_wp2_with fail
            go_meet
            exact ⟨by rw [ZFH.out, if_neg (by omega)], rfl⟩
        case rest =>
          obtain ⟨rfl, ew⟩ := hcut
          obtain ⟨X2, hX2⟩ : ∃ X2, X2 = wc := ⟨_, rfl⟩
          rw [← hX2] at ew ⊢
          clear hX2
          subst ew
          clear ZFH w14 n1b
          go_upto_region 15 with fail
          go_cut [64] from 51 to 64 (fun s64 wx => s64 = .bool false ∧ wx = X2)
          case first =>
            by_cases k0 : 0 < k
            · obtain ⟨n4, cv, c4⟩ := CC.out k0
              have k0i : (0 : Int) < (k : Int) := by omega
              obtain ⟨A', c', e', _, _, _, q3⟩ := KH.out
              simp only [Value.slice.injEq] at e'
              obtain ⟨rfl, _, rfl⟩ := e'
              obtain ⟨g, o, cur, rfl, _⟩ := q3 (by omega)
              have SL : ∀ w : World, (Instr.slice 29 (.slice (some ⟨g, o, none⟩) n c) none (some (.int .i64 4)) none).run Tryz.prog w = .ok (.slice (some ⟨g, o, none⟩) 4 c) w := fun w => by
                rw [run_slice_h w 29 (some ⟨g, o, none⟩) n c (by kernel_rfl) .i64 4 (by omega) (by omega)]
                have sz : (sizeOf (Tryz.prog.elem 29)).run Tryz.prog w = .ok 1 w := by kernel_rfl
                rw [sz]
                show Result.ok (sliced (some ⟨g, o, none⟩) 0 ((4 : Int)).toNat c 1) w = _
                unfold sliced
                rw [if_neg (by omega)]
                rfl
              clear CC KH n4 q3
              go_wp2_with fail
              go_meet
              exact ⟨rfl, rfl⟩
            · have k0i : ¬ (0 : Int) < (k : Int) := by omega
              clear CC KH
              go_wp2_with fail
              go_meet
              exact ⟨rfl, rfl⟩
          case rest =>
            obtain ⟨rfl, ew⟩ := hcut
            obtain ⟨X3, hX3⟩ : ∃ X3, X3 = wc := ⟨_, rfl⟩
            rw [← hX3] at ew ⊢
            clear hX3
            subst ew
            have H0 : Hid ((⟨#[53]⟩ : ByteArray).size ≤ 1 ∧ St W [] nb (ansT ⟨#[53]⟩ (repsK 0)) X3) := Lib.hid ⟨by decide, S4.out⟩
            clear CC KH HN
            go_wp2_with fail
            go_loopw [66] (fun i wr => ∃ (j : Nat) (h : ByteArray), j ≤ a ∧ i = .int .u8 (j : Int) ∧ Hid (h.size ≤ 1 ∧ St W [] nb (ansT h (repsK j)) wr)) (fun i _ => a - (intOf i).toNat)
            case atStart => exact ⟨0, _, Nat.zero_le _, by simp, H0⟩
            case round =>
              obtain ⟨j, h, hj, rfl, hr⟩ := hrel
              clear H0 S4
              by_cases lt : j < a
              · have FE := Lib.hid (feed4 hr.out.2 hr.out.1)
                have q5 : (j : Int) < (a : Int) := by omega
                have wk : IntKind.u8.wrap ((j : Int) + 1) = (j : Int) + 1 := by rw [IntKind.wrap_u8]; have := HMA.out; omega
                clear hr
                go_wp2_with fail
                refine FE.out.mono ?_; rintro e w2 ⟨rfl, h2⟩
                have H2 : Hid ((⟨#[53]⟩ : ByteArray).size ≤ 1 ∧ St W [] nb (ansT ⟨#[53]⟩ (repsK (j + 1))) w2) := Lib.hid ⟨by decide, h2⟩
                clear h2 FE
                go_wp2_with fail
                go_roundw
                case rel => exact ⟨j + 1, ⟨#[53]⟩, by omega, by go_num, H2⟩
                case measure => simp [intOf]; omega
              · have ej : j = a := by omega
                subst ej
                have q5 : ¬ (j : Int) < (j : Int) := by omega
                have RE := Lib.hid (t_Replies hr.out.2)
                have SZ := repsK_size j
                obtain ⟨n5, hn5⟩ : ∃ n5, n5 = (repsK j).size := ⟨_, rfl⟩
                have SZ2 : (n5 : Int) = 4 * (j : Int) := by have := HMA.out; omega
                clear hr SZ
                go_wp2_with fail
                refine RE.out.mono ?_; rintro e w3 ⟨v, rfl, KR, _, S3⟩
                obtain ⟨A5, c5, e5, _⟩ := KR
                have e5 : v = .slice A5 (repsK j).size c5 := e5
                rw [← hn5] at e5
                subst e5
                have RF := Lib.hid (t_Replies S3)
                have wj : IntKind.i64.wrap (4 * (j : Int)) = 4 * (j : Int) := IntWalk.i64_in _ (by have := HMA.out; omega)
                have wj2 : IntKind.i64.wrap (j : Int) = (j : Int) := IntWalk.i64_in _ (by have := HMA.out; omega)
                clear RE S3 hn5
                go_wp2_with fail
                refine RF.out.mono ?_; rintro e w4 ⟨v, rfl, KR, _, S4⟩
                obtain ⟨A6, c6, e6, _⟩ := KR
                have e6 : v = .slice A6 0 c6 := e6
                subst e6
                have B9 := Lib.hid (old_mv S4.mv)
                clear RF S4
                go_wp2_with fail
                go_ret
                exact ⟨rfl, B9.out⟩
theorem vtAnswers_walk (m a : Int) (hm : 0 ≤ m ∧ m ≤ 65535) (ha : 0 ≤ a ∧ a ≤ 255) (W : World) (E : EnvV W) : Calls Tryz.prog 3 #[.int .u16 m, .int .u8 a] W fun e w' => e = .returned (.bool true) ∧ Below W.heap.size W w' := by
  have h := ans_walk m.toNat a.toNat (by omega) (by omega) W E
  rw [show ((m.toNat : Nat) : Int) = m by omega, show ((a.toNat : Nat) : Int) = a by omega] at h
  exact h
end
end Go.Proofs.YtkllilehdpdbdaaGreatDoor
