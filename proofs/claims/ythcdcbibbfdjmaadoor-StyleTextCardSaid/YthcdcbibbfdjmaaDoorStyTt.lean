/- A patch's words, the reference: the walk of Text. -/
import Derived.Test.YthcdcbibbfdjmaaDoorStyTr
namespace Go.Proofs.YthcdcbibbfdjmaaDoor
open Go.RowKit Go.Sort
set_option linter.unusedVariables false

theorem add_ok {a : Nat} (h : a ≤ 1000) : (9223372036854775807 < a) = False := eq_false (by omega)

theorem pre_cut (L : List ByteArray) (h : L ≠ []) : (preB L).extract 1 (preB L).size = joinB L ∧ 1 ≤ (preB L).size ∧ ((preB L).toList == []) = false := by
  have e := preB_join L h
  have sz : (preB L).size = (joinL (L.map fun s => s.data.toList)).length + 1 := by rw [e, mkB_size]; simp
  refine ⟨?_, by omega, ?_⟩
  · rw [sz, e]
    unfold joinB
    apply ByteArray.ext
    simp [mkB]
  · rw [seq_list]
    apply decide_eq_false
    intro q
    rw [q] at sz
    have : (⟨([] : List UInt8).toArray⟩ : ByteArray).size = 0 := rfl
    omega

set_option maxHeartbeats 16000000 in
set_option maxRecDepth 100000 in
theorem ref_Text6 (p : Pat) (hf : col32 p.fg) (hb : col32 p.bg) (w : World) : Calls Tryd.prog 34 #[patV p.fg p.bg p.add p.drop] w fun e w' => e = .returned (textV (textS p)) ∧ Below w.heap.size w w' := by
  have T1 := ref_Right p.fg hf.1 hf.2
  have T2 := ref_Right p.bg hb.1 hb.2
  have R0 : rightB 0 = true := rfl
  by_cases h1 : rightB p.fg = true
  case neg =>
    have h1 : rightB p.fg = false := by simpa using h1
    have R : Hid (textS p = none) := Lib.hid (by unfold textS rightP; rw [h1]; rfl)
    have g : (p.fg != 0) = true := by rw [bne_iff_ne]; intro e; rw [e, R0] at h1; cases h1
    rw [h1] at T1
    have T1 := Lib.hid T1
    have T2 := Lib.hid T2
    clear h1 R0
    go_enter Tryd.func34, Tryd.ntmps34
    go_wp2_with fail
    refine (T1.out _).mono ?_; rintro e w' ⟨rfl, rfl⟩
    go_wp2_with fail
    refine (T2.out _).mono ?_; rintro e w' ⟨rfl, rfl⟩
    go_wp2_with fail
    go_ret2
    exact ⟨by rw [R.out]; rfl, by go_grown⟩
  by_cases h2 : rightB p.bg = true
  case neg =>
    have h2 : rightB p.bg = false := by simpa using h2
    have R : Hid (textS p = none) := Lib.hid (by unfold textS rightP; rw [h1, h2]; rfl)
    have g : (p.bg != 0) = true := by rw [bne_iff_ne]; intro e; rw [e, R0] at h2; cases h2
    rw [h1] at T1
    rw [h2] at T2
    have T1 := Lib.hid T1
    have T2 := Lib.hid T2
    clear h1 h2 R0
    by_cases z : p.fg = 0
    all_goals
      first | (have g2 : (p.fg != 0) = false := by rw [z]; rfl) | (have g2 : (p.fg != 0) = true := by rw [bne_iff_ne]; exact z)
      clear z
      go_enter Tryd.func34, Tryd.ntmps34
      go_wp2_with fail
      refine (T1.out _).mono ?_; rintro e w' ⟨rfl, rfl⟩
      go_wp2_with fail
      refine (T2.out _).mono ?_; rintro e w' ⟨rfl, rfl⟩
      go_wp2_with fail
      go_ret2
      exact ⟨by rw [R.out]; rfl, by go_grown⟩
  have R : Hid (textS p = some (joinB (textL (toldP p)))) := Lib.hid (by unfold textS rightP; rw [h1, h2]; rfl)
  rw [h1] at T1
  rw [h2] at T2
  have T1 := Lib.hid T1
  have T2 := Lib.hid T2
  have TL : Hid (textL (toldP p) = dropK (toldP p).drop 8 ++ addK (toldP p).add 8 ++ (if (toldP p).fg = 0 then [] else [textB (toldP p).fg]) ++ (if (toldP p).bg = 0 then [] else [onB, textB (toldP p).bg])) := Lib.hid rfl
  have TD : Hid (Gives 54 #[patV p.fg p.bg p.add p.drop] (patV (toldP p).fg (toldP p).bg (toldP p).add (toldP p).drop)) := Lib.hid (ref_Told p.fg p.bg p.add p.drop hf hb)
  have cF : (toldP p).fg = p.fg := by show cnt p.fg = p.fg; unfold cnt; rw [if_pos h1]
  have cB : (toldP p).bg = p.bg := by show cnt p.bg = p.bg; unfold cnt; rw [if_pos h2]
  have TF : Hid (Gives 67 #[.int .i32 (toldP p).fg] (.string (textB (toldP p).fg)) ∧ (textB (toldP p).fg).size ≤ 16) := Lib.hid ⟨by rw [cF]; exact ref_Text _ hf.1 hf.2, text_size _⟩
  have TB : Hid (Gives 67 #[.int .i32 (toldP p).bg] (.string (textB (toldP p).bg)) ∧ (textB (toldP p).bg).size ≤ 16) := Lib.hid ⟨by rw [cB]; exact ref_Text _ hb.1 hb.2, text_size _⟩
  have GF : Hid (∀ c : Int, ((p.fg != 0) = true ∨ (p.fg != 0) = false)) := Lib.hid (fun _ => by cases (p.fg != 0) <;> simp)
  obtain ⟨q, hq⟩ : ∃ q, q = toldP p := ⟨_, rfl⟩
  rw [← hq] at R TL TD TF TB
  clear h1 h2 hf hb R0 cF cB
  obtain ⟨LL, hLL⟩ : ∃ L, L = textL q := ⟨_, rfl⟩
  rw [← hLL] at R TL
  clear hq hLL GF
  go_enter Tryd.func34, Tryd.ntmps34
  go_wp2_with fail
  refine (T1.out _).mono ?_; rintro e w' ⟨rfl, rfl⟩
  go_wp2_with fail
  refine (T2.out _).mono ?_; rintro e w' ⟨rfl, rfl⟩
  go_upto_region 3 with fail
  obtain ⟨W0, hW0⟩ : ∃ W, W = w.alloc (.cells #[.int .i32 p.fg, .int .i32 p.bg, .int .u8 (bI p.add), .int .u8 (bI p.drop)] 36) := ⟨_, rfl⟩
  have k0 : C4 W0 w.heap.size (.int .i32 p.fg) (.int .i32 p.bg) (.int .u8 (bI p.add)) (.int .u8 (bI p.drop)) := by subst hW0; constructor <;> simp [go_sem]
  have HB0 : Below w.heap.size w W0 := by subst hW0; go_grown
  rw [← hW0]
  clear hW0
  obtain ⟨a0, a1, a2, a3, f0, f1, f2, f3⟩ := k0
  go_cut [34] from 19 to 34 (fun s34 wx => s34 = .bool false ∧ wx = W0)
  case first =>
    by_cases z : p.fg = 0
    all_goals by_cases y : p.bg = 0
    all_goals
      first | (have g2 : (p.fg != 0) = false := by rw [z]; rfl) | (have g2 : (p.fg != 0) = true := by rw [bne_iff_ne]; exact z)
      first | (have g3 : (p.bg != 0) = false := by rw [y]; rfl) | (have g3 : (p.bg != 0) = true := by rw [bne_iff_ne]; exact y)
      clear z y
      go_wp2_with fail
      go_meet
      exact ⟨rfl, rfl⟩
  case rest =>
    obtain ⟨rfl, rfl⟩ := hcut
    go_wp2_with fail
    refine (TD.out _).mono ?_; rintro e w1 ⟨rfl, hb1⟩
    have k6 : C4 (w1.alloc (.cells #[.int .i32 q.fg, .int .i32 q.bg, .int .u8 (bI q.add), .int .u8 (bI q.drop)] 36)) w1.heap.size (.int .i32 q.fg) (.int .i32 q.bg) (.int .u8 (bI q.add)) (.int .u8 (bI q.drop)) := by constructor <;> simp [go_sem]
    have HB1 := below_call HB0 HB0.size hb1
    have HB2 := HB1.alloc HB1.size (.cells #[.int .i32 q.fg, .int .i32 q.bg, .int .u8 (bI q.add), .int .u8 (bI q.drop)] 36)
    go_wp2_with fail
    refine (ref_names _).mono ?_; rintro e w2 ⟨rfl, hw2⟩
    obtain ⟨X, hX⟩ : ∃ X, X = w1.alloc (.cells #[.int .i32 q.fg, .int .i32 q.bg, .int .u8 (bI q.add), .int .u8 (bI q.drop)] 36) := ⟨_, rfl⟩
    rw [← hX] at k6 HB2 hw2 ⊢
    obtain ⟨b6, hb6⟩ : ∃ b, b = w1.heap.size := ⟨_, rfl⟩
    obtain ⟨gn, hgn⟩ : ∃ g, g = w1.heap.size + 1 := ⟨_, rfl⟩
    have sX : X.heap.size = gn := by rw [hX, hgn]; simp
    have K6 : C4 w2 b6 (.int .i32 q.fg) (.int .i32 q.bg) (.int .u8 (bI q.add)) (.int .u8 (bI q.drop)) := by rw [hw2, hb6]; exact k6.alloc _
    have HB3 : Below w.heap.size w w2 := by rw [hw2]; exact HB2.alloc HB2.size _
    have NM : Hid (∀ k, k < 8 → w2.cell? ⟨gn, k, none⟩ = some (.string (atN k))) := Lib.hid (fun k h => by
      have := (new_cell X (strs namesL) 9 k _ (names_at k h)).1
      rw [hw2, ← sX]
      exact this)
    rw [sX, ← hb6]
    clear hw2 hX k6 HB1 HB2 hb1 sX hgn hb6
    have HB := Lib.hid HB3
    have KQ := Lib.hid K6
    have lw0 : b6 < w2.heap.size := K6.lt
    have lgn : gn < w2.heap.size := block_lt_of_cell (NM.out 0 (by decide))
    clear HB3 K6 a0 a1 a2 a3 f0 f1 f2 f3
    go_upto_region 8 with fail
    go_wp2_with fail
    go_loop [9, 7] (fun s9 s7 => ∃ k : Nat, k ≤ 8 ∧ s9 = .int .i64 k ∧ s7 = .string (preB (dropK q.drop k))) (fun s9 _ => 8 - (intOf s9).toNat)
    case atStart => exact ⟨0, by omega, rfl, rfl⟩
    case round =>
      obtain ⟨k, k8, rfl, rfl⟩ := hrel
      obtain ⟨a0, a1, a2, a3, f0, f1, f2, f3⟩ := KQ.out
      by_cases lt : k < 8
      · have ho := NM.out k lt
        have BT := ref_bit6 q.drop k lt
        have NXT := dropK_next q.drop k
        have sz := preB_size (dropK q.drop k) (dropK_size q.drop k k8)
        have ln := dropK_len q.drop k
        have nz := (at_size16 k lt).1
        have NP : Hid (preB (dropK q.drop k ++ [dropW k]) = (preB (dropK q.drop k) ++ ⟨#[32, 110, 111, 45]⟩) ++ atN k) := Lib.hid (preB_drop _ _)
        have e1 : (9223372036854775807 < (preB (dropK q.drop k)).size + 4) = False := add_ok (by omega)
        have e2 : (9223372036854775807 < (preB (dropK q.drop k)).size + 4 + (atN k).size) = False := add_ok (by omega)
        cases e : q.drop.getLsbD k
        all_goals
          rw [e] at BT NXT
          simp only [Bool.false_eq_true, if_false, if_true] at NXT
          have NXT := Lib.hid NXT
          have BT := Lib.hid BT
          clear e sz ln nz
        · go_wp2_with fail
          refine (BT.out _).mono ?_; rintro e' w' ⟨rfl, rfl⟩
          go_wp2_with fail
          go_round
          case rel => exact ⟨k + 1, by omega, by go_num, by rw [NXT.out]⟩
          case measure => simp [intOf]; omega
        · have NV : Hid (preB (dropK q.drop (k + 1)) = (preB (dropK q.drop k) ++ ⟨#[32, 110, 111, 45]⟩) ++ atN k) := Lib.hid (by rw [NXT.out]; exact preB_drop _ _)
          generalize preB (dropK q.drop k) = s0 at *
          generalize atN k = nk at *
          go_wp2_with fail
          refine (BT.out _).mono ?_; rintro e' w' ⟨rfl, rfl⟩
          go_wp2_with fail
          go_round
          case rel => exact ⟨k + 1, by omega, by go_num, by rw [NV.out]⟩
          case measure => simp [intOf]; omega
      · have ek : k = 8 := by omega
        subst ek
        have DS := dropK_size q.drop 8 (by decide)
        have DL := dropK_len q.drop 8
        obtain ⟨R0, hR0⟩ : ∃ R0, R0 = dropK q.drop 8 := ⟨_, rfl⟩
        rw [← hR0] at DS DL TL ⊢
        clear hR0
        go_wp2_with fail
        go_loop [11, 7] (fun s11 s7 => ∃ k : Nat, k ≤ 8 ∧ s11 = .int .i64 k ∧ s7 = .string (preB (R0 ++ addK q.add k))) (fun s11 _ => 8 - (intOf s11).toNat)
        case atStart => exact ⟨0, by omega, rfl, by rw [show addK q.add 0 = [] from rfl, List.append_nil]⟩
        case round =>
          obtain ⟨k, k8, rfl, rfl⟩ := hrel
          by_cases lt : k < 8
          · have ho := NM.out k lt
            have BT := ref_bit6 q.add k lt
            have NXT := addK_next q.add k
            have SZ : ∀ x ∈ R0 ++ addK q.add k, x.size ≤ 16 := fun x hx => (List.mem_append.1 hx).elim (DS x) (addK_size q.add k k8 x)
            have sz := preB_size _ SZ
            have ln : (R0 ++ addK q.add k).length ≤ 16 := by rw [List.length_append]; have := addK_len q.add k; omega
            have nz := (at_size16 k lt).1
            have e1 : (9223372036854775807 < (preB (R0 ++ addK q.add k)).size + 1) = False := add_ok (by omega)
            have e2 : (9223372036854775807 < (preB (R0 ++ addK q.add k)).size + 1 + (atN k).size) = False := add_ok (by omega)
            cases e : q.add.getLsbD k
            all_goals
              rw [e] at BT NXT
              simp only [Bool.false_eq_true, if_false, if_true] at NXT
              have NXT := Lib.hid NXT
              have BT := Lib.hid BT
              clear e sz ln nz SZ
            · go_wp2_with fail
              refine (BT.out _).mono ?_; rintro e' w' ⟨rfl, rfl⟩
              go_wp2_with fail
              go_round
              case rel => exact ⟨k + 1, by omega, by go_num, by rw [NXT.out]⟩
              case measure => simp [intOf]; omega
            · have NV : Hid (preB (R0 ++ addK q.add (k + 1)) = (preB (R0 ++ addK q.add k) ++ ⟨#[32]⟩) ++ atN k) := Lib.hid (by rw [NXT.out, ← List.append_assoc]; exact preB_snoc _ _)
              generalize preB (R0 ++ addK q.add k) = s0 at *
              generalize atN k = nk at *
              go_wp2_with fail
              refine (BT.out _).mono ?_; rintro e' w' ⟨rfl, rfl⟩
              go_wp2_with fail
              go_round
              case rel => exact ⟨k + 1, by omega, by go_num, by rw [NV.out]⟩
              case measure => simp [intOf]; omega
          · have ek : k = 8 := by omega
            subst ek
            have DS2 : ∀ x ∈ R0 ++ addK q.add 8, x.size ≤ 16 := fun x hx => (List.mem_append.1 hx).elim (DS x) (addK_size q.add 8 (by decide) x)
            have DL2 : (R0 ++ addK q.add 8).length ≤ 16 := by rw [List.length_append]; have := addK_len q.add 8; omega
            obtain ⟨R1, hR1⟩ : ∃ R1, R1 = R0 ++ addK q.add 8 := ⟨_, rfl⟩
            rw [← hR1] at DS2 DL2 TL ⊢
            have S1 := preB_size R1 DS2
            clear hR1 DS DL
            go_upto_if 72 with fail
            go_cut [7] from 72 to 78 (fun s7 wx => s7 = .string (preB (R1 ++ if q.fg = 0 then [] else [textB q.fg])) ∧ Below w2.heap.size w2 wx)
            case first =>
              by_cases z : q.fg = 0
              · have g : (q.fg != 0) = false := by rw [z]; rfl
                have E : Hid ((if q.fg = 0 then [] else [textB q.fg]) = []) := Lib.hid (if_pos z)
                clear z
                go_wp2_with fail
                go_meet
                exact ⟨by rw [E.out, List.append_nil], Below.refl _ _⟩
              · have g : (q.fg != 0) = true := by rw [bne_iff_ne]; exact z
                have E : Hid ((if q.fg = 0 then [] else [textB q.fg]) = [textB q.fg]) := Lib.hid (if_neg z)
                have NV : Hid (preB (R1 ++ [textB q.fg]) = (preB R1 ++ ⟨#[32]⟩) ++ textB q.fg) := Lib.hid (preB_snoc _ _)
                have e1 : (9223372036854775807 < (preB R1).size + 1) = False := add_ok (by omega)
                have e2 : (9223372036854775807 < (preB R1).size + 1 + (textB q.fg).size) = False := add_ok (by have := TF.out.2; omega)
                have TFc := Lib.hid TF.out.1
                clear z TF S1
                generalize textB q.fg = tx at *
                generalize preB R1 = s0 at *
                go_wp2_with fail
                refine (TFc.out _).mono ?_; rintro e w5 ⟨rfl, hb5⟩
                go_wp2_with fail
                go_meet
                exact ⟨by rw [E.out, NV.out], hb5⟩
            case rest =>
              obtain ⟨rfl, hbc⟩ := hcut
              have DS3 : ∀ x ∈ R1 ++ (if q.fg = 0 then [] else [textB q.fg]), x.size ≤ 16 := fun x hx => (List.mem_append.1 hx).elim (DS2 x) (fun h => by
                split at h
                · cases h
                · rw [List.mem_singleton] at h; subst h; exact TF.out.2)
              have DL3 : (R1 ++ (if q.fg = 0 then [] else [textB q.fg])).length ≤ 17 := by rw [List.length_append]; split <;> simp <;> omega
              obtain ⟨R2, hR2⟩ : ∃ R2, R2 = R1 ++ (if q.fg = 0 then [] else [textB q.fg]) := ⟨_, rfl⟩
              rw [← hR2] at DS3 DL3 TL ⊢
              have S2 := preB_size R2 DS3
              clear hR2 S1 DS2
              obtain ⟨a0', a1', a2', a3', _, _, _, _⟩ := KQ.out.keep hbc lw0
              have BC := Lib.hid (HB.out.trans (hbc.mono HB.out.size))
              clear hbc a0 a1 a2 a3 f0 f1 f2 f3
              go_upto_if 81 with fail
              go_cut [7] from 81 to 87 (fun s7 wx => s7 = .string (preB LL) ∧ Below w.heap.size w wx)
              case first =>
                by_cases z : q.bg = 0
                · have g : (q.bg != 0) = false := by rw [z]; rfl
                  have E : Hid (LL = R2) := Lib.hid (by rw [TL.out, if_pos z, List.append_nil])
                  clear z
                  go_wp2_with fail
                  go_meet
                  exact ⟨by rw [E.out], BC.out⟩
                · have g : (q.bg != 0) = true := by rw [bne_iff_ne]; exact z
                  have E : Hid (preB LL = (preB R2 ++ ⟨#[32, 111, 110, 32]⟩) ++ textB q.bg) := Lib.hid (by rw [TL.out, if_neg z]; exact preB_on _ _)
                  have e1 : (9223372036854775807 < (preB R2).size + 4) = False := add_ok (by omega)
                  have e2 : (9223372036854775807 < (preB R2).size + 4 + (textB q.bg).size) = False := add_ok (by have := TB.out.2; omega)
                  have TBc := Lib.hid TB.out.1
                  clear z TB S2
                  generalize textB q.bg = tx at *
                  generalize preB R2 = s0 at *
                  go_wp2_with fail
                  refine (TBc.out _).mono ?_; rintro e w5 ⟨rfl, hb5⟩
                  have BD := Lib.hid (below_call BC.out BC.out.size hb5)
                  go_wp2_with fail
                  go_meet
                  exact ⟨by rw [E.out], BD.out⟩
              case rest =>
                obtain ⟨rfl, hbd⟩ := hcut
                have BD := Lib.hid hbd
                by_cases z : LL = []
                · have e0 : ((preB LL).toList == []) = true := by rw [seq_list]; exact decide_eq_true (by rw [z]; rfl)
                  have RR : Hid (joinB LL = ⟨#[]⟩) := Lib.hid (by rw [z]; rfl)
                  clear z hbd
                  generalize preB LL = s0 at *
                  go_wp2_with fail
                  go_ret2
                  exact ⟨by rw [R.out, RR.out]; rfl, BD.out⟩
                · obtain ⟨c1, c2, e0⟩ := pre_cut LL z
                  have slr : ∀ W, (Instr.slice 9 (.string (preB LL)) (some (.int .i64 1)) none none).run Tryd.prog W = .ok (.string (joinB LL)) W := fun W => by
                    rw [run_slice_string_from_if _ _ _ _ _ Tryd.underlying9, if_pos (by omega)]
                    show Result.ok (Value.string ((preB LL).extract 1 (preB LL).size)) W = _
                    rw [c1]
                  clear z hbd c1 c2
                  generalize preB LL = s0 at *
                  generalize joinB LL = s1 at *
                  go_wp2_with fail
                  go_ret2
                  exact ⟨by rw [R.out]; rfl, BD.out⟩
end Go.Proofs.YthcdcbibbfdjmaaDoor
