/- A patch's words: the program's walk. -/
import Derived.Test.YthcdcbibbfdjmaaDoorStyK
import Derived.Test.YthcdcbibbfdjmaaDoorStyS
import Derived.Deep.DeepCutAuto
namespace Go.Proofs.YthcdcbibbfdjmaaDoor
open Go.RowKit Go.Sort
set_option linter.unusedVariables false

def textV : Option ByteArray → Value
  | some t => .tuple #[.string t, .int .i64 0]
  | none => .tuple #[.string ⟨#[]⟩, .int .i64 50]
def strs (l : List ByteArray) : List Value := l.map .string
theorem strs_app (a b : List ByteArray) : strs (a ++ b) = strs a ++ strs b := by simp [strs]
theorem strs_len (a : List ByteArray) : (strs a).length = a.length := by simp [strs]
theorem infoS : (Tryd.prog.info? 9).map (fun i => (i.zero, i.size, i.bytes)) = some (some (.string ⟨#[]⟩), 1, 16) := by kernel_rfl
theorem join_eq : ∀ ws : List (List UInt8), Lib.join ws [32] = joinL ws
  | [] => rfl
  | [x] => Lib.join_one x [32]
  | x :: y :: r => by
    have ih := join_eq (y :: r)
    unfold joinL
    rw [← ih]
    simp [Lib.join, List.intercalate]
def dropK (b : B8) (k : Nat) : List ByteArray := ((List.range k).filter fun i => b.getLsbD i).map dropW
def addK (b : B8) (k : Nat) : List ByteArray := ((List.range k).filter fun i => b.getLsbD i).map atN
theorem dropK_next (b : B8) (k : Nat) : dropK b (k + 1) = if b.getLsbD k = true then dropK b k ++ [dropW k] else dropK b k := by
  unfold dropK
  rw [List.range_succ, List.filter_append, List.map_append]
  by_cases h : b.getLsbD k = true <;> simp [h]
theorem addK_next (b : B8) (k : Nat) : addK b (k + 1) = if b.getLsbD k = true then addK b k ++ [atN k] else addK b k := by
  unfold addK
  rw [List.range_succ, List.filter_append, List.map_append]
  by_cases h : b.getLsbD k = true <;> simp [h]
theorem dropK_len (b : B8) (k : Nat) : (dropK b k).length ≤ k := by unfold dropK; rw [List.length_map]; exact Nat.le_trans (List.length_filter_le _ _) (by simp)
theorem addK_len (b : B8) (k : Nat) : (addK b k).length ≤ k := by unfold addK; rw [List.length_map]; exact Nat.le_trans (List.length_filter_le _ _) (by simp)

theorem st_join (LO : Nat) (L : List ByteArray) (hl : L.length ≤ 19) (h16 : ∀ x ∈ L.map (fun s => s.data.toList), x.length ≤ 16) (w : World) (v : Value) (h : w.ownsRow LO 9 1 v L.length (strs L)) :
    ∃ A c, v = .slice A L.length c ∧ Calls Tryd.prog 69 #[.slice A L.length c, .string ⟨#[32]⟩] w fun e w' => e = .returned (.string (joinB L)) ∧ Below w.heap.size w w' := by
  have E : ⟨(Lib.join (L.map (·.data.toList)) (ByteArray.mk #[32]).data.toList).toArray⟩ = joinB L := by
    unfold joinB mkB
    rw [← join_eq]
  rcases (own_form h).2 with ⟨rfl, n0⟩ | ⟨g, c, rfl, _, gl, gc, _⟩
  · have e0 : L = [] := List.eq_nil_of_length_eq_zero n0
    subst e0
    exact ⟨none, 0, rfl, (Tryd.strings_Join_none none 0 ⟨#[32]⟩ w).mono fun e w' ⟨a, b⟩ => ⟨a, by rw [b]; exact Below.refl _ _⟩⟩
  · refine ⟨_, c, rfl, ?_⟩
    have C := Tryd.strings_Join g 0 c L ⟨#[32]⟩ w (fun j x hj => by
      have hlj : j < L.length := (List.getElem?_eq_some_iff.1 hj).1
      rw [Nat.zero_add, h.cellAt j (by omega)]
      simp [strs, hj]) gl (by omega) gc (by
      rw [show (ByteArray.mk #[32]).data.toList = [32] from rfl, join_eq]
      have := join_len (L.map (fun s => s.data.toList)) 16 h16
      rw [List.length_map] at this
      have q : L.length * (16 + 1) ≤ 19 * 17 := Nat.mul_le_mul hl (Nat.le_refl _)
      omega)
    rw [E] at C
    exact C

set_option maxHeartbeats 8000000 in
set_option maxRecDepth 100000 in
theorem st_Text (p : Pat) (hf : col32 p.fg) (hb : col32 p.bg) (w : World) (E : Env w) (N : EnvN w) : Calls Tryd.prog 35 #[patV p.fg p.bg p.add p.drop] w fun e w' => e = .returned (textV (textS p)) ∧ Below w.heap.size w w' := by
  have T1 := tint_Right p.fg
  have T2 := tint_Right p.bg
  by_cases h1 : rightB p.fg = true
  case neg =>
    have h1 : rightB p.fg = false := by simpa using h1
    have R : Hid (textS p = none) := Lib.hid (by unfold textS rightP; rw [h1]; rfl)
    rw [h1] at T1
    have T1 := Lib.hid T1
    clear T2 h1
    go_enter Tryd.func35, Tryd.ntmps35
    go_wp2_with fail
    refine (T1.out _).mono ?_; rintro e w' ⟨rfl, rfl⟩
    go_wp2_with fail
    go_ret2
    exact ⟨by rw [R.out]; rfl, by go_grown⟩
  by_cases h2 : rightB p.bg = true
  case neg =>
    have h2 : rightB p.bg = false := by simpa using h2
    have R : Hid (textS p = none) := Lib.hid (by unfold textS rightP; rw [h1, h2]; rfl)
    rw [h1] at T1
    rw [h2] at T2
    have T1 := Lib.hid T1
    have T2 := Lib.hid T2
    clear h1 h2
    go_enter Tryd.func35, Tryd.ntmps35
    go_wp2_with fail
    refine (T1.out _).mono ?_; rintro e w' ⟨rfl, rfl⟩
    go_wp2_with fail
    refine (T2.out _).mono ?_; rintro e w' ⟨rfl, rfl⟩
    go_wp2_with fail
    go_ret2
    exact ⟨by rw [R.out]; rfl, by go_grown⟩
  have R : Hid (textS p = some (joinB (textL (toldP p)))) := Lib.hid (by unfold textS rightP; rw [h1, h2]; rfl)
  rw [h1] at T1
  rw [h2] at T2
  have T1 := Lib.hid T1
  have T2 := Lib.hid T2
  have TL : Hid (textL (toldP p) = dropK (toldP p).drop 8 ++ addK (toldP p).add 8 ++ (if (toldP p).fg = 0 then [] else [textB (toldP p).fg]) ++ (if (toldP p).bg = 0 then [] else [onB, textB (toldP p).bg])) := Lib.hid rfl
  have TD : Hid (Gives 58 #[patV p.fg p.bg p.add p.drop] (patV (toldP p).fg (toldP p).bg (toldP p).add (toldP p).drop)) := Lib.hid (st_told p.fg p.bg p.add p.drop)
  have TW := Lib.hid (text_words (toldP p) (told_ok p))
  have TF : Hid (∀ W, Env W → Calls Tryd.prog 68 #[.int .i32 (toldP p).fg] W fun e w' => e = .returned (.string (textB (toldP p).fg)) ∧ Below W.heap.size W w') := Lib.hid (fun W E => tint_Text _ (by show -2147483648 ≤ cnt p.fg; unfold cnt; rw [if_pos h1]; exact hf.1) (by show cnt p.fg ≤ 2147483647; unfold cnt; rw [if_pos h1]; exact hf.2) W E.toEnvT)
  have TB : Hid (∀ W, Env W → Calls Tryd.prog 68 #[.int .i32 (toldP p).bg] W fun e w' => e = .returned (.string (textB (toldP p).bg)) ∧ Below W.heap.size W w') := Lib.hid (fun W E => tint_Text _ (by show -2147483648 ≤ cnt p.bg; unfold cnt; rw [if_pos h2]; exact hb.1) (by show cnt p.bg ≤ 2147483647; unfold cnt; rw [if_pos h2]; exact hb.2) W E.toEnvT)
  obtain ⟨q, hq⟩ : ∃ q, q = toldP p := ⟨_, rfl⟩
  rw [← hq] at R TL TD TW TF TB
  have E := Lib.hid E
  have N := Lib.hid N
  clear h1 h2 hf hb
  obtain ⟨LL, hLL⟩ : ∃ L, L = textL q := ⟨_, rfl⟩
  rw [← hLL] at R TL TW
  clear hq hLL
  go_enter Tryd.func35, Tryd.ntmps35
  go_wp2_with fail
  refine (T1.out _).mono ?_; rintro e w' ⟨rfl, rfl⟩
  go_wp2_with fail
  refine (T2.out _).mono ?_; rintro e w' ⟨rfl, rfl⟩
  go_wp2_with fail
  refine (TD.out _).mono ?_; rintro e w1 ⟨rfl, hb1⟩
  have k0 : C4 w1 w.heap.size (.int .i32 p.fg) (.int .i32 p.bg) (.int .u8 (bI p.add)) (.int .u8 (bI p.drop)) := C4.keep (by constructor <;> simp [go_sem]) hb1 (by simp)
  have HB1 := below_put4 (show Below w.heap.size w w1 from below_call (by go_grown) (by simp) hb1) (Nat.le_refl _) (.int .i32 q.fg) (.int .i32 q.bg) (.int .u8 (bI q.add)) (.int .u8 (bI q.drop))
  have k1 := k0.put (.int .i32 q.fg) (.int .i32 q.bg) (.int .u8 (bI q.add)) (.int .u8 (bI q.drop))
  obtain ⟨a0, a1, a2, a3, f0, f1, f2, f3⟩ := k0
  clear hb1
  go_upto_region 4 with fail
  obtain ⟨X, hX⟩ : ∃ X, X = (((w1.setCell ⟨w.heap.size, 0, none⟩ (.int .i32 q.fg)).setCell ⟨w.heap.size, 1, none⟩ (.int .i32 q.bg)).setCell ⟨w.heap.size, 2, none⟩ (.int .u8 (bI q.add))).setCell ⟨w.heap.size, 3, none⟩ (.int .u8 (bI q.drop)) := ⟨_, rfl⟩
  rw [← hX] at k1 HB1 ⊢
  clear hX a0 a1 a2 a3 f0 f1 f2 f3 T1 T2 TD
  have HB := Lib.hid HB1
  have KQ := Lib.hid k1
  have EX := Lib.hid (E.out.of_below HB1 (Nat.le_refl _))
  have NX := N.out.of_below HB1 (Nat.le_refl _)
  have n0 := NX.nm 0 (by decide)
  have n1 := NX.nm 1 (by decide)
  have n2 := NX.nm 2 (by decide)
  have n3 := NX.nm 3 (by decide)
  have n4 := NX.nm 4 (by decide)
  have n5 := NX.nm 5 (by decide)
  have n6 := NX.nm 6 (by decide)
  have n7 := NX.nm 7 (by decide)
  have NN := Lib.hid NX
  clear NX k1 HB1
  obtain ⟨LO, hLO⟩ : ∃ LO, LO = X.heap.size := ⟨_, rfl⟩
  have HLO := Lib.hid hLO
  have lw : w.heap.size < LO := by rw [hLO]; exact KQ.out.lt
  obtain ⟨i0, hi0, hz0, hz1, hz2⟩ := info_parts infoS
  have ONE : ∀ l : List ByteArray, ∀ u ∈ strs l, u.oneCell' = true := fun l u hu => by
    unfold strs at hu
    obtain ⟨y, _, rfl⟩ := List.mem_map.1 hu
    rfl
  have STEP : Hid (∀ (wr : World) (v : Value) (ws L : List ByteArray), ws.length + L.length ≤ 40 → wr.ownsRow LO 9 1 v ws.length (strs ws) → Below LO X wr → ∀ (v' : Value) (w3 : World), w3.ownsRow LO 9 1 v' (ws.length + L.length) (strs ws ++ strs L) → (wr.alloc (.cells (strs L).toArray 9)).grownBy w3 v.ownBlock → w3.ownsRow LO 9 1 v' (ws ++ L).length (strs (ws ++ L)) ∧ Below LO X w3) := Lib.hid (fun wr v ws L _ ho hb v' w3 h1 h2 =>
    ⟨by rw [List.length_append, strs_app]; exact h1, (hb.alloc (by rw [hLO]; exact hb.size) _).grown h2 (by have := hb.size; simp; omega) (fun g hg => (ho.lt g hg).1)⟩)
  have O0 : Hid (X.ownsRow LO 9 1 (.slice none 0 0) 0 (strs []) ∧ Below LO X X) := Lib.hid ⟨World.ownsRow_nil _ _ _ _, Below.refl _ _⟩
  clear hLO
  go_wp2_with fail
  clear n0 n1 n2 n3 n4 n5 n6 n7
  go_loopw [22, 4] (fun sc s4 wr => ∃ k : Nat, k ≤ 8 ∧ sc = .int .i64 k ∧ Hid (wr.ownsRow LO 9 1 s4 (dropK q.drop k).length (strs (dropK q.drop k)) ∧ Below LO X wr)) (fun sc _ _ => 8 - (intOf sc).toNat)
  case atStart => exact ⟨0, by omega, rfl, O0⟩
  case round =>
    obtain ⟨k, k8, rfl, hr⟩ := hrel
    by_cases lt : k < 8
    · have ix := nm_at k lt
      have kq := KQ.out.keep hr.out.2 lw
      obtain ⟨a0, a1, a2, a3, f0, f1, f2, f3⟩ := kq
      have hb := b8_bit q.drop k lt
      have GB := bI_lt q.drop
      have hs : bI q.drop / 2 ^ min (Int.toNat (k : Int)) 8 = bI q.drop / 2 ^ k := by rw [Int.toNat_natCast, Nat.min_eq_left (by omega)]
      have NXT := Lib.hid (dropK_next q.drop k)
      have DW : Hid (dropW k = noB ++ atN k) := Lib.hid rfl
      have DL := dropK_len q.drop k
      have nz : (9223372036854775807 < 3 + (atN k).size) = False := eq_false (by
        have := (names_len ⟨k, lt⟩).1
        simp only [Array.length_toList] at this
        show ¬ 9223372036854775807 < 3 + (atN k).data.size
        omega)
      generalize atN k = nk at *
      cases e : q.drop.getLsbD k
      all_goals
        rw [e] at hb
        have NXT := NXT.out
        rw [e] at NXT
        simp only [Bool.false_eq_true, if_false, if_true] at hb NXT
        have NXT := Lib.hid NXT
        clear e
      · go_wp2_with fail
        go_roundw
        case rel => exact ⟨k + 1, by omega, by go_num, by rw [NXT.out]; exact hr⟩
        case measure => simp [intOf]; omega
      · have HO := Lib.hid (hr.out.1.alloc (.cells (strs [noB ++ nk]).toArray 9))
        have H2 : (dropK q.drop k).length + 1 ≤ maxLen := by unfold maxLen; omega
        have H3 : ((dropK q.drop k).length + 1) * 16 ≤ 140737488355328 := by omega
        have H4 : LO ≤ (wr.alloc (.cells (strs [noB ++ nk]).toArray 9)).heap.size := by have := hr.out.2.size; rw [HLO.out]; simp; omega
        have NW := Lib.hid (newsL wr (strs [noB ++ nk]) 9)
        have O1 := Lib.hid (ONE [noB ++ nk])
        have ST := Lib.hid (fun v' w3 a b => STEP.out wr _ (dropK q.drop k) [noB ++ nk] (by simp; omega) hr.out.1 hr.out.2 v' w3 a b)
        go_wp2_with (at_builtin; refine wpList_append_own _ rfl (.tmp 32) (.tmp 35) 69 rfl LO 9 i0 (.string ⟨#[]⟩) 1 16 Tryd.underlying69 hi0 hz0 hz1 hz2 rfl (by decide) _ _ _ rfl HO.out ⟨wr.heap.size, 0, none⟩ 1 1 (strs [noB ++ nk]) rfl rfl NW.out O1.out H2 H3 H4 ?_; intro v' w3 hown3 hg3 _)
        have SS := Lib.hid (ST.out v' w3 hown3 hg3)
        clear hown3 hg3
        go_wp2_with fail
        go_roundw
        case rel => exact ⟨k + 1, by omega, by go_num, by rw [NXT.out, DW.out]; exact SS⟩
        case measure => simp [intOf]; omega
    · have ek : k = 8 := by omega
      subst ek
      have OR : Hid (wr.ownsRow LO 9 1 _ (dropK q.drop 8).length (strs (dropK q.drop 8)) ∧ Below LO X wr) := hr
      have DL := dropK_len q.drop 8
      obtain ⟨R0, hR0⟩ : ∃ R0, R0 = dropK q.drop 8 := ⟨_, rfl⟩
      rw [← hR0] at OR DL TL
      clear hR0 hr
      have NW := NN.out.of_below OR.out.2 (by rw [HLO.out]; exact Nat.le_refl _)
      have n0 := NW.nm 0 (by decide)
      have n1 := NW.nm 1 (by decide)
      have n2 := NW.nm 2 (by decide)
      have n3 := NW.nm 3 (by decide)
      have n4 := NW.nm 4 (by decide)
      have n5 := NW.nm 5 (by decide)
      have n6 := NW.nm 6 (by decide)
      have n7 := NW.nm 7 (by decide)
      clear NW
      go_wp2_with fail
      clear n0 n1 n2 n3 n4 n5 n6 n7
      go_loopw [39, 4] (fun sc s4 wr => ∃ k : Nat, k ≤ 8 ∧ sc = .int .i64 k ∧ Hid (wr.ownsRow LO 9 1 s4 (R0 ++ addK q.add k).length (strs (R0 ++ addK q.add k)) ∧ Below LO X wr)) (fun sc _ _ => 8 - (intOf sc).toNat)
      case atStart => exact ⟨0, by omega, rfl, by rw [show addK q.add 0 = [] from rfl, List.append_nil]; exact OR⟩
      case round =>
        obtain ⟨k, k8, rfl, hr⟩ := hrel
        by_cases lt : k < 8
        · have ix := nm_at k lt
          have kq := KQ.out.keep hr.out.2 lw
          obtain ⟨a0, a1, a2, a3, f0, f1, f2, f3⟩ := kq
          have hb := b8_bit q.add k lt
          have GB := bI_lt q.add
          have hs : bI q.add / 2 ^ min (Int.toNat (k : Int)) 8 = bI q.add / 2 ^ k := by rw [Int.toNat_natCast, Nat.min_eq_left (by omega)]
          have NXT := Lib.hid (addK_next q.add k)
          have DL2 : (R0 ++ addK q.add k).length ≤ 16 := by rw [List.length_append]; have := addK_len q.add k; omega
          generalize atN k = nk at *
          cases e : q.add.getLsbD k
          all_goals
            rw [e] at hb
            have NXT := NXT.out
            rw [e] at NXT
            simp only [Bool.false_eq_true, if_false, if_true] at hb NXT
            have NXT := Lib.hid NXT
            clear e
          · go_wp2_with fail
            go_roundw
            case rel => exact ⟨k + 1, by omega, by go_num, by rw [NXT.out]; exact hr⟩
            case measure => simp [intOf]; omega
          · have HO := Lib.hid (hr.out.1.alloc (.cells (strs [nk]).toArray 9))
            have H2 : (R0 ++ addK q.add k).length + 1 ≤ maxLen := by unfold maxLen; omega
            have H3 : ((R0 ++ addK q.add k).length + 1) * 16 ≤ 140737488355328 := by omega
            have H4 : LO ≤ (wr.alloc (.cells (strs [nk]).toArray 9)).heap.size := by have := hr.out.2.size; rw [HLO.out]; simp; omega
            have NW := Lib.hid (newsL wr (strs [nk]) 9)
            have O1 := Lib.hid (ONE [nk])
            have ST := Lib.hid (fun v' w3 a b => STEP.out wr _ (R0 ++ addK q.add k) [nk] (by simp only [List.length_cons, List.length_nil]; omega) hr.out.1 hr.out.2 v' w3 a b)
            have H2 := Lib.hid H2
            have H3 := Lib.hid H3
            go_wp2_with (at_builtin; refine wpList_append_own _ rfl (.tmp 49) (.tmp 51) 69 rfl LO 9 i0 (.string ⟨#[]⟩) 1 16 Tryd.underlying69 hi0 hz0 hz1 hz2 rfl (by decide) _ _ _ rfl HO.out ⟨wr.heap.size, 0, none⟩ 1 1 (strs [nk]) rfl rfl NW.out O1.out H2.out H3.out H4 ?_; intro v' w3 hown3 hg3 _)
            have SS := Lib.hid (ST.out v' w3 hown3 hg3)
            clear hown3 hg3
            go_wp2_with fail
            go_roundw
            case rel => (repeat apply Exists.intro); exact ⟨⟨k + 1, by omega, by go_num, by rw [NXT.out, ← List.append_assoc]; exact SS⟩, rfl⟩
            case measure => simp [intOf]; omega
        · have ek : k = 8 := by omega
          subst ek
          have OR2 := hr
          have DL2 : (R0 ++ addK q.add 8).length ≤ 16 := by rw [List.length_append]; have := addK_len q.add 8; omega
          obtain ⟨R1, hR1⟩ : ∃ R1, R1 = R0 ++ addK q.add 8 := ⟨_, rfl⟩
          rw [← hR1] at OR2 DL2 TL
          clear hR1 hr OR
          have kq := KQ.out.keep OR2.out.2 lw
          obtain ⟨a0, a1, a2, a3, f0, f1, f2, f3⟩ := kq
          go_upto_if 56 with fail
          go_cut [4] from 56 to 62 (fun s4 wx => Hid (wx.ownsRow LO 9 1 s4 (R1 ++ if q.fg = 0 then [] else [textB q.fg]).length (strs (R1 ++ if q.fg = 0 then [] else [textB q.fg])) ∧ Below LO X wx))
          case first =>
            by_cases z : q.fg = 0
            · have g : (q.fg != 0) = false := by rw [z]; rfl
              have E : Hid ((if q.fg = 0 then [] else [textB q.fg]) = []) := Lib.hid (if_pos z)
              clear z
              go_wp2_with fail
              go_meet
              rw [E.out, List.append_nil]
              exact OR2
            · have g : (q.fg != 0) = true := by rw [bne_iff_ne]; exact z
              have E : Hid ((if q.fg = 0 then [] else [textB q.fg]) = [textB q.fg]) := Lib.hid (if_neg z)
              have TFc := Lib.hid (TF.out wr (EX.out.of_below OR2.out.2 (by rw [HLO.out]; exact Nat.le_refl _)))
              clear z TF
              generalize textB q.fg = tx at *
              go_wp2_with fail
              refine TFc.out.mono ?_; rintro e w5 ⟨rfl, hb5⟩
              have O5 := own_call OR2.out.1 hb5
              have B5 : Below LO X w5 := below_call OR2.out.2 (by rw [HLO.out]; exact OR2.out.2.size) hb5
              have HO := Lib.hid (O5.alloc (.cells (strs [tx]).toArray 9))
              have H2 : Hid (R1.length + 1 ≤ maxLen ∧ (R1.length + 1) * 16 ≤ 140737488355328) := Lib.hid (by unfold maxLen; omega)
              have H4 : LO ≤ (w5.alloc (.cells (strs [tx]).toArray 9)).heap.size := by have := B5.size; rw [HLO.out]; simp; omega
              have NW := Lib.hid (newsL w5 (strs [tx]) 9)
              have O1 := Lib.hid (ONE [tx])
              have ST := Lib.hid (fun v' w3 a b => STEP.out w5 _ R1 [tx] (by simp only [List.length_cons, List.length_nil]; omega) O5 B5 v' w3 a b)
              clear hb5 O5 B5
              go_wp2_with (at_builtin; refine wpList_append_own _ rfl (.tmp 57) (.tmp 61) 69 rfl LO 9 i0 (.string ⟨#[]⟩) 1 16 Tryd.underlying69 hi0 hz0 hz1 hz2 rfl (by decide) _ _ _ rfl HO.out ⟨w5.heap.size, 0, none⟩ 1 1 (strs [tx]) rfl rfl NW.out O1.out H2.out.1 H2.out.2 H4 ?_; intro v' w3 hown3 hg3 _)
              have SS := Lib.hid (ST.out v' w3 hown3 hg3)
              clear hown3 hg3
              go_meet
              rw [E.out]
              exact SS
          case rest =>
            obtain ⟨R2, hR2⟩ : ∃ R2, R2 = R1 ++ (if q.fg = 0 then [] else [textB q.fg]) := ⟨_, rfl⟩
            rw [← hR2] at hcut TL
            have OR3 := hcut
            have DL3 : R2.length ≤ 17 := by rw [hR2, List.length_append]; split <;> simp <;> omega
            clear hR2 OR2 a0 a1 a2 a3 f0 f1 f2 f3
            have kq := KQ.out.keep OR3.out.2 lw
            obtain ⟨a0, a1, a2, a3, f0, f1, f2, f3⟩ := kq
            have JN := Lib.hid (st_join LO LL TW.out.2 (fun x hx => (TW.out.1 x hx).2))
            by_cases z : q.bg = 0
            · have g : (q.bg != 0) = false := by rw [z]; rfl
              have E : Hid (LL = R2) := Lib.hid (by rw [TL.out, if_pos z, List.append_nil])
              rw [← E.out] at OR3
              obtain ⟨A5, c5, rfl, CJ⟩ := JN.out _ _ OR3.out.1
              have CJ := Lib.hid CJ
              clear z
              go_wp2_with fail
              refine CJ.out.mono ?_; rintro e w6 ⟨rfl, hb6⟩
              have HB6 := Lib.hid (below_call (HB.out.trans (OR3.out.2.mono (by rw [HLO.out]; exact HB.out.size))) (Nat.le_trans HB.out.size OR3.out.2.size) hb6)
              clear hb6
              go_wp2_with fail
              go_ret2
              exact ⟨by rw [R.out]; rfl, HB6.out⟩
            · have g : (q.bg != 0) = true := by rw [bne_iff_ne]; exact z
              have E : Hid (LL = R2 ++ [onB, textB q.bg]) := Lib.hid (by rw [TL.out, if_neg z])
              have TBc := Lib.hid (TB.out wc (EX.out.of_below OR3.out.2 (by rw [HLO.out]; exact Nat.le_refl _)))
              clear z TB
              generalize textB q.bg = tx at *
              go_wp2_with fail
              refine TBc.out.mono ?_; rintro e w5 ⟨rfl, hb5⟩
              have O5 := own_call OR3.out.1 hb5
              have B5 : Below LO X w5 := below_call OR3.out.2 (by rw [HLO.out]; exact OR3.out.2.size) hb5
              have HO := Lib.hid (O5.alloc (.cells (strs [onB, tx]).toArray 9))
              have H2 : Hid (R2.length + 2 ≤ maxLen ∧ (R2.length + 2) * 16 ≤ 140737488355328) := Lib.hid (by unfold maxLen; omega)
              have H4 : LO ≤ (w5.alloc (.cells (strs [onB, tx]).toArray 9)).heap.size := by have := B5.size; rw [HLO.out]; simp; omega
              have NW := Lib.hid (newsL w5 (strs [onB, tx]) 9)
              have O1 := Lib.hid (ONE [onB, tx])
              have ST := Lib.hid (fun v' w3 a b => STEP.out w5 _ R2 [onB, tx] (by simp only [List.length_cons, List.length_nil]; omega) O5 B5 v' w3 a b)
              clear hb5 O5 B5
              go_upto_region 21 with (at_builtin; refine wpList_append_own _ rfl (.tmp 66) (.tmp 70) 69 rfl LO 9 i0 (.string ⟨#[]⟩) 1 16 Tryd.underlying69 hi0 hz0 hz1 hz2 rfl (by decide) _ _ _ rfl HO.out ⟨w5.heap.size, 0, none⟩ 2 2 (strs [onB, tx]) rfl rfl NW.out O1.out H2.out.1 H2.out.2 H4 ?_; intro v' w3 hown3 hg3 _)
              have SS := ST.out v' w3 hown3 hg3
              rw [← E.out] at SS
              obtain ⟨A5, c5, rfl, CJ⟩ := JN.out _ _ SS.1
              have CJ := Lib.hid CJ
              have SS := Lib.hid SS
              clear hown3 hg3
              go_wp2_with fail
              refine CJ.out.mono ?_; rintro e w6 ⟨rfl, hb6⟩
              have HB6 := Lib.hid (below_call (HB.out.trans (SS.out.2.mono (by rw [HLO.out]; exact HB.out.size))) (Nat.le_trans HB.out.size SS.out.2.size) hb6)
              clear hb6
              go_wp2_with fail
              go_ret2
              exact ⟨by rw [R.out]; rfl, HB6.out⟩
end Go.Proofs.YthcdcbibbfdjmaaDoor
