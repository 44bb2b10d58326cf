/- The law StyleApply: the walk. -/
import Derived.Test.YthcdcbibbfdjmaaDoorStyEx
import Derived.Test.YthcdcbibbfdjmaaDoorStyG
import Derived.Test.YthcdcbibbfdjmaaDoorStyEa
import Derived.Test.YthcdcbibbfdjmaaDoorStyEd
namespace Go.Proofs.YthcdcbibbfdjmaaDoor
open Go.RowKit Go.Sort
set_option linter.unusedVariables false

/-- what is lent: the row with its nine marks; its first k places turned -/
def lapI (xs : List Int) (k : Nat) : List Value := (ints xs.reverse).take k ++ (ints (xs ++ List.replicate 9 31)).drop k
theorem lapI_zero (xs : List Int) : lapI xs 0 = ints (xs ++ List.replicate 9 31) := by simp [lapI]
theorem lapI_full (xs : List Int) : lapI xs xs.length = ints (xs.reverse ++ List.replicate 9 31) := by
  unfold lapI ints
  rw [List.take_of_length_le (by simp), List.map_append, List.drop_append_of_le_length (by simp), List.drop_of_length_le (by simp)]
  simp
theorem lapI_len (xs : List Int) (k : Nat) (h : k ≤ xs.length) : (lapI xs k).length = xs.length + 9 := by
  unfold lapI ints; rw [List.length_append, List.length_take, List.length_drop]; simp; omega
theorem lapI_set (xs : List Int) (k : Nat) (h : k < xs.length) : (lapI xs k).set k (.int .i64 (xs.reverse.getD k 0)) = lapI xs (k + 1) := by
  have l1 : ((ints xs.reverse).take k).length = k := by rw [List.length_take]; simp [ints]; omega
  have l2 : k < (ints (xs ++ List.replicate 9 31)).length := by simp [ints]; omega
  have l3 : k < (ints xs.reverse).length := by simp [ints]; omega
  unfold lapI
  rw [List.set_append_right _ _ (by omega), l1, Nat.sub_self, List.drop_eq_getElem_cons l2, List.set_cons_zero, List.take_succ_eq_append_getElem l3, List.append_assoc]
  congr 1
  simp only [ints, List.getElem_map, List.cons_append, List.nil_append]
  rw [List.getD_eq_getElem?_getD, List.getElem?_eq_getElem (show k < xs.reverse.length by simp; omega)]
  rfl
theorem own_mine {w : World} {lo g n c : Nat} {xs : List Int} (hn : n = xs.length) (h : w.ownsRow lo 3 1 (.slice (some ⟨g, 0, none⟩) (n + 9) c) (n + 9) (ints (xs ++ List.replicate 9 31))) : w.ownsRow lo 3 1 (.slice (some ⟨g, 0, none⟩) n c) n (ints xs) := by
  have := own_take h (m := n) (by omega)
  rw [ints_app, List.take_append_of_le_length (by rw [ints_len]; omega), List.take_of_length_le (by rw [ints_len]; omega)] at this
  exact this

set_option maxHeartbeats 16000000 in
set_option maxRecDepth 100000 in
theorem styleApply_walk (s : Sty) (A0 : Option Addr) (c0 : Nat) (xs : List Int) (hn0 : A0 = none → c0 = 0) (hf : col32 s.fg) (hb : col32 s.bg) (hx : xs.length ≤ 4000000) (hc0 : xs.length ≤ c0) (hx64 : ∀ x ∈ xs, x ≤ 9223372036854775807) (w : World) (E : EnvS w) (h1 : Sees w w.heap.size A0 (ints xs))
    (A : ∀ W, Below w.heap.size w W → Calls Tryd.prog 21 #[] W fun e w' => e = .returned (.bool true) ∧ Below W.heap.size W w') :
    Calls Tryd.prog 4 #[styV s.fg s.bg s.at_, .slice A0 xs.length c0] w fun e w' => e = .returned (.bool true) ∧ Below w.heap.size w w' := by
  have A := Lib.hid A
  have E := Lib.hid E
  have H1 := Lib.hid h1
  have RA := Lib.hid (fun A c (l : List Int) hm hc h64 W h => ref_Apply s A c l hf hb hm hc h64 W h)
  have SA := Lib.hid (fun A c (l : List Int) hm hc W E h => st_Apply s A c l hm hc W E h)
  have H64 := Lib.hid hx64
  obtain ⟨n, hn⟩ : ∃ n, n = xs.length := ⟨_, rfl⟩
  have HN := Lib.hid hn
  have R1 := Lib.hid (RA.out A0 c0 xs (by omega) hc0 hx64)
  rw [← hn] at hx hc0 R1 ⊢
  clear h1 hn hf hb hx64
  go_enter Tryd.func4, Tryd.ntmps4
  go_wp2_with fail
  refine (R1.out _ ((H1.out.below (by go_grown) (Nat.le_refl _)).more (by simp))).mono ?_; rintro e w1 ⟨rfl, hb1⟩
  generalize hr : applyL s xs = r at *
  have HRR := Lib.hid hr
  clear hr
  have q0 : C3 w1 w.heap.size (.int .i32 s.fg) (.int .i32 s.bg) (.int .u8 (bI s.at_)) := C3.keep (by constructor <;> simp [go_sem]) hb1 (by simp)
  have hB1 : Below w.heap.size w w1 := below_call (by go_grown) (by simp) hb1
  have l0 := q0.lt
  have K0 := q0.alloc (.cells #[.int .i32 r.fg, .int .i32 r.bg, .int .u8 (bI r.at_)] 24)
  have K1 : C3 (w1.alloc (.cells #[.int .i32 r.fg, .int .i32 r.bg, .int .u8 (bI r.at_)] 24)) w1.heap.size (.int .i32 r.fg) (.int .i32 r.bg) (.int .u8 (bI r.at_)) := by constructor <;> simp [go_sem]
  have HB := hB1.alloc (by omega) (.cells #[.int .i32 r.fg, .int .i32 r.bg, .int .u8 (bI r.at_)] 24)
  go_upto_region 2 with fail
  obtain ⟨b1, hb1'⟩ : ∃ b1, b1 = w1.heap.size := ⟨_, rfl⟩
  obtain ⟨W, hW⟩ : ∃ W, W = w1.alloc (.cells #[.int .i32 r.fg, .int .i32 r.bg, .int .u8 (bI r.at_)] 24) := ⟨_, rfl⟩
  rw [← hb1'] at K1 ⊢
  rw [← hW] at K0 K1 HB ⊢
  clear hW q0 hB1 hb1 hb1'
  obtain ⟨i0, hi0, hz0, hz1, hz2⟩ := info_parts infoI
  have ON : ∀ l : List Int, ∀ u ∈ ints l, u.oneCell' = true := fun l u hu => by
    unfold ints at hu
    obtain ⟨y, _, rfl⟩ := List.mem_map.1 hu
    rfl
  have ON := Lib.hid ON
  have LX : Hid ((ints xs).length = n * 1) := Lib.hid (by rw [ints_len, HN.out, Nat.mul_one])
  have M1 : Hid (∀ k, k ≤ 9 → 0 + (n + k) ≤ maxLen ∧ (0 + (n + k)) * 8 ≤ 140737488355328) := Lib.hid (fun k hk => by unfold maxLen; omega)
  obtain ⟨LO, hLO⟩ : ∃ LO, LO = W.heap.size := ⟨_, rfl⟩
  have OE : Hid ((W.alloc (.cells #[] 3)).ownsRow LO 3 1 (.slice (some ⟨W.heap.size, 0, none⟩) 0 0) 0 []) := Lib.hid (by rw [hLO]; exact own_new W [] (by decide))
  have BE : Hid (Below LO W (W.alloc (.cells #[] 3))) := Lib.hid (by rw [hLO]; exact (Below.refl _ _).alloc (Nat.le_refl _) _)
  have SW := Lib.hid ((H1.out.below HB (Nat.le_refl _)).more HB.size)
  have HLO := Lib.hid hLO
  have KB := Lib.hid (And.intro K0 K1)
  have lo0 : LO ≤ (W.alloc (.cells #[] 3)).heap.size := by rw [hLO]; simp
  clear hLO
  go_cut [6] (fun s6 wx => Hid (wx.ownsRow LO 3 1 s6 n (ints xs) ∧ Below LO W wx))
  case first =>
    rcases A0 with _ | ad
    · have c00 := hn0 rfl
      subst c00
      have n0 : n = 0 := by omega
      subst n0
      have x0 : xs = [] := List.eq_nil_of_length_eq_zero HN.out.symm
      go_wp2_with (at_builtin; refine wpList_append_own_none rfl (.tmp 19) (.tmp 20) 25 rfl LO 3 i0 1 Tryd.underlying25 hi0 _ 0 [] rfl OE.out rfl ?_)
      go_meet
      rw [x0]
      exact Lib.hid ⟨OE.out, BE.out⟩
    · have NEWS : Hid (∀ (j : Nat) (u : Value), (ints xs)[j]? = some u → (W.alloc (.cells #[] 3)).cell? (ad.add j) = some u) := Lib.hid (fun j u hu => by
        obtain ⟨ad', e, ab, cc⟩ := SW.out (fun e => by rw [e] at hu; simp at hu)
        cases e
        exact (BE.out.cell (by rw [add_blk, HLO.out]; exact ab)).trans (cc j u hu))
      have m1 := (M1.out 0 (by decide)).1
      have m2 := (M1.out 0 (by decide)).2
      rw [Nat.add_zero] at m1 m2
      have M2 := Lib.hid (And.intro m1 m2)
      clear m1 m2 hn0
      go_wp2_with (at_builtin; refine wpList_append_own _ rfl (.tmp 19) (.tmp 20) 25 rfl LO 3 i0 (.int .i64 0) 1 8 Tryd.underlying25 hi0 hz0 hz1 hz2 rfl (by decide) _ 0 [] rfl OE.out ad n c0 (ints xs) rfl LX.out NEWS.out (ON.out xs) M2.out.1 M2.out.2 lo0 ?_; intro v1 w3 hown3 hg3 _)
      go_meet
      have B3 : Below LO W w3 := BE.out.grown hg3 lo0 (fun g hg => (OE.out.lt g hg).1)
      rw [Nat.zero_add, List.nil_append] at hown3
      exact Lib.hid ⟨hown3, B3⟩
  case rest =>
    have OB := hcut
    clear OE BE lo0
    go_wp2_with fail
    go_loopw [6, 7] (fun s6 s7 wr => ∃ k : Nat, k ≤ 9 ∧ s7 = .int .i64 k ∧ Hid (wr.ownsRow LO 3 1 s6 (n + k) (ints (xs ++ List.replicate k 31)) ∧ Below LO W wr)) (fun _ s7 _ => 9 - (intOf s7).toNat)
    case atStart => exact ⟨0, by omega, rfl, Lib.hid (by simpa using OB.out)⟩
    case round =>
      obtain ⟨k, k9, rfl, hk⟩ := hrel
      by_cases lt : k < 9
      · have HO := Lib.hid (hk.out.1.alloc (.cells #[.int .i64 31] 3))
        have B1 := Lib.hid hk.out.2
        have LT := Lib.hid hk.out.1.lt
        have H1' : ∀ u ∈ [Value.int .i64 31], u.oneCell' = true := by intro u hu; simp at hu; subst hu; rfl
        have H2 : (n + k) + 1 ≤ maxLen := by unfold maxLen; omega
        have H3 : ((n + k) + 1) * 8 ≤ 140737488355328 := by omega
        have H4 : LO ≤ (wr.alloc (.cells #[.int .i64 31] 3)).heap.size := by have := hk.out.2.size; rw [HLO.out]; simp; omega
        clear hk
        go_wp2_with (at_builtin; refine wpList_append_own _ rfl (.tmp 26) (.tmp 27) 25 rfl LO 3 i0 (.int .i64 0) 1 8 Tryd.underlying25 hi0 hz0 hz1 hz2 rfl (by decide) _ _ _ rfl HO.out ⟨wr.heap.size, 0, none⟩ 1 1 [.int .i64 31] rfl rfl (news6 _ _ _) H1' H2 H3 H4 ?_; intro v' w3 hown3 hg3 _)
        have OW : Hid (w3.ownsRow LO 3 1 v' (n + (k + 1)) (ints (xs ++ List.replicate (k + 1) 31))) := by
          rw [List.replicate_succ', ← List.append_assoc, ints_app]
          exact Lib.hid hown3
        have BW : Hid (Below LO W w3) := Lib.hid ((B1.out.alloc (by rw [HLO.out]; exact B1.out.size) _).grown hg3 H4 (fun g hg => (LT.out g hg).1))
        clear hown3 hg3
        go_wp2_with fail
        go_roundw
        case rel => exact ⟨k + 1, by omega, by go_num, Lib.hid ⟨OW.out, BW.out⟩⟩
        case measure => simp [intOf]; omega
      · have ek : k = 9 := by omega
        subst ek
        obtain ⟨g, c', ev, gl, gs, gc, _⟩ : ∃ g c', _ = Value.slice (some ⟨g, 0, none⟩) (n + 9) c' ∧ LO ≤ g ∧ g < wr.heap.size ∧ n + 9 ≤ c' ∧ c' ≤ maxLen := by
          rcases (own_form hk.out.1).2 with ⟨_, z⟩ | h
          · omega
          · exact h
        subst ev
        have HR := hk
        clear hk OB
        have BR := Lib.hid (HB.trans (HR.out.2.mono (by rw [HLO.out]; exact HB.size)))
        have k0 := KB.out.1.keep HR.out.2 (by rw [HLO.out]; exact KB.out.1.lt)
        have k1 := KB.out.2.keep HR.out.2 (by rw [HLO.out]; exact KB.out.2.lt)
        have lk0 : w.heap.size < LO := by rw [HLO.out]; exact KB.out.1.lt
        have lk1 : b1 < LO := by rw [HLO.out]; exact KB.out.2.lt
        have MX : Hid (∀ W', Below wr.heap.size wr W' → Calls Tryd.prog 23 #[styV s.fg s.bg s.at_, .slice (some ⟨g, 0, none⟩) n c'] W' fun e w' => e = .returned (styV r.fg r.bg r.at_) ∧ Below W'.heap.size W' w') := Lib.hid (fun W' hb' => by
          have o := own_call (own_mine HN.out HR.out.1) hb'
          have q := SA.out (some ⟨g, 0, none⟩) c' xs (by have := HN.out; omega) (by have := HN.out; omega) W' ((E.out.of_below BR.out (Nat.le_refl _)).of_below hb' (Nat.le_refl _)) (Sees.of_own o)
          rw [← HN.out, HRR.out] at q
          exact q)
        have KF : Hid (∀ X, Below wr.heap.size wr X → C3 X w.heap.size (.int .i32 s.fg) (.int .i32 s.bg) (.int .u8 (bI s.at_)) ∧ C3 X b1 (.int .i32 r.fg) (.int .i32 r.bg) (.int .u8 (bI r.at_)) ∧ X.ownsRow LO 3 1 (.slice (some ⟨g, 0, none⟩) (n + 9) c') (n + 9) (ints (xs ++ List.replicate 9 31))) := Lib.hid (fun X hb => ⟨k0.keep hb k0.lt, k1.keep hb k1.lt, own_call HR.out.1 hb⟩)
        have SAME : Hid (∀ X, Below wr.heap.size wr X → Calls Tryd.prog 17 #[.slice (some ⟨g, 0, none⟩) n c', .slice A0 n c0] X fun e w' => e = .returned (.bool true) ∧ Below X.heap.size X w') := Lib.hid (fun X hb => by
          have o := own_call (own_mine HN.out HR.out.1) hb
          have q := law_same (some ⟨g, 0, none⟩) A0 c' c0 xs (by have := HN.out; omega) X (Sees.of_own o) ((((SW.out.below HR.out.2 (by rw [HLO.out]; exact Nat.le_refl _)).more HR.out.2.size).below hb (Nat.le_refl _)).more hb.size)
          rw [← HN.out] at q
          exact q)
        clear KB
        have B0w : Below wr.heap.size wr wr := Below.refl _ _
        go_upto_region 8 with fail
        obtain ⟨p0, p1, p2, _, _, _⟩ := k0
        clear k1
        go_wp2_with fail
        refine (MX.out _ B0w).mono ?_; rintro e w4 ⟨rfl, hb⟩
        have BB := below_call B0w B0w.size hb
        have Kb9 : C3 (w4.alloc (.cells #[.int .i32 r.fg, .int .i32 r.bg, .int .u8 (bI r.at_)] 24)) w4.heap.size (.int .i32 r.fg) (.int .i32 r.bg) (.int .u8 (bI r.at_)) := by constructor <;> simp [go_sem]
        have Bb9 := BB.alloc BB.size (.cells #[.int .i32 r.fg, .int .i32 r.bg, .int .u8 (bI r.at_)] 24)
        have sb9 := BB.size
        go_upto_region 9 with fail
        obtain ⟨b9, hb9⟩ : ∃ b, b = w4.heap.size := ⟨_, rfl⟩
        obtain ⟨X4, hX4⟩ : ∃ X, X = w4.alloc (.cells #[.int .i32 r.fg, .int .i32 r.bg, .int .u8 (bI r.at_)] 24) := ⟨_, rfl⟩
        rw [← hb9] at Kb9 sb9 ⊢
        rw [← hX4] at Kb9 Bb9 ⊢
        have hX4' : b9 < X4.heap.size := by rw [hX4, hb9]; simp
        clear hb hb9 hX4 BB p0 p1 p2
        obtain ⟨⟨p0, p1, p2, _, _, _⟩, _, _⟩ := KF.out X4 Bb9
        go_wp2_with fail
        refine (MX.out _ Bb9).mono ?_; rintro e w5 ⟨rfl, hb⟩
        have BB := below_call Bb9 Bb9.size hb
        have Kb10 : C3 (w5.alloc (.cells #[.int .i32 r.fg, .int .i32 r.bg, .int .u8 (bI r.at_)] 24)) w5.heap.size (.int .i32 r.fg) (.int .i32 r.bg) (.int .u8 (bI r.at_)) := by constructor <;> simp [go_sem]
        have Bb10 := BB.alloc BB.size (.cells #[.int .i32 r.fg, .int .i32 r.bg, .int .u8 (bI r.at_)] 24)
        have sb10 := BB.size
        go_upto_region 10 with fail
        obtain ⟨b10, hb10⟩ : ∃ b, b = w5.heap.size := ⟨_, rfl⟩
        obtain ⟨X5, hX5⟩ : ∃ X, X = w5.alloc (.cells #[.int .i32 r.fg, .int .i32 r.bg, .int .u8 (bI r.at_)] 24) := ⟨_, rfl⟩
        rw [← hb10] at Kb10 sb10 ⊢
        rw [← hX5] at Kb10 Bb10 ⊢
        have Kb9 : C3 X5 b9 (.int .i32 r.fg) (.int .i32 r.bg) (.int .u8 (bI r.at_)) := by rw [hX5]; exact (Kb9.keep hb Kb9.lt).alloc _
        have ls9 : b9 < b10 := by rw [hb10]; exact Nat.lt_of_lt_of_le hX4' hb.size
        clear hb hb10 hX5 BB p0 p1 p2
        go_wp2_with fail
        refine (SAME.out _ Bb10).mono ?_; rintro e X6 ⟨rfl, hb⟩
        have B6 := below_call Bb10 Bb10.size hb
        have Kb9 := Kb9.keep hb Kb9.lt
        have Kb10 := Kb10.keep hb Kb10.lt
        clear hb
        have OM : Hid (X6.ownsRow LO 3 1 (.slice (some ⟨g, 0, none⟩) (n + 9) c') (n + 9) (ints (xs ++ List.replicate 9 31))) := Lib.hid (KF.out X6 B6).2.2
        have C31 : Hid (∀ k, k < 9 → X6.cell? ⟨g, n + k, none⟩ = some (.int .i64 31)) := Lib.hid (fun k hk => by
          rw [OM.out.cellAt (n + k) (by omega), ints_app, List.getElem?_append_right (by rw [ints_len]; have := HN.out; omega)]
          have : n + k - (ints xs).length = k := by rw [ints_len]; have := HN.out; omega
          rw [this, show ints (List.replicate 9 31) = List.replicate 9 (Value.int .i64 31) from by simp [ints], List.getElem?_replicate, if_pos hk])
        have L0 : Hid (∀ ad, A0 = some ad → ∀ t, t < n → ad.block < LO ∧ X6.cell? (ad.add t) = some (.int .i64 (xs.getD t 0))) := Lib.hid (fun ad e t ht => by
          obtain ⟨ad', e2, ab, cc⟩ := H1.out.at (k := t) (by rw [ints_len, ← HN.out]; exact ht)
          rw [e] at e2
          cases e2
          have bl : Below w.heap.size w X6 := BR.out.trans (B6.mono BR.out.size)
          refine ⟨by omega, (bl.cell (by rw [add_blk]; exact ab)).trans (by rw [cc]; simp [ints, List.getD, List.getElem?_eq_getElem (show t < xs.length by rw [← HN.out]; exact ht)])⟩)
        go_wp2_with fail
        go_loop [11, 12] (fun s11 s12 => ∃ k : Nat, k ≤ 9 ∧ s12 = .int .i64 k ∧ s11 = .bool true) (fun _ s12 => 9 - (intOf s12).toNat)
        case atStart => exact ⟨0, by omega, rfl, rfl⟩
        case round =>
          obtain ⟨k, k9, rfl, rfl⟩ := hrel
          by_cases lt : k < 9
          · have ho := C31.out k lt
            have tn : ((n : Int) + (k : Int)).toNat = n + k := by omega
            go_wp2_with fail
            go_round
            case rel => exact ⟨k + 1, by omega, by go_num, rfl⟩
            case measure => simp [intOf]; omega
          · have ek : k = 9 := by omega
            subst ek
            have q0 := Lib.hid (KF.out X6 B6).1
            have q1 := Lib.hid (KF.out X6 B6).2.1
            have Q9 := Lib.hid Kb9
            have Q10 := Lib.hid Kb10
            have B6' := Lib.hid (HR.out.2.trans (B6.mono (by rw [HLO.out]; exact HR.out.2.size)))
            have n9 : b9 ≠ g := by omega
            have n10 : b10 ≠ g := by omega
            have nw : w.heap.size ≠ g := by omega
            have n1 : b1 ≠ g := by omega
            go_wp2_with fail
            go_loopw [13] (fun s13 wl => ∃ k : Nat, k ≤ n ∧ s13 = .int .i64 k ∧ Hid (wl.ownsRow LO 3 1 (.slice (some ⟨g, 0, none⟩) (n + 9) c') (n + 9) (lapI xs k) ∧ Below LO W wl ∧ C3 wl w.heap.size (.int .i32 s.fg) (.int .i32 s.bg) (.int .u8 (bI s.at_)) ∧ C3 wl b1 (.int .i32 r.fg) (.int .i32 r.bg) (.int .u8 (bI r.at_)) ∧ C3 wl b9 (.int .i32 r.fg) (.int .i32 r.bg) (.int .u8 (bI r.at_)) ∧ C3 wl b10 (.int .i32 r.fg) (.int .i32 r.bg) (.int .u8 (bI r.at_)) ∧ Below LO X6 wl)) (fun s13 _ => n - (intOf s13).toNat)
            case atStart => exact ⟨0, by omega, rfl, Lib.hid ⟨by rw [lapI_zero]; exact OM.out, B6'.out, q0.out, q1.out, Q9.out, Q10.out, Below.refl _ _⟩⟩
            case round =>
              obtain ⟨k, kn, rfl, hk⟩ := hrel
              by_cases lt : k < n
              · obtain ⟨ow, bw, e0, e1, e9, e10, bx⟩ := hk.out
                obtain ⟨t, ht⟩ : ∃ t, t = n - 1 - k := ⟨_, rfl⟩
                have te : (n : Int) - 1 - (k : Int) = (t : Int) := by omega
                have kt : k + t + 1 = n := by omega
                clear ht
                obtain ⟨ad, ea, _, _⟩ := H1.out.at (k := 0) (by rw [ints_len, ← HN.out]; omega)
                subst ea
                obtain ⟨ab, gt0⟩ := L0.out ad rfl t (by omega)
                have gt := (bx.cell (p := ad.add t) (by rw [add_blk]; exact ab)).trans gt0
                have st := ow.stored k (.int .i64 (xs.reverse.getD k 0))
                rw [lapI_set xs k (by have := HN.out; omega)] at st
                have vv : xs.reverse.getD k 0 = xs.getD t 0 := by
                  have hl := HN.out
                  simp only [List.getD_eq_getElem?_getD]
                  rw [List.getElem?_reverse (by omega), show xs.length - 1 - k = t by omega]
                rw [vv] at st
                have c0' := ow.cellAt k (by omega)
                rw [List.getElem?_eq_getElem (by rw [lapI_len _ _ (by have := HN.out; omega)]; have := HN.out; omega)] at c0'
                have f0' := ow.frozenAt k
                have OW := Lib.hid st.1
                generalize xs.getD t 0 = x at *
                have B' := Lib.hid (bw.setCell (p := ⟨g, k, none⟩) gl (.int .i64 x))
                have BX' := Lib.hid (bx.setCell (p := ⟨g, k, none⟩) gl (.int .i64 x))
                have E := Lib.hid (And.intro (e0.far (o := k) (y := .int .i64 x) nw) (And.intro (e1.far (o := k) (y := .int .i64 x) n1) (And.intro (e9.far (o := k) (y := .int .i64 x) n9) (e10.far (o := k) (y := .int .i64 x) n10))))
                clear ow bw e0 e1 e9 e10 bx st vv gt0 hk
                go_wp2_with fail
                go_roundw
                case rel => exact ⟨k + 1, by omega, by go_num, Lib.hid ⟨OW.out, B'.out, E.out.1, E.out.2.1, E.out.2.2.1, E.out.2.2.2, BX'.out⟩⟩
                case measure => simp [intOf]; omega
              · have ek : k = n := by omega
                subst ek
                obtain ⟨ow, bw, e0, e1, e9, e10, bx⟩ := hk.out
                have OW : Hid (wr.ownsRow LO 3 1 (.slice (some ⟨g, 0, none⟩) k c') k (ints xs.reverse)) := Lib.hid (by
                  have q := ow
                  rw [show lapI xs k = ints (xs.reverse ++ List.replicate 9 31) from by rw [HN.out]; exact lapI_full xs] at q
                  exact own_mine (by rw [List.length_reverse]; exact HN.out) q)
                have BW := Lib.hid (HB.trans (bw.mono (by rw [HLO.out]; exact HB.size)))
                obtain ⟨L2, hL2⟩ : ∃ L, L = wr.heap.size := ⟨_, rfl⟩
                have OE : Hid ((wr.alloc (.cells #[] 3)).ownsRow L2 3 1 (.slice (some ⟨wr.heap.size, 0, none⟩) 0 0) 0 []) := Lib.hid (by rw [hL2]; exact own_new wr [] (by decide))
                have BE : Hid (Below L2 wr (wr.alloc (.cells #[] 3))) := Lib.hid (by rw [hL2]; exact (Below.refl _ _).alloc (Nat.le_refl _) _)
                have lo0 : L2 ≤ (wr.alloc (.cells #[] 3)).heap.size := by rw [hL2]; simp
                have LR : Hid ((ints xs.reverse).length = k * 1) := Lib.hid (by rw [ints_len, List.length_reverse, HN.out, Nat.mul_one])
                have M2 : Hid (0 + k ≤ maxLen ∧ (0 + k) * 8 ≤ 140737488355328) := Lib.hid (by unfold maxLen; omega)
                have NEWS : Hid (∀ (j : Nat) (u : Value), (ints xs.reverse)[j]? = some u → (wr.alloc (.cells #[] 3)).cell? ((⟨g, 0, none⟩ : Addr).add j) = some u) := Lib.hid (fun j u hu => by
                  obtain ⟨ad', e, ab, cc⟩ := Sees.of_own OW.out (fun e => by rw [e] at hu; simp at hu)
                  cases e
                  exact (BE.out.cell (by rw [add_blk, hL2]; exact ab)).trans (cc j u hu))
                have HL2 := Lib.hid hL2
                have EE := Lib.hid (And.intro e0 (And.intro e1 (And.intro e9 e10)))
                clear hk ow bw e0 e1 e9 e10 bx hL2
                go_upto_region 20 with (at_builtin; refine wpList_append_own _ rfl (.tmp 74) (.tmp 75) 25 rfl L2 3 i0 (.int .i64 0) 1 8 Tryd.underlying25 hi0 hz0 hz1 hz2 rfl (by decide) _ 0 [] rfl OE.out ⟨g, 0, none⟩ k c' (ints xs.reverse) rfl LR.out NEWS.out (ON.out xs.reverse) M2.out.1 M2.out.2 lo0 ?_; intro v14 w7 hown7 hg7 _)
                have B7 : Below L2 wr w7 := BE.out.grown hg7 lo0 (fun g hg => (OE.out.lt g hg).1)
                rw [Nat.zero_add, List.nil_append] at hown7
                obtain ⟨A7, c7, rfl⟩ := own_slice' hown7
                have hc7 : k ≤ c7 := by
                  rcases (own_form hown7).2 with ⟨q, z⟩ | ⟨g', cc, q, _, _, l, _⟩
                  · cases q; omega
                  · cases q; exact l
                rw [HL2.out] at B7
                have O7 := own_call OW.out B7
                have E7 := Lib.hid (And.intro (EE.out.1.keep B7 EE.out.1.lt) (And.intro (EE.out.2.1.keep B7 EE.out.2.1.lt) (And.intro (EE.out.2.2.1.keep B7 EE.out.2.2.1.lt) (EE.out.2.2.2.keep B7 EE.out.2.2.2.lt))))
                have BW7 := Lib.hid (BW.out.trans (B7.mono BW.out.size))
                have EV7 := E.out.of_below BW7.out (Nat.le_refl _)
                have AP7 : Hid (Calls Tryd.prog 23 #[styV s.fg s.bg s.at_, .slice (some ⟨g, 0, none⟩) k c'] w7 fun e w' => e = .returned (styV (applyL s xs.reverse).fg (applyL s xs.reverse).bg (applyL s xs.reverse).at_) ∧ Below w7.heap.size w7 w') := Lib.hid (by
                  have hl : xs.reverse.length = k := by rw [List.length_reverse]; exact HN.out.symm
                  have q := SA.out (some ⟨g, 0, none⟩) c' xs.reverse (by omega) (by omega) w7 EV7 (Sees.of_own O7)
                  rw [hl] at q
                  exact q)
                have HO7 := Lib.hid hown7
                clear hown7 hg7 B7 O7 EV7 OE BE lo0 NEWS OW EE
                obtain ⟨p0, p1, p2, _, _, _⟩ := E7.out.1
                go_wp2_with fail
                refine AP7.out.mono ?_; rintro e w8 ⟨rfl, hb⟩
                have hl : xs.reverse.length = k := by rw [List.length_reverse]; exact HN.out.symm
                have RV := Lib.hid (fun X hS => RA.out A7 c7 xs.reverse (by omega) (by omega) (fun x hx => H64.out x (List.mem_reverse.1 hx)) X hS)
                rw [hl] at RV
                generalize applyL s xs.reverse = q at *
                have K15 : C3 (w8.alloc (.cells #[.int .i32 q.fg, .int .i32 q.bg, .int .u8 (bI q.at_)] 24)) w8.heap.size (.int .i32 q.fg) (.int .i32 q.bg) (.int .u8 (bI q.at_)) := by constructor <;> simp [go_sem]
                have BB := hb.alloc hb.size (.cells #[.int .i32 q.fg, .int .i32 q.bg, .int .u8 (bI q.at_)] 24)
                go_upto_region 21 with fail
                obtain ⟨b15, hb15⟩ : ∃ b, b = w8.heap.size := ⟨_, rfl⟩
                obtain ⟨X8, hX8⟩ : ∃ X, X = w8.alloc (.cells #[.int .i32 q.fg, .int .i32 q.bg, .int .u8 (bI q.at_)] 24) := ⟨_, rfl⟩
                rw [← hb15] at K15 ⊢
                rw [← hX8] at K15 BB ⊢
                have f0 := E7.out.1.keep BB E7.out.1.lt
                have f1 := E7.out.2.1.keep BB E7.out.2.1.lt
                have f9 := E7.out.2.2.1.keep BB E7.out.2.2.1.lt
                have f10 := E7.out.2.2.2.keep BB E7.out.2.2.2.lt
                have O8 := own_call HO7.out BB
                have BW8 := Lib.hid (BW7.out.trans (BB.mono BW7.out.size))
                have AL := Lib.hid (fun d os => calls_later (A.out (grow (redrawn X8 d) os) (BW8.out.trans ((below_regrown X8 d os).mono BW8.out.size))))
                have RQ := Lib.hid (fun d os => calls_later (RV.out (grow (redrawn X8 d) os) (((Sees.of_own O8).below (below_regrown X8 d os) (Nat.le_refl _)).more (below_regrown X8 d os).size)))
                clear hX8 hb15 hb O8 p0 p1 p2 E7
                have g00 := fun d os => ((f0).regrown d os).c0
                have g01 := fun d os => ((f0).regrown d os).c1
                have g02 := fun d os => ((f0).regrown d os).c2
                have g10 := fun d os => ((f1).regrown d os).c0
                have g11 := fun d os => ((f1).regrown d os).c1
                have g12 := fun d os => ((f1).regrown d os).c2
                have g90 := fun d os => ((f9).regrown d os).c0
                have g91 := fun d os => ((f9).regrown d os).c1
                have g92 := fun d os => ((f9).regrown d os).c2
                have ga0 := fun d os => ((f10).regrown d os).c0
                have ga1 := fun d os => ((f10).regrown d os).c1
                have ga2 := fun d os => ((f10).regrown d os).c2
                have gb0 := fun d os => ((K15).regrown d os).c0
                have gb1 := fun d os => ((K15).regrown d os).c1
                have gb2 := fun d os => ((K15).regrown d os).c2
                clear f0 f1 f9 f10 K15
                refine wp_region_spec 21 [] [] (by kernel_rfl) (by kernel_rfl) (by kernel_rfl) (by intro t ht; cases ht) ?_
                simp only [List.take_succ_cons, List.take_zero, List.drop_succ_cons, List.drop_zero]
                repeat (refine wpS_step (by rfl) (fun K hK => ?_); go_simp; first | (refine hK _ ?_; clear hK K) | (apply Exists.intro; refine ⟨fun _ => ?_, hK _ ?_⟩; (first | with_reducible exact RQ.out _ _ | with_reducible exact AL.out _ _); clear hK K))
                refine wpS_nil ?_
                intro W9 vs9 hl hv
                have hb9 := later_below.1 hl
                simp only [fillA]
                go_wp2_with fail
                go_ret
                exact ⟨rfl, BW8.out.trans (hb9.mono BW8.out.size)⟩
end Go.Proofs.YthcdcbibbfdjmaaDoor
