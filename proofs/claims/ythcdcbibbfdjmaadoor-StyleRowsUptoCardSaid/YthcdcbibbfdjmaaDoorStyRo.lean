/- The law StyleRows: the walk. -/
import Derived.Test.YthcdcbibbfdjmaaDoorStyQ
import Derived.Test.YthcdcbibbfdjmaaDoorStyG
namespace Go.Proofs.YthcdcbibbfdjmaaDoor
open Go.RowKit Go.Sort
set_option linter.unusedVariables false

theorem colN_in (c n : Int) (h : inSty c) : inSty (colN c n) := by
  unfold colN
  split
  · exact Or.inr (Or.inl ⟨by omega, by omega⟩)
  · split
    · exact Or.inr (Or.inl ⟨by omega, by omega⟩)
    · split
      · exact Or.inl rfl
      · exact h
theorem run_in (l : List Int) : ∀ s : Sty, (∀ n ∈ l, n ≠ 38 ∧ n ≠ 48) → inSty s.fg → inSty s.bg → inSty (runL s l).fg ∧ inSty (runL s l).bg := by
  induction l with
  | nil => intro s _ h1 h2; exact ⟨h1, h2⟩
  | cons n r ih =>
    intro s h h1 h2
    have hn := h n (List.mem_cons_self ..)
    have hr := fun m hm => h m (List.mem_cons_of_mem _ hm)
    by_cases z : n = 0
    · subst z
      rw [runL_zero]
      exact ih _ hr (Or.inl rfl) (Or.inl rfl)
    · have sm : smpl n = true := by unfold smpl; rw [decide_eq_true_iff]; exact ⟨z, hn.1, hn.2⟩
      rw [runL_simple _ _ _ sm]
      exact ih _ hr (colN_in _ _ h1) (colN_in _ _ h2)
theorem count_in (s : Sty) (h1 : inSty s.fg) (h2 : inSty s.bg) : countS s = s := by
  unfold countS
  rw [inSty_pl_eq _ h1, inSty_pl_eq _ h2]
theorem apply_two (s : Sty) (a b : List Int) (ha : a ≠ []) (hb : b ≠ []) (h : ∀ n ∈ a, n ≠ 38 ∧ n ≠ 48) : applyL (applyL s a) b = applyL s (a ++ b) := by
  have e : ∀ t l, l ≠ [] → applyL t l = runL (countS t) l := fun t l hl => by unfold applyL; rw [if_neg hl]; rfl
  obtain ⟨i1, i2⟩ := run_in a (countS s) h (inSty_pl _) (inSty_pl _)
  rw [e s a ha, e _ b hb, e s (a ++ b) (by simp [ha]), runL_app a _ b h, count_in _ i1 i2]

set_option maxHeartbeats 8000000 in
set_option maxRecDepth 100000 in
theorem styleRows_walk (s : Sty) (A1 A2 : Option Addr) (c1 c2 : Nat) (xs ys : List Int) (d : Int) (hx : xs.length ≤ 4000000) (hy : ys.length ≤ 4000000) (hc1 : xs.length ≤ c1) (hc2 : ys.length ≤ c2) (w : World) (E : EnvS w) (h1 : Sees w w.heap.size A1 (ints xs)) (h2 : Sees w w.heap.size A2 (ints ys))
    (A : ∀ W, Below w.heap.size w W → Calls Tryd.prog 21 #[] W fun e w' => e = .returned (.bool true) ∧ Below W.heap.size W w') :
    Calls Tryd.prog 11 #[styV s.fg s.bg s.at_, .slice A1 xs.length c1, .slice A2 ys.length c2, .int .i64 d] w fun e w' => e = .returned (.bool true) ∧ Below w.heap.size w w' := by
  have A := Lib.hid A
  have E := Lib.hid E
  have H1 := Lib.hid h1
  have H2 := Lib.hid h2
  have C0 := Lib.hid (st_Reduce s d)
  have C1 : Hid (∀ W, Calls Tryd.prog 31 #[styV (reduceS s d).fg (reduceS s d).bg (reduceS s d).at_, .int .i64 d] W fun e w'' => e = .returned (styV (reduceS s d).fg (reduceS s d).bg (reduceS s d).at_) ∧ Later W w'') := Lib.hid (fun W => by
    have := (st_Reduce (reduceS s d) d).later (w := W)
    rw [reduce_twice] at this
    exact this)
  generalize reduceS s d = r at *
  have AP := Lib.hid (fun (t : Sty) (A : Option Addr) (c : Nat) (l : List Int) (hm : l.length ≤ 35184372087808) (hc : l.length ≤ c) W E h => calls_later (st_Apply t A c l hm hc W E h))
  have AT := Lib.hid (apply_two s xs ys)
  obtain ⟨n, hn⟩ : ∃ n, n = xs.length := ⟨_, rfl⟩
  obtain ⟨m, hm⟩ : ∃ m, m = ys.length := ⟨_, rfl⟩
  rw [← hn] at hx hc1 ⊢
  rw [← hm] at hy hc2 ⊢
  have HN := Lib.hid hn
  have HM := Lib.hid hm
  clear h1 h2 hn hm
  go_enter Tryd.func11, Tryd.ntmps11
  go_wp2_with fail
  refine (C0.out _).mono ?_; rintro e w1 ⟨rfl, hb1⟩
  have q0 : C3 w1 w.heap.size (.int .i32 s.fg) (.int .i32 s.bg) (.int .u8 (bI s.at_)) := C3.keep (by constructor <;> simp [go_sem]) hb1 (by simp)
  have hB1 : Below w.heap.size w w1 := below_call (by go_grown) (by simp) hb1
  have l0 := q0.lt
  have K0 := q0.alloc (.cells #[.int .i32 r.fg, .int .i32 r.bg, .int .u8 (bI r.at_)] 24)
  have K1 : C3 (w1.alloc (.cells #[.int .i32 r.fg, .int .i32 r.bg, .int .u8 (bI r.at_)] 24)) w1.heap.size (.int .i32 r.fg) (.int .i32 r.bg) (.int .u8 (bI r.at_)) := by constructor <;> simp [go_sem]
  have HB := hB1.alloc (by omega) (.cells #[.int .i32 r.fg, .int .i32 r.bg, .int .u8 (bI r.at_)] 24)
  go_upto_region 2 with fail
  obtain ⟨W, hW⟩ : ∃ W, W = w1.alloc (.cells #[.int .i32 r.fg, .int .i32 r.bg, .int .u8 (bI r.at_)] 24) := ⟨_, rfl⟩
  rw [← hW] at K0 K1 HB ⊢
  clear hW q0 hB1 hb1
  have AL := Lib.hid (fun d os => calls_later (A.out (grow (redrawn W d) os) (HB.trans ((below_regrown W d os).mono HB.size))))
  have g10 := fun d os => ((K1).regrown d os).c0
  have g11 := fun d os => ((K1).regrown d os).c1
  have g12 := fun d os => ((K1).regrown d os).c2
  go_cut [23] from 15 to 23 (fun s23 wx => s23 = .bool false ∧ Below W.heap.size W wx)
  case first =>
    refine wp_region_spec 8 [] [] (by kernel_rfl) (by kernel_rfl) (by kernel_rfl) (by intro t ht; cases ht) ?_
    simp only [List.take_succ_cons, List.take_zero, List.drop_succ_cons, List.drop_zero]
    repeat (refine wpS_step (by rfl) (fun K hK => ?_); go_simp; first | (refine hK _ ?_; clear hK K) | (apply Exists.intro; refine ⟨fun _ => ?_, hK _ ?_⟩; (first | with_reducible exact C1.out _ | with_reducible exact AL.out _ _); clear hK K))
    refine wpS_nil ?_
    intro W5 vs5 hl hv
    have hb5 := later_below.1 hl
    simp only [fillA]
    go_wp2_with fail
    go_meet
    exact ⟨rfl, hb5⟩
  case rest =>
    obtain ⟨rfl, hb2⟩ := hcut
    have HB2 := Lib.hid (HB.trans (hb2.mono HB.size))
    have k0 := K0.keep hb2 K0.lt
    have S1 := Lib.hid ((H1.out.below HB2.out (Nat.le_refl _)).more HB2.out.size)
    have S2 := Lib.hid ((H2.out.below HB2.out (Nat.le_refl _)).more HB2.out.size)
    have EV := Lib.hid (E.out.of_below HB2.out (Nat.le_refl _))
    clear K0 K1 HB hb2 g10 g11 g12
    by_cases n0 : n = 0
    · have g : ((n : Int) == 0) = true := by simp; omega
      go_wp2_with fail
      go_ret
      exact ⟨rfl, HB2.out⟩
    have gn : ((n : Int) == 0) = false := by simp; omega
    by_cases m0 : m = 0
    · have g : ((m : Int) == 0) = true := by simp; omega
      go_wp2_with fail
      go_ret
      exact ⟨rfl, HB2.out⟩
    have gm : ((m : Int) == 0) = false := by simp; omega
    obtain ⟨a1, ea1, ab1, ac1⟩ := S1.out (fun e => n0 (by rw [HN.out]; simpa [ints] using congrArg List.length e))
    subst ea1
    have AC := Lib.hid ac1
    go_wp2_with fail
    go_loop [10] (fun s10 => ∃ k : Nat, k ≤ n ∧ s10 = .int .i64 k ∧ Hid (∀ j, j < k → ∀ x, xs[j]? = some x → x ≠ 38 ∧ x ≠ 48)) (fun s10 => n - (intOf s10).toNat)
    case atStart => exact ⟨0, by omega, rfl, Lib.hid (fun j h => by omega)⟩
    case round =>
      obtain ⟨k, hk, rfl, hp⟩ := hrel
      by_cases lt : k < n
      · obtain ⟨x, hx⟩ : ∃ x, xs[k]? = some x := ⟨_, List.getElem?_eq_getElem (show k < xs.length by have := HN.out; omega)⟩
        have cx : wc.cell? (a1.add k) = some (.int .i64 x) := AC.out k _ (by simp [ints, hx])
        by_cases x38 : x = 38
        · have g38 : (x == 38) = true := by simpa using x38
          clear hx
          go_wp2_with fail
          go_ret
          exact ⟨rfl, HB2.out⟩
        have g38 : (x == 38) = false := by simpa using x38
        by_cases x48 : x = 48
        · have g48 : (x == 48) = true := by simpa using x48
          clear hx
          go_wp2_with fail
          go_ret
          exact ⟨rfl, HB2.out⟩
        · have g48 : (x == 48) = false := by simpa using x48
          have HP : Hid (∀ j, j < k + 1 → ∀ x, xs[j]? = some x → x ≠ 38 ∧ x ≠ 48) := Lib.hid (fun j hj y hy => by
            by_cases e : j = k
            · subst e
              rw [hx] at hy
              cases hy
              exact ⟨x38, x48⟩
            · exact hp.out j (by omega) y hy)
          clear hx x38 x48
          go_wp2_with fail
          go_round
          case rel => exact ⟨k + 1, by omega, by go_num, HP⟩
          case measure => simp [intOf]; omega
      · have ek : k = n := by omega
        subst ek
        have NO : Hid (∀ x ∈ xs, x ≠ 38 ∧ x ≠ 48) := Lib.hid (fun x hx => by
          obtain ⟨j, hj, e⟩ := List.getElem_of_mem hx
          exact hp.out j (by rw [HN.out]; exact hj) x (by rw [List.getElem?_eq_getElem hj, e]))
        obtain ⟨i0, hi0, hz0, hz1, hz2⟩ := info_parts infoI
        obtain ⟨a2, ea2, ab2, ac2⟩ := S2.out (fun e => m0 (by rw [HM.out]; simpa [ints] using congrArg List.length e))
        subst ea2
        have ON : ∀ l : List Int, ∀ u ∈ ints l, u.oneCell' = true := fun l u hu => by
          unfold ints at hu
          obtain ⟨y, _, rfl⟩ := List.mem_map.1 hu
          rfl
        have ON := Lib.hid ON
        have LX : Hid ((ints xs).length = k * 1) := Lib.hid (by rw [ints_len, HN.out, Nat.mul_one])
        have LY : Hid ((ints ys).length = m * 1) := Lib.hid (by rw [ints_len, HM.out, Nat.mul_one])
        have O0 : Hid (wc.ownsRow wc.heap.size 3 1 (.slice none 0 0) 0 []) := Lib.hid (World.ownsRow_nil _ _ _ _)
        have M1 : Hid (0 + k ≤ maxLen ∧ (0 + k) * 8 ≤ 140737488355328 ∧ 0 + k + m ≤ maxLen ∧ (0 + k + m) * 8 ≤ 140737488355328) := Lib.hid (by unfold maxLen; omega)
        have AC2 := Lib.hid ac2
        clear ac1 ac2 hp
        go_upto_region 13 with (at_builtin; refine wpList_append_own _ rfl (.tmp 50) (.tmp 51) 25 rfl wc.heap.size 3 i0 (.int .i64 0) 1 8 Tryd.underlying25 hi0 hz0 hz1 hz2 rfl (by decide) _ 0 [] rfl O0.out a1 k c1 (ints xs) rfl LX.out AC.out (ON.out xs) M1.out.1 M1.out.2.1 (Nat.le_refl _) ?_; intro v1 w3 hown3 hg3 _)
        have B3 : Below wc.heap.size wc w3 := (Below.refl _ _).grown hg3 (Nat.le_refl _) (fun g h => by cases h)
        have O1 := Lib.hid hown3
        have AC3 : Hid (∀ j u, (ints ys)[j]? = some u → w3.cell? (a2.add j) = some u) := Lib.hid (fun j u hu => (B3.cell (by rw [add_blk]; exact ab2)).trans (AC2.out j u hu))
        have BH3 := Lib.hid B3
        have H3 : wc.heap.size ≤ w3.heap.size := B3.size
        clear hown3 hg3 B3 O0
        go_upto_region 14 with (at_builtin; refine wpList_append_own _ rfl (.tmp 53) (.tmp 54) 25 rfl wc.heap.size 3 i0 (.int .i64 0) 1 8 Tryd.underlying25 hi0 hz0 hz1 hz2 rfl (by decide) _ (0 + k) _ rfl O1.out a2 m c2 (ints ys) rfl LY.out AC3.out (ON.out ys) M1.out.2.2.1 M1.out.2.2.2 H3 ?_; intro v2 w4 hown4 hg4 _)
        have B4 : Below wc.heap.size wc w4 := BH3.out.grown hg4 BH3.out.size (fun g hg => (O1.out.lt g hg).1)
        have O2 : w4.ownsRow wc.heap.size 3 1 v2 (k + m) (ints (xs ++ ys)) := by
          have := hown4
          rw [List.nil_append, ← ints_app, Nat.zero_add] at this
          exact this
        obtain ⟨A5, c5, rfl⟩ := own_slice' O2
        have hc5 : k + m ≤ c5 := by
          rcases (own_form O2).2 with ⟨q, z⟩ | ⟨g', c', q, _, _, l, _⟩
          · omega
          · cases q; exact l
        have SB := Sees.of_own O2
        have SX : Sees w4 w4.heap.size (some a1) (ints xs) := fun _ => ⟨a1, rfl, Nat.lt_of_lt_of_le ab1 B4.size, fun j u hu => (B4.cell (by rw [add_blk]; exact ab1)).trans (AC.out j u hu)⟩
        have SY : Sees w4 w4.heap.size (some a2) (ints ys) := fun _ => ⟨a2, rfl, Nat.lt_of_lt_of_le ab2 B4.size, fun j u hu => (B4.cell (by rw [add_blk]; exact ab2)).trans (AC2.out j u hu)⟩
        have EV4 := EV.out.of_below B4 (Nat.le_refl _)
        have kk := k0.keep B4 k0.lt
        have HB4 := Lib.hid (HB2.out.trans (B4.mono HB2.out.size))
        have fx : ∀ (A : Option Addr) (l : List Int), Sees w4 w4.heap.size A (ints l) → ∀ d os, Sees (grow (redrawn w4 d) os) (grow (redrawn w4 d) os).heap.size A (ints l) := fun A l h d os => (h.below (below_regrown w4 d os) (Nat.le_refl _)).more (below_regrown w4 d os).size
        have Q1 : Hid (∀ d os, Calls Tryd.prog 23 #[styV s.fg s.bg s.at_, .slice A5 (k + m) c5] (grow (redrawn w4 d) os) fun e w'' => e = .returned (styV (applyL s (xs ++ ys)).fg (applyL s (xs ++ ys)).bg (applyL s (xs ++ ys)).at_) ∧ Later (grow (redrawn w4 d) os) w'') := Lib.hid (fun d os => by
          have ll : (xs ++ ys).length = k + m := by rw [List.length_append, ← HN.out, ← HM.out]
          have := AP.out s A5 c5 (xs ++ ys) (by omega) (by omega) (grow (redrawn w4 d) os) (EV4.of_below (below_regrown w4 d os) (Nat.le_refl _)) (fx _ _ SB d os)
          rw [ll] at this
          exact this)
        have Q2 : Hid (∀ d os, Calls Tryd.prog 23 #[styV s.fg s.bg s.at_, .slice (some a1) k c1] (grow (redrawn w4 d) os) fun e w'' => e = .returned (styV (applyL s xs).fg (applyL s xs).bg (applyL s xs).at_) ∧ Later (grow (redrawn w4 d) os) w'') := Lib.hid (fun d os => by
          have := AP.out s (some a1) c1 xs (by have := HN.out; omega) (by have := HN.out; omega) (grow (redrawn w4 d) os) (EV4.of_below (below_regrown w4 d os) (Nat.le_refl _)) (fx _ _ SX d os)
          rw [← HN.out] at this
          exact this)
        have Q3 : Hid (∀ d os, Calls Tryd.prog 23 #[styV (applyL s xs).fg (applyL s xs).bg (applyL s xs).at_, .slice (some a2) m c2] (grow (redrawn w4 d) os) fun e w'' => e = .returned (styV (applyL s (xs ++ ys)).fg (applyL s (xs ++ ys)).bg (applyL s (xs ++ ys)).at_) ∧ Later (grow (redrawn w4 d) os) w'') := Lib.hid (fun d os => by
          have := AP.out (applyL s xs) (some a2) c2 ys (by have := HM.out; omega) (by have := HM.out; omega) (grow (redrawn w4 d) os) (EV4.of_below (below_regrown w4 d os) (Nat.le_refl _)) (fx _ _ SY d os)
          rw [← HM.out, AT.out (fun e => n0 (by rw [HN.out, e]; rfl)) (fun e => m0 (by rw [HM.out, e]; rfl)) NO.out] at this
          exact this)
        generalize applyL s (xs ++ ys) = RA at *
        generalize applyL s xs = RX at *
        have g00 := fun d os => ((kk).regrown d os).c0
        have g01 := fun d os => ((kk).regrown d os).c1
        have g02 := fun d os => ((kk).regrown d os).c2
        clear hown4 hg4 B4 O2 O1 SB SX SY EV4 kk AC AC2 AC3 fx n0 m0 AP AT
        refine wp_region_spec 8 [] [] (by kernel_rfl) (by kernel_rfl) (by kernel_rfl) (by intro t ht; cases ht) ?_
        simp only [List.take_succ_cons, List.take_zero, List.drop_succ_cons, List.drop_zero]
        repeat (refine wpS_step (by rfl) (fun K hK => ?_); go_simp; first | (refine hK _ ?_; clear hK K) | (apply Exists.intro; refine ⟨fun _ => ?_, hK _ ?_⟩; (first | with_reducible exact Q1.out _ _ | with_reducible exact Q2.out _ _ | with_reducible exact Q3.out _ _); clear hK K))
        refine wpS_nil ?_
        intro W5 vs5 hl hv
        have hb5 := later_below.1 hl
        simp only [fillA]
        go_wp2_with fail
        go_ret
        exact ⟨rfl, HB4.out.trans (hb5.mono HB4.out.size)⟩
end Go.Proofs.YthcdcbibbfdjmaaDoor
