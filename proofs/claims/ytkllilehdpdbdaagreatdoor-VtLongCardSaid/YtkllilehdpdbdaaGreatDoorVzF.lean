/- VtLong: the walk. -/
import Derived.Test.YtkllilehdpdbdaaGreatDoorVzE
namespace Go.Proofs.YtkllilehdpdbdaaGreatDoor
open Go Go.RowKit Go.Sort
set_option linter.unusedVariables false
set_option linter.unusedSimpArgs false
section
theorem make_long (W : World) (n : Nat) (hn : n ≤ 2000000) : ∃ V xs, (Instr.makeSlice 29 (.int .i64 (n : Int)) (.int .i64 (n : Int))).run Tryz.prog W = .ok (.slice (some ⟨W.heap.size, 0, none⟩) n n) V ∧ Bk V W.heap.size xs 5 ∧ xs.length = n ∧ Below W.heap.size W V := by
  obtain ⟨i, hi, hz0, hz1, hz2⟩ := info_parts info8
  have r := run_make (P := Tryz.prog) W 29 5 i (.int .u8 0) Tryz.underlying29 hi hz0 .i64 .i64 (n : Int) (n : Int) (by omega) (Int.le_refl _) (by rw [hz2]; omega) (by omega)
  rw [hz1, Int.toNat_natCast] at r
  refine ⟨_, (madeCells (Value.int .u8 0).cells (n * 1)).toList, r, ?_, by rw [Array.length_toList, size_madeCells]; omega, (Below.refl _ W).alloc (Nat.le_refl _) _⟩
  unfold Bk
  rw [World.alloc_heap_new]
set_option maxHeartbeats 16000000 in
set_option maxRecDepth 100000 in
theorem vtLong_walk (A : Option Addr) (c : Nat) (D : List Int) (more : Int) (hm : -9223372036854775808 ≤ more ∧ more ≤ 9223372036854775807) (W : World) (E : EnvV W) (H1 : ArgB W A c D) :
    Calls Tryz.prog 9 #[.slice A D.length c, .int .i64 more] W fun e w' => e = .returned (.bool true) ∧ Below W.heap.size W w' := by
  have NW := Lib.hid (t_New 6 2 (by decide) (by decide) (by decide) (by decide) (by decide) W E)
  have S0 := Lib.hid (Herd.nil E (Below.refl _ W))
  have LV := Lib.hid (live_new 6 2 (by decide) (by decide) (by decide) (by decide) (by decide))
  have H1 := Lib.hid H1
  clear E
  by_cases n1 : 1048576 < D.length
  · have n1i : (1048576 : Int) < (D.length : Int) := by omega
    go_enter Tryz.func9, Tryz.ntmps9
    go_wp2_with fail
    refine NW.out.mono ?_; rintro e V1 ⟨tb, rfl, hb1, hge, hx⟩
    have S1 := Lib.hid (S0.out.add hx)
    clear hb1 hge hx NW S0
    go_wp2_with fail
    refine (law_works V1 S1.out.env).mono ?_; rintro e V2 ⟨rfl, hb2⟩
    have HB2 := Lib.hid (S1.out.below hb2)
    clear hb2
    go_wp2_with fail
    go_ret
    exact ⟨rfl, HB2.out.bel⟩
  have n1i : ¬ (1048576 : Int) < (D.length : Int) := by omega
  obtain ⟨SM, hSM⟩ : ∃ SM, SM = sideV more 5 := ⟨_, rfl⟩
  have r1 := side_rng more 5 (by decide)
  rw [← hSM] at r1
  have SI : Hid (∀ X : World, Calls Tryz.prog 19 #[.int .i64 more, .int .i64 5] X fun e w' => e = .returned (.int .i64 SM) ∧ w' = X) := Lib.hid (fun X => by rw [hSM]; exact law_side more 5 hm (by decide) (by decide) X)
  obtain ⟨n, hn⟩ : ∃ n : Nat, (n : Int) = 1048577 + SM := ⟨(1048577 + SM).toNat, by omega⟩
  have wn : IntKind.i64.wrap (1048577 + SM) = (n : Int) := by rw [hn]; exact IntWalk.i64_in _ (by omega)
  obtain ⟨N0, hN0⟩ : ∃ N0, N0 = newV 6 2 := ⟨_, rfl⟩
  have z0 : N0.held.size = 0 := by rw [hN0]; rfl
  rw [← hN0] at NW LV
  obtain ⟨T1, hT1⟩ : ∃ T1, T1 = feedT N0 D := ⟨_, rfl⟩
  have L1 := live_feed D LV.out H1.out.rng
  rw [← hT1] at L1
  have Z0 := Lib.hid (And.intro z0 (And.intro n1 L1.2))
  have LA := Lib.hid L1.1
  have HT1 := Lib.hid hT1
  have ML := Lib.hid (fun W => make_long W n (by omega))
  have HNN := Lib.hid (show 1048576 < n ∧ n ≤ 2000000 by omega)
  clear hSM r1 hN0 hT1 L1 z0 hn hm
  go_enter Tryz.func9, Tryz.ntmps9
  go_wp2_with fail
  refine NW.out.mono ?_; rintro e V1 ⟨tb, rfl, hb1, hge, hx⟩
  have S1 : Hid (Herd W V1 [(tb, N0)] []) := Lib.hid (S0.out.add hx)
  have F1 := Lib.hid (S1.out.feed (i := 0) rfl H1.out LV.out (by have := Z0.out; omega) (by have := Z0.out; omega))
  clear hb1 hge hx NW S0 S1
  go_wp2_with fail
  refine F1.out.mono ?_; rintro e V2 ⟨rfl, S2⟩
  rw [← HT1.out] at S2
  have S2 : Hid (Herd W V2 [(tb, T1)] []) := Lib.hid S2
  clear F1
  go_wp2_with fail
  refine (law_works V2 S2.out.env).mono ?_; rintro e V3 ⟨rfl, hb3⟩
  have S3 := Lib.hid (S2.out.below hb3)
  clear hb3 S2
  go_wp2_with fail
  refine (SI.out _).mono ?_; rintro e w2 ⟨rfl, hw2⟩; rw [hw2]; clear hw2
  obtain ⟨V4, xs, RM, B4, xl, hb4⟩ := ML.out V3
  have S4 : Hid (Herd W V4 [(tb, T1)] [V3.heap.size]) := Lib.hid (S3.out.newZ hb4 (Nat.le_refl _) B4.lt)
  have GE : Hid (W.heap.size ≤ V3.heap.size) := Lib.hid S3.out.bel.size
  obtain ⟨g, hg⟩ : ∃ g, g = V3.heap.size := ⟨_, rfl⟩
  rw [← hg] at RM B4 S4 GE
  have S5 : Hid (Herd W V4 [(tb, T1)] [g] ∧ ∃ xs, Bk V4 g xs 5 ∧ xs.length = n) := Lib.hid ⟨S4.out, xs, B4, xl⟩
  clear hb4 S3 hg B4 xl S4 ML
  go_wp2_with fail
  go_loopw [47] (fun i wr => ∃ k : Nat, k ≤ n ∧ i = .int .i64 (k : Int) ∧ Hid (Herd W wr [(tb, T1)] [g] ∧ ∃ xs, Bk wr g xs 5 ∧ xs.length = n)) (fun i _ => n - (intOf i).toNat)
  case atStart => exact ⟨0, Nat.zero_le _, by simp, S5⟩
  case round =>
    obtain ⟨k, hk, rfl, hr⟩ := hrel
    clear S5 RM
    by_cases lt : k < n
    · obtain ⟨HH, ys, BY, yl⟩ := hr.out
      obtain ⟨y, hy⟩ : ∃ y, ys[k]? = some y := ⟨_, List.getElem?_eq_getElem (by omega)⟩
      have yk := BY.c k y hy
      have yf := BY.f k
      have q0 : (0 : Int) ≤ (k : Int) := by omega
      have q5 : (k : Int) < (n : Int) := by omega
      have wk : IntKind.i64.wrap ((k : Int) + 1) = (k : Int) + 1 := IntWalk.i64_in _ (by have := HNN.out; omega)
      have H2 : Hid (Herd W (wr.setCell ⟨g, k, none⟩ (.int .u8 120)) [(tb, T1)] [g] ∧ ∃ xs, Bk (wr.setCell ⟨g, k, none⟩ (.int .u8 120)) g xs 5 ∧ xs.length = n) := Lib.hid ⟨HH.setZ (by simp) GE.out _, _, BY.set k _, by rw [List.length_set]; exact yl⟩
      clear HH BY yl hy hr
      go_wp2_with fail
      go_roundw
      case rel => exact ⟨k + 1, by omega, by go_num, H2⟩
      case measure => simp [intOf]; omega
    · have ek : k = n := by omega
      subst ek
      have q5 : ¬ (k : Int) < (k : Int) := by omega
      have F3 := Lib.hid (hr.out.1.clone (i := 0) rfl LA.out (by have := Z0.out; omega))
      clear hr
      go_wp2_with fail
      refine F3.out.mono ?_; rintro e V6 ⟨cb, rfl, S6, _⟩
      have S6 : Hid (Herd W V6 [(tb, T1), (cb, T1)] [g]) := Lib.hid S6
      have FL := Lib.hid (t_Feed_long tb (some ⟨g, 0, none⟩) k k HNN.out.1 V6)
      obtain ⟨Z', TWO, _⟩ := S6.out.two (i := 0) (j := 1) rfl rfl (by decide)
      have AL := Lib.hid (law_alikeZ TWO LA.out.fine LA.out.fine rfl rfl rfl rfl)
      clear F3 TWO
      go_wp2_with fail
      refine FL.out.mono ?_; rintro e w7 ⟨rfl, hw7⟩; rw [hw7]; clear hw7
      clear FL
      go_wp2_with fail
      refine AL.out.mono ?_; rintro e w8 ⟨rfl, hb8, _⟩
      clear AL
      go_wp2_with fail
      go_ret
      exact ⟨rfl, hb8⟩
end
end Go.Proofs.YtkllilehdpdbdaaGreatDoor
