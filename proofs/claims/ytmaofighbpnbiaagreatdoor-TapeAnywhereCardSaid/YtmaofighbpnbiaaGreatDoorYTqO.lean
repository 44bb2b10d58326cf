/- The law's alike. -/
import Derived.Test.YtmaofighbpnbiaaGreatDoorYTqM
namespace Go.Proofs.YtmaofighbpnbiaaGreatDoor
open Go Go.RowKit Go.Sort
set_option linter.unusedVariables false
set_option linter.unusedSimpArgs false
section
theorem row_cellsT {W : World} {A : Option Addr} {c : Nat} {l : List Cel} (K : RowAt W 79 5 (.slice A l.length c) l.length (celsV l)) (k : Nat) (hk : k < l.length) : ∃ g, A = some ⟨g, 0, none⟩ ∧ g < W.heap.size ∧ W.cell? ⟨g, k * 5, none⟩ = some (.string (l.getD k celD).text) ∧ W.cell? ⟨g, k * 5 + 1, none⟩ = some (.int .i8 (l.getD k celD).wide) ∧ W.cell? ⟨g, k * 5 + 2, none⟩ = some (.int .i32 (l.getD k celD).st.fg) ∧ W.cell? ⟨g, k * 5 + 3, none⟩ = some (.int .i32 (l.getD k celD).st.bg) ∧ W.cell? ⟨g, k * 5 + 4, none⟩ = some (.int .u8 (bI (l.getD k celD).st.at_)) := by
 obtain ⟨g, cap, ec, eo, ho, hc⟩ := K.slice (by omega)
 simp only [Value.slice.injEq] at ec
 obtain ⟨rfl, _, rfl⟩ := ec
 obtain ⟨cur, hcu⟩ := own_block ho
 have at_ : ∀ j, j < 5 → W.cell? ⟨g, k * 5 + j, none⟩ = (celV (l.getD k celD))[j]? := fun j hj => by
  rw [ho.cellAt _ (by omega)]
  exact celsV_at l k hk j hj
 exact ⟨g, rfl, (Array.getElem?_eq_some_iff.1 hcu).1, at_ 0 (by decide), at_ 1 (by decide), at_ 2 (by decide), at_ 3 (by decide), at_ 4 (by decide)⟩
set_option maxHeartbeats 8000000 in
set_option maxRecDepth 100000 in
theorem law_alike30 (s : Scr) (A1 A2 : Option Addr) (c1 c2 : Nat) (W : World) (hl : s.cells.length ≤ 1048576) (N1 : RowAt W 79 5 (.slice A1 s.cells.length c1) s.cells.length (celsV s.cells)) (N2 : RowAt W 79 5 (.slice A2 s.cells.length c2) s.cells.length (celsV s.cells)) :
  Calls Tryz.prog 29 #[scrV s A1 c1, scrV s A2 c2] W fun e w' => e = .returned (.bool true) ∧ Below W.heap.size W w' := by
 obtain ⟨w, h, L, x, y, sh⟩ := s
 simp only at hl N1 N2
 simp only [scrV]
 have CE : Hid (∀ k, k < L.length → ∃ g1 g2, A1 = some ⟨g1, 0, none⟩ ∧ A2 = some ⟨g2, 0, none⟩ ∧ ∀ wr, Below W.heap.size W wr → (wr.cell? ⟨g1, k * 5, none⟩ = some (.string (L.getD k celD).text) ∧ wr.cell? ⟨g1, k * 5 + 1, none⟩ = some (.int .i8 (L.getD k celD).wide) ∧ wr.cell? ⟨g1, k * 5 + 2, none⟩ = some (.int .i32 (L.getD k celD).st.fg) ∧ wr.cell? ⟨g1, k * 5 + 3, none⟩ = some (.int .i32 (L.getD k celD).st.bg) ∧ wr.cell? ⟨g1, k * 5 + 4, none⟩ = some (.int .u8 (bI (L.getD k celD).st.at_))) ∧ (wr.cell? ⟨g2, k * 5, none⟩ = some (.string (L.getD k celD).text) ∧ wr.cell? ⟨g2, k * 5 + 1, none⟩ = some (.int .i8 (L.getD k celD).wide) ∧ wr.cell? ⟨g2, k * 5 + 2, none⟩ = some (.int .i32 (L.getD k celD).st.fg) ∧ wr.cell? ⟨g2, k * 5 + 3, none⟩ = some (.int .i32 (L.getD k celD).st.bg) ∧ wr.cell? ⟨g2, k * 5 + 4, none⟩ = some (.int .u8 (bI (L.getD k celD).st.at_)))) := Lib.hid (fun k hk => by
  obtain ⟨g1, rfl, l1, a0, a1, a2, a3, a4⟩ := row_cellsT N1 k hk
  obtain ⟨g2, rfl, l2, b0, b1, b2, b3, b4⟩ := row_cellsT N2 k hk
  refine ⟨g1, g2, rfl, rfl, fun wr hb => ⟨⟨?_, ?_, ?_, ?_, ?_⟩, ⟨?_, ?_, ?_, ?_, ?_⟩⟩⟩
  ·exact (hb.cell (p := ⟨g1, k * 5, none⟩) l1).trans a0
  ·exact (hb.cell (p := ⟨g1, k * 5 + 1, none⟩) l1).trans a1
  ·exact (hb.cell (p := ⟨g1, k * 5 + 2, none⟩) l1).trans a2
  ·exact (hb.cell (p := ⟨g1, k * 5 + 3, none⟩) l1).trans a3
  ·exact (hb.cell (p := ⟨g1, k * 5 + 4, none⟩) l1).trans a4
  ·exact (hb.cell (p := ⟨g2, k * 5, none⟩) l2).trans b0
  ·exact (hb.cell (p := ⟨g2, k * 5 + 1, none⟩) l2).trans b1
  ·exact (hb.cell (p := ⟨g2, k * 5 + 2, none⟩) l2).trans b2
  ·exact (hb.cell (p := ⟨g2, k * 5 + 3, none⟩) l2).trans b3
  ·exact (hb.cell (p := ⟨g2, k * 5 + 4, none⟩) l2).trans b4)
 obtain ⟨n, hn⟩ : ∃ n, n = L.length := ⟨_, rfl⟩
 rw [← hn] at CE hl ⊢
 clear N1 N2 hn
 obtain ⟨Q1, hQ1⟩ : ∃ Q1, Q1 = W.alloc (.cells #[.int .i64 w, .int .i64 h, .slice A1 n c1, .int .i64 x, .int .i64 y, .bool sh] 51) := ⟨_, rfl⟩
 have BQ1 : Below W.heap.size W Q1 := by rw [hQ1]; exact (Below.refl _ W).alloc (Nat.le_refl _) _
 have K1 : Bk Q1 W.heap.size [.int .i64 w, .int .i64 h, .slice A1 n c1, .int .i64 x, .int .i64 y, .bool sh] 51 := by rw [hQ1]; exact Bk.new W _ _
 have sz : Q1.heap.size = W.heap.size + 1 := by rw [hQ1]; simp
 obtain ⟨Q, hQ⟩ : ∃ Q, Q = Q1.alloc (.cells #[.int .i64 w, .int .i64 h, .slice A2 n c2, .int .i64 x, .int .i64 y, .bool sh] 51) := ⟨_, rfl⟩
 have BQ2 : Below Q1.heap.size Q1 Q := by rw [hQ]; exact (Below.refl _ Q1).alloc (Nat.le_refl _) _
 have K2 : Bk Q (W.heap.size + 1) [.int .i64 w, .int .i64 h, .slice A2 n c2, .int .i64 x, .int .i64 y, .bool sh] 51 := by rw [hQ, ← sz]; exact Bk.new Q1 _ _
 have K1 := K1.of_eq (BQ2.block _ K1.lt)
 have BQ : Below W.heap.size W Q := BQ1.trans (BQ2.mono BQ1.size)
 have hQQ : Q = (W.alloc (.cells #[.int .i64 w, .int .i64 h, .slice A1 n c1, .int .i64 x, .int .i64 y, .bool sh] 51)).alloc (.cells #[.int .i64 w, .int .i64 h, .slice A2 n c2, .int .i64 x, .int .i64 y, .bool sh] 51) := by rw [hQ, hQ1]
 have k10 := K1.c 0 _ rfl
 have k11 := K1.c 1 _ rfl
 have k12 := K1.c 2 _ rfl
 have k13 := K1.c 3 _ rfl
 have k14 := K1.c 4 _ rfl
 have k15 := K1.c 5 _ rfl
 have k20 := K2.c 0 _ rfl
 have k21 := K2.c 1 _ rfl
 have k22 := K2.c 2 _ rfl
 have k23 := K2.c 3 _ rfl
 have k24 := K2.c 4 _ rfl
 have k25 := K2.c 5 _ rfl
 have KH1 := Lib.hid K1
 have KH2 := Lib.hid K2
 have HB := Lib.hid BQ
 have HQQ := Lib.hid hQQ
 clear hQ1 BQ1 sz hQ BQ2 K1 K2 BQ hQQ
 go_enter Tryz.func29, Tryz.ntmps29
 go_upto_region 1 with fail
 rw [← HQQ.out]
 clear HQQ
 go_wp2_with fail
 clear k10 k11 k13 k14 k15 k20 k21 k22 k23 k24 k25 k12
 go_loopw [5] (fun i wr => ∃ k : Nat, k ≤ n ∧ i = .int .i64 (k : Int) ∧ Hid (Below Q.heap.size Q wr)) (fun i _ => n - (intOf i).toNat)
 case atStart => exact ⟨0, Nat.zero_le _, by simp, Lib.hid (Below.refl _ _)⟩
 case round =>
  obtain ⟨k, hk, rfl, hr⟩ := hrel
  have K1 := KH1.out.of_eq (hr.out.block _ KH1.out.lt)
  have K2 := KH2.out.of_eq (hr.out.block _ KH2.out.lt)
  by_cases lt : k < n
  ·obtain ⟨g1, g2, rfl, rfl, CC⟩ := CE.out k lt
   have C1 := fun d os => (CC (grow (redrawn wr d) os) ((HB.out.trans (hr.out.mono HB.out.size)).trans ((below_regrown wr d os).mono (HB.out.trans (hr.out.mono HB.out.size)).size))).1
   have C2 := fun d os => (CC (grow (redrawn wr d) os) ((HB.out.trans (hr.out.mono HB.out.size)).trans ((below_regrown wr d os).mono (HB.out.trans (hr.out.mono HB.out.size)).size))).2
   have z0 := fun d os => (C1 d os).1
   have z1 := fun d os => (C1 d os).2.1
   have z2 := fun d os => (C1 d os).2.2.1
   have z3 := fun d os => (C1 d os).2.2.2.1
   have z4 := fun d os => (C1 d os).2.2.2.2
   have y0 := fun d os => (C2 d os).1
   have y1 := fun d os => (C2 d os).2.1
   have y2 := fun d os => (C2 d os).2.2.1
   have y3 := fun d os => (C2 d os).2.2.2.1
   have y4 := fun d os => (C2 d os).2.2.2.2
   have k12 := K1.c 2 _ rfl
   have k22 := K2.c 2 _ rfl
   have k12' := fun d os => (K1.regrown d os).c 2 _ rfl
   have k22' := fun d os => (K2.regrown d os).c 2 _ rfl
   generalize (L.getD k celD) = X at *
   have q0 : (0 : Int) ≤ (k : Int) := by omega
   have q5 : (k : Int) < (n : Int) := by omega
   have tn : (k : Int).toNat = k := by omega
   have wk : IntKind.i64.wrap ((k : Int) + 1) = (k : Int) + 1 := IntWalk.i64_in _ (by omega)
   clear CE CC C1 C2 K1 K2
   go_upto_region 6 with fail
   refine wp_region_spec 10 [] [] (by kernel_rfl) (by kernel_rfl) (by kernel_rfl) (by intro t ht; cases ht) ?_
   simp only [List.take_succ_cons, List.take_zero, List.drop_succ_cons, List.drop_zero]
   repeat (refine wpS_step (by rfl) (fun K hK => ?_); go_simp; first | (refine hK _ ?_; clear hK K) | (apply Exists.intro; refine ⟨fun _ => ?_, hK _ ?_⟩; (fail); clear hK K))
   refine wpS_nil ?_
   intro W5 vs5 hl2 hv
   have B5 := Lib.hid (hr.out.trans ((later_below.1 hl2).mono hr.out.size))
   clear hl2 hv k12 k22 z0 z1 z2 z3 z4 y0 y1 y2 y3 y4 k12' k22' hr
   simp only [fillA]
   go_wp2_with fail
   go_roundw
   case rel => exact ⟨k + 1, by omega, by go_num, B5⟩
   case measure => simp [intOf]; omega
  ·have ek : k = n := by omega
   subst ek
   have q5 : ¬ (k : Int) < (k : Int) := by omega
   have k12 := K1.c 2 _ rfl
   clear CE K1 K2
   go_wp2_with fail
   go_ret
   exact ⟨rfl, HB.out.trans (hr.out.mono HB.out.size)⟩
end
end Go.Proofs.YtmaofighbpnbiaaGreatDoor
