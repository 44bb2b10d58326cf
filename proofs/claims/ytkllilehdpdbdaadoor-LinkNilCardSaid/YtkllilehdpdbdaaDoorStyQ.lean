/- A style made poorer: the walks of both sides. -/
import Derived.Test.YtkllilehdpdbdaaDoorStyO
import Derived.Test.YtkllilehdpdbdaaDoorStyQr
namespace Go.Proofs.YtkllilehdpdbdaaDoor
open Go.RowKit Go.Sort
set_option linter.unusedVariables false

theorem st_red1 (c : Int) : Tells 21 #[.int .i32 c] (.int .i32 c) := by
  intro w
  go_enter Tryd.func21, Tryd.ntmps21
  go_wp2
  go_ret
  exact ⟨rfl, rfl⟩
theorem st_red2 (c : Int) : Tells 22 #[.int .i32 c] (.int .i32 0) := by
  intro w
  go_enter Tryd.func22, Tryd.ntmps22
  go_wp2
  go_ret
  exact ⟨rfl, rfl⟩
theorem Tells.gives {k : Nat} {args : Array Value} {v : Value} (h : Tells k args v) : Gives k args v := fun w => (h w).mono fun _ _ ⟨a, b⟩ => ⟨a, by rw [← b]; exact Below.refl _ _⟩

set_option maxHeartbeats 8000000 in
set_option maxRecDepth 100000 in
theorem st_Reduce (s : Sty) (d : Int) : Gives 15 #[styV s.fg s.bg s.at_, .int .i64 d] (styV (reduceS s d).fg (reduceS s d).bg (reduceS s d).at_) := by
  intro w
  have C0 := Lib.hid (st_counts s.fg s.bg s.at_)
  have RF : Hid ((reduceS s d).fg = poorC (plC s.fg) d) := Lib.hid rfl
  have RB : Hid ((reduceS s d).bg = poorC (plC s.bg) d) := Lib.hid rfl
  have RA : Hid ((reduceS s d).at_ = s.at_) := Lib.hid rfl
  have Z0 : Hid (poorC 0 d = 0) := Lib.hid (by unfold poorC; rw [if_pos (Or.inl rfl)])
  generalize reduceS s d = r at *
  generalize plC s.fg = F at *
  generalize plC s.bg = B at *
  have fin : ∀ (k : Nat), (∀ c, c ≠ 0 → Gives k #[.int .i32 c] (.int .i32 (poorC c d))) → Hid (∀ c, c ≠ 0 → Gives k #[.int .i32 c] (.int .i32 (poorC c d))) := fun k h => Lib.hid h
  have cases4 : (d ≤ 0) ∨ (0 < d ∧ d = 1) ∨ (0 < d ∧ d = 2) ∨ (0 < d ∧ ¬ d = 1 ∧ ¬ d = 2) := by omega
  rcases cases4 with d0 | ⟨d0, d1⟩ | ⟨d0, d2⟩ | ⟨d0, d1, d2⟩
  · have PK := fin 22 (fun c hc => (st_red2 c).gives.to (by unfold poorC; rw [if_pos (Or.inr d0)]))
    clear fin
    by_cases f0 : F = 0
    all_goals by_cases b0 : B = 0
    all_goals
      first | (have RF : Hid (r.fg = F) := Lib.hid (by rw [RF.out, f0, Z0.out])) | skip
      first | (have RB : Hid (r.bg = B) := Lib.hid (by rw [RB.out, b0, Z0.out])) | skip
      have F0 := Lib.hid f0
      have B0 := Lib.hid b0
      first | (have g1 : (F != 0) = true := by rw [bne_iff_ne]; exact f0) | (have g1 : (F != 0) = false := by rw [f0]; rfl)
      first | (have g2 : (B != 0) = true := by rw [bne_iff_ne]; exact b0) | (have g2 : (B != 0) = false := by rw [b0]; rfl)
      clear f0 b0
      go_enter Tryd.func15, Tryd.ntmps15
      go_wp2_with fail
      refine (C0.out _).mono ?_; rintro e w1 ⟨rfl, hb1⟩
      have q1 : C3 w1 w.heap.size (.int .i32 s.fg) (.int .i32 s.bg) (.int .u8 (bI s.at_)) := C3.keep (by constructor <;> simp [go_sem]) hb1 (by simp; omega)
      have q2 : C3 w1 (w.heap.size + 1) (.int .i32 0) (.int .i32 0) (.int .u8 0) := C3.keep (by constructor <;> simp [go_sem]) hb1 (by simp)
      have hB1 : Below w.heap.size w w1 := below_call (by go_grown) (by simp; omega) hb1
      clear hb1
      have ne : w.heap.size + 1 ≠ w.heap.size := by omega
      have Q1 := Lib.hid (q1.put (.int .i32 F) (.int .i32 B) (.int .u8 (bI s.at_)))
      have Q2 := Lib.hid (((q2.far (b' := w.heap.size) (o := 0) (y := .int .i32 F) ne).far (b' := w.heap.size) (o := 1) (y := .int .i32 B) ne).far (b' := w.heap.size) (o := 2) (y := .int .u8 (bI s.at_)) ne)
      have HB := Lib.hid (below_put3 hB1 (Nat.le_refl _) (.int .i32 F) (.int .i32 B) (.int .u8 (bI s.at_)))
      obtain ⟨a0, a1, a2, f0, f1, f2⟩ := q1
      obtain ⟨z0, z1, z2, y0, y1, y2⟩ := q2
      clear hB1 ne
      go_wp2_with fail
    · refine bodyPost_ret (v := styV r.fg r.bg r.at_) (by rw [RF.out, RB.out, RA.out]; simp [results, Tryd.results15, go_sem, z0, z1, z2]) rfl ⟨rfl, ?_⟩
      repeat (first | with_reducible exact HB.out | refine Below.setCell ?_ (by first | exact Nat.le_refl _ | exact Nat.le_succ _) _)
    · refine (PK.out B B0.out _).mono ?_; rintro e' w2 ⟨rfl, hb2⟩
      have KA := Lib.hid (Q1.out.keep hb2 Q1.out.lt)
      have KB := Lib.hid (Q2.out.keep hb2 Q2.out.lt)
      have KC := Lib.hid (below_call HB.out HB.out.size hb2)
      clear hb2
      obtain ⟨b0, b1, b2, i0, i1, i2⟩ := KA.out
      obtain ⟨d0, d1, d2, j0, j1, j2⟩ := KB.out
      go_wp2_with fail
      refine bodyPost_ret (v := styV r.fg r.bg r.at_) (by rw [RF.out, RB.out, RA.out]; simp [results, Tryd.results15, go_sem, d0, d1, d2]) rfl ⟨rfl, ?_⟩
      repeat (first | with_reducible exact KC.out | refine Below.setCell ?_ (by first | exact Nat.le_refl _ | exact Nat.le_succ _) _)
    · refine (PK.out F F0.out _).mono ?_; rintro e' w2 ⟨rfl, hb2⟩
      have KA := Lib.hid (Q1.out.keep hb2 Q1.out.lt)
      have KB := Lib.hid (Q2.out.keep hb2 Q2.out.lt)
      have KC := Lib.hid (below_call HB.out HB.out.size hb2)
      clear hb2
      obtain ⟨b0, b1, b2, i0, i1, i2⟩ := KA.out
      obtain ⟨d0, d1, d2, j0, j1, j2⟩ := KB.out
      go_wp2_with fail
      refine bodyPost_ret (v := styV r.fg r.bg r.at_) (by rw [RF.out, RB.out, RA.out]; simp [results, Tryd.results15, go_sem, d0, d1, d2]) rfl ⟨rfl, ?_⟩
      repeat (first | with_reducible exact KC.out | refine Below.setCell ?_ (by first | exact Nat.le_refl _ | exact Nat.le_succ _) _)
    · refine (PK.out F F0.out _).mono ?_; rintro e' w2 ⟨rfl, hb2⟩
      have KA := Lib.hid (Q1.out.keep hb2 Q1.out.lt)
      have KB := Lib.hid (Q2.out.keep hb2 Q2.out.lt)
      have KC := Lib.hid (below_call HB.out HB.out.size hb2)
      clear hb2
      obtain ⟨b0, b1, b2, i0, i1, i2⟩ := KA.out
      obtain ⟨d0, d1, d2, j0, j1, j2⟩ := KB.out
      go_wp2_with fail
      have ne : w.heap.size + 1 ≠ w.heap.size := by omega
      have L1 := Lib.hid (KA.out.set0 (.int .i32 (poorC F d)))
      have L2 := Lib.hid (KB.out.far (b' := w.heap.size) (o := 0) (y := .int .i32 (poorC F d)) ne)
      have L3 := Lib.hid (KC.out.setCell (p := ⟨w.heap.size, 0, none⟩) (Nat.le_refl _) (.int .i32 (poorC F d)))
      clear b0 b1 b2 i0 i1 i2 d0 d1 d2 j0 j1 j2 KA KB KC ne
      refine (PK.out B B0.out _).mono ?_; rintro e' w3 ⟨rfl, hb2⟩
      have KA := Lib.hid (L1.out.keep hb2 L1.out.lt)
      have KB := Lib.hid (L2.out.keep hb2 L2.out.lt)
      have KC := Lib.hid (below_call L3.out L3.out.size hb2)
      clear hb2
      obtain ⟨b0, b1, b2, i0, i1, i2⟩ := KA.out
      obtain ⟨d0, d1, d2, j0, j1, j2⟩ := KB.out
      go_wp2_with fail
      refine bodyPost_ret (v := styV r.fg r.bg r.at_) (by rw [RF.out, RB.out, RA.out]; simp [results, Tryd.results15, go_sem, d0, d1, d2]) rfl ⟨rfl, ?_⟩
      repeat (first | with_reducible exact KC.out | refine Below.setCell ?_ (by first | exact Nat.le_refl _ | exact Nat.le_succ _) _)
  · have PK := fin 23 (fun c hc => (tint_To16 c).to (by unfold poorC; rw [if_neg (by omega), if_pos d1]))
    have g3 : (d == 1) = true := by simpa using d1
    clear d1
    clear fin
    by_cases f0 : F = 0
    all_goals by_cases b0 : B = 0
    all_goals
      first | (have RF : Hid (r.fg = F) := Lib.hid (by rw [RF.out, f0, Z0.out])) | skip
      first | (have RB : Hid (r.bg = B) := Lib.hid (by rw [RB.out, b0, Z0.out])) | skip
      have F0 := Lib.hid f0
      have B0 := Lib.hid b0
      first | (have g1 : (F != 0) = true := by rw [bne_iff_ne]; exact f0) | (have g1 : (F != 0) = false := by rw [f0]; rfl)
      first | (have g2 : (B != 0) = true := by rw [bne_iff_ne]; exact b0) | (have g2 : (B != 0) = false := by rw [b0]; rfl)
      clear f0 b0
      go_enter Tryd.func15, Tryd.ntmps15
      go_wp2_with fail
      refine (C0.out _).mono ?_; rintro e w1 ⟨rfl, hb1⟩
      have q1 : C3 w1 w.heap.size (.int .i32 s.fg) (.int .i32 s.bg) (.int .u8 (bI s.at_)) := C3.keep (by constructor <;> simp [go_sem]) hb1 (by simp; omega)
      have q2 : C3 w1 (w.heap.size + 1) (.int .i32 0) (.int .i32 0) (.int .u8 0) := C3.keep (by constructor <;> simp [go_sem]) hb1 (by simp)
      have hB1 : Below w.heap.size w w1 := below_call (by go_grown) (by simp; omega) hb1
      clear hb1
      have ne : w.heap.size + 1 ≠ w.heap.size := by omega
      have Q1 := Lib.hid (q1.put (.int .i32 F) (.int .i32 B) (.int .u8 (bI s.at_)))
      have Q2 := Lib.hid (((q2.far (b' := w.heap.size) (o := 0) (y := .int .i32 F) ne).far (b' := w.heap.size) (o := 1) (y := .int .i32 B) ne).far (b' := w.heap.size) (o := 2) (y := .int .u8 (bI s.at_)) ne)
      have HB := Lib.hid (below_put3 hB1 (Nat.le_refl _) (.int .i32 F) (.int .i32 B) (.int .u8 (bI s.at_)))
      obtain ⟨a0, a1, a2, f0, f1, f2⟩ := q1
      obtain ⟨z0, z1, z2, y0, y1, y2⟩ := q2
      clear hB1 ne
      go_wp2_with fail
    · refine bodyPost_ret (v := styV r.fg r.bg r.at_) (by rw [RF.out, RB.out, RA.out]; simp [results, Tryd.results15, go_sem, z0, z1, z2]) rfl ⟨rfl, ?_⟩
      repeat (first | with_reducible exact HB.out | refine Below.setCell ?_ (by first | exact Nat.le_refl _ | exact Nat.le_succ _) _)
    · refine (PK.out B B0.out _).mono ?_; rintro e' w2 ⟨rfl, hb2⟩
      have KA := Lib.hid (Q1.out.keep hb2 Q1.out.lt)
      have KB := Lib.hid (Q2.out.keep hb2 Q2.out.lt)
      have KC := Lib.hid (below_call HB.out HB.out.size hb2)
      clear hb2
      obtain ⟨b0, b1, b2, i0, i1, i2⟩ := KA.out
      obtain ⟨d0, d1, d2, j0, j1, j2⟩ := KB.out
      go_wp2_with fail
      refine bodyPost_ret (v := styV r.fg r.bg r.at_) (by rw [RF.out, RB.out, RA.out]; simp [results, Tryd.results15, go_sem, d0, d1, d2]) rfl ⟨rfl, ?_⟩
      repeat (first | with_reducible exact KC.out | refine Below.setCell ?_ (by first | exact Nat.le_refl _ | exact Nat.le_succ _) _)
    · refine (PK.out F F0.out _).mono ?_; rintro e' w2 ⟨rfl, hb2⟩
      have KA := Lib.hid (Q1.out.keep hb2 Q1.out.lt)
      have KB := Lib.hid (Q2.out.keep hb2 Q2.out.lt)
      have KC := Lib.hid (below_call HB.out HB.out.size hb2)
      clear hb2
      obtain ⟨b0, b1, b2, i0, i1, i2⟩ := KA.out
      obtain ⟨d0, d1, d2, j0, j1, j2⟩ := KB.out
      go_wp2_with fail
      refine bodyPost_ret (v := styV r.fg r.bg r.at_) (by rw [RF.out, RB.out, RA.out]; simp [results, Tryd.results15, go_sem, d0, d1, d2]) rfl ⟨rfl, ?_⟩
      repeat (first | with_reducible exact KC.out | refine Below.setCell ?_ (by first | exact Nat.le_refl _ | exact Nat.le_succ _) _)
    · refine (PK.out F F0.out _).mono ?_; rintro e' w2 ⟨rfl, hb2⟩
      have KA := Lib.hid (Q1.out.keep hb2 Q1.out.lt)
      have KB := Lib.hid (Q2.out.keep hb2 Q2.out.lt)
      have KC := Lib.hid (below_call HB.out HB.out.size hb2)
      clear hb2
      obtain ⟨b0, b1, b2, i0, i1, i2⟩ := KA.out
      obtain ⟨d0, d1, d2, j0, j1, j2⟩ := KB.out
      go_wp2_with fail
      have ne : w.heap.size + 1 ≠ w.heap.size := by omega
      have L1 := Lib.hid (KA.out.set0 (.int .i32 (poorC F d)))
      have L2 := Lib.hid (KB.out.far (b' := w.heap.size) (o := 0) (y := .int .i32 (poorC F d)) ne)
      have L3 := Lib.hid (KC.out.setCell (p := ⟨w.heap.size, 0, none⟩) (Nat.le_refl _) (.int .i32 (poorC F d)))
      clear b0 b1 b2 i0 i1 i2 d0 d1 d2 j0 j1 j2 KA KB KC ne
      refine (PK.out B B0.out _).mono ?_; rintro e' w3 ⟨rfl, hb2⟩
      have KA := Lib.hid (L1.out.keep hb2 L1.out.lt)
      have KB := Lib.hid (L2.out.keep hb2 L2.out.lt)
      have KC := Lib.hid (below_call L3.out L3.out.size hb2)
      clear hb2
      obtain ⟨b0, b1, b2, i0, i1, i2⟩ := KA.out
      obtain ⟨d0, d1, d2, j0, j1, j2⟩ := KB.out
      go_wp2_with fail
      refine bodyPost_ret (v := styV r.fg r.bg r.at_) (by rw [RF.out, RB.out, RA.out]; simp [results, Tryd.results15, go_sem, d0, d1, d2]) rfl ⟨rfl, ?_⟩
      repeat (first | with_reducible exact KC.out | refine Below.setCell ?_ (by first | exact Nat.le_refl _ | exact Nat.le_succ _) _)
  · have PK := fin 24 (fun c hc => (tint_To256 c).to (by unfold poorC; rw [if_neg (by omega), if_neg (by omega), if_pos d2]))
    have g3 : (d == 1) = false := by simp; omega
    have g4 : (d == 2) = true := by simpa using d2
    clear d2
    clear fin
    by_cases f0 : F = 0
    all_goals by_cases b0 : B = 0
    all_goals
      first | (have RF : Hid (r.fg = F) := Lib.hid (by rw [RF.out, f0, Z0.out])) | skip
      first | (have RB : Hid (r.bg = B) := Lib.hid (by rw [RB.out, b0, Z0.out])) | skip
      have F0 := Lib.hid f0
      have B0 := Lib.hid b0
      first | (have g1 : (F != 0) = true := by rw [bne_iff_ne]; exact f0) | (have g1 : (F != 0) = false := by rw [f0]; rfl)
      first | (have g2 : (B != 0) = true := by rw [bne_iff_ne]; exact b0) | (have g2 : (B != 0) = false := by rw [b0]; rfl)
      clear f0 b0
      go_enter Tryd.func15, Tryd.ntmps15
      go_wp2_with fail
      refine (C0.out _).mono ?_; rintro e w1 ⟨rfl, hb1⟩
      have q1 : C3 w1 w.heap.size (.int .i32 s.fg) (.int .i32 s.bg) (.int .u8 (bI s.at_)) := C3.keep (by constructor <;> simp [go_sem]) hb1 (by simp; omega)
      have q2 : C3 w1 (w.heap.size + 1) (.int .i32 0) (.int .i32 0) (.int .u8 0) := C3.keep (by constructor <;> simp [go_sem]) hb1 (by simp)
      have hB1 : Below w.heap.size w w1 := below_call (by go_grown) (by simp; omega) hb1
      clear hb1
      have ne : w.heap.size + 1 ≠ w.heap.size := by omega
      have Q1 := Lib.hid (q1.put (.int .i32 F) (.int .i32 B) (.int .u8 (bI s.at_)))
      have Q2 := Lib.hid (((q2.far (b' := w.heap.size) (o := 0) (y := .int .i32 F) ne).far (b' := w.heap.size) (o := 1) (y := .int .i32 B) ne).far (b' := w.heap.size) (o := 2) (y := .int .u8 (bI s.at_)) ne)
      have HB := Lib.hid (below_put3 hB1 (Nat.le_refl _) (.int .i32 F) (.int .i32 B) (.int .u8 (bI s.at_)))
      obtain ⟨a0, a1, a2, f0, f1, f2⟩ := q1
      obtain ⟨z0, z1, z2, y0, y1, y2⟩ := q2
      clear hB1 ne
      go_wp2_with fail
    · refine bodyPost_ret (v := styV r.fg r.bg r.at_) (by rw [RF.out, RB.out, RA.out]; simp [results, Tryd.results15, go_sem, z0, z1, z2]) rfl ⟨rfl, ?_⟩
      repeat (first | with_reducible exact HB.out | refine Below.setCell ?_ (by first | exact Nat.le_refl _ | exact Nat.le_succ _) _)
    · refine (PK.out B B0.out _).mono ?_; rintro e' w2 ⟨rfl, hb2⟩
      have KA := Lib.hid (Q1.out.keep hb2 Q1.out.lt)
      have KB := Lib.hid (Q2.out.keep hb2 Q2.out.lt)
      have KC := Lib.hid (below_call HB.out HB.out.size hb2)
      clear hb2
      obtain ⟨b0, b1, b2, i0, i1, i2⟩ := KA.out
      obtain ⟨d0, d1, d2, j0, j1, j2⟩ := KB.out
      go_wp2_with fail
      refine bodyPost_ret (v := styV r.fg r.bg r.at_) (by rw [RF.out, RB.out, RA.out]; simp [results, Tryd.results15, go_sem, d0, d1, d2]) rfl ⟨rfl, ?_⟩
      repeat (first | with_reducible exact KC.out | refine Below.setCell ?_ (by first | exact Nat.le_refl _ | exact Nat.le_succ _) _)
    · refine (PK.out F F0.out _).mono ?_; rintro e' w2 ⟨rfl, hb2⟩
      have KA := Lib.hid (Q1.out.keep hb2 Q1.out.lt)
      have KB := Lib.hid (Q2.out.keep hb2 Q2.out.lt)
      have KC := Lib.hid (below_call HB.out HB.out.size hb2)
      clear hb2
      obtain ⟨b0, b1, b2, i0, i1, i2⟩ := KA.out
      obtain ⟨d0, d1, d2, j0, j1, j2⟩ := KB.out
      go_wp2_with fail
      refine bodyPost_ret (v := styV r.fg r.bg r.at_) (by rw [RF.out, RB.out, RA.out]; simp [results, Tryd.results15, go_sem, d0, d1, d2]) rfl ⟨rfl, ?_⟩
      repeat (first | with_reducible exact KC.out | refine Below.setCell ?_ (by first | exact Nat.le_refl _ | exact Nat.le_succ _) _)
    · refine (PK.out F F0.out _).mono ?_; rintro e' w2 ⟨rfl, hb2⟩
      have KA := Lib.hid (Q1.out.keep hb2 Q1.out.lt)
      have KB := Lib.hid (Q2.out.keep hb2 Q2.out.lt)
      have KC := Lib.hid (below_call HB.out HB.out.size hb2)
      clear hb2
      obtain ⟨b0, b1, b2, i0, i1, i2⟩ := KA.out
      obtain ⟨d0, d1, d2, j0, j1, j2⟩ := KB.out
      go_wp2_with fail
      have ne : w.heap.size + 1 ≠ w.heap.size := by omega
      have L1 := Lib.hid (KA.out.set0 (.int .i32 (poorC F d)))
      have L2 := Lib.hid (KB.out.far (b' := w.heap.size) (o := 0) (y := .int .i32 (poorC F d)) ne)
      have L3 := Lib.hid (KC.out.setCell (p := ⟨w.heap.size, 0, none⟩) (Nat.le_refl _) (.int .i32 (poorC F d)))
      clear b0 b1 b2 i0 i1 i2 d0 d1 d2 j0 j1 j2 KA KB KC ne
      refine (PK.out B B0.out _).mono ?_; rintro e' w3 ⟨rfl, hb2⟩
      have KA := Lib.hid (L1.out.keep hb2 L1.out.lt)
      have KB := Lib.hid (L2.out.keep hb2 L2.out.lt)
      have KC := Lib.hid (below_call L3.out L3.out.size hb2)
      clear hb2
      obtain ⟨b0, b1, b2, i0, i1, i2⟩ := KA.out
      obtain ⟨d0, d1, d2, j0, j1, j2⟩ := KB.out
      go_wp2_with fail
      refine bodyPost_ret (v := styV r.fg r.bg r.at_) (by rw [RF.out, RB.out, RA.out]; simp [results, Tryd.results15, go_sem, d0, d1, d2]) rfl ⟨rfl, ?_⟩
      repeat (first | with_reducible exact KC.out | refine Below.setCell ?_ (by first | exact Nat.le_refl _ | exact Nat.le_succ _) _)
  · have PK := fin 21 (fun c hc => (st_red1 c).gives.to (by unfold poorC; rw [if_neg (by omega), if_neg d1, if_neg d2]))
    have g3 : (d == 1) = false := by simpa using d1
    have g4 : (d == 2) = false := by simpa using d2
    clear d1 d2
    clear fin
    by_cases f0 : F = 0
    all_goals by_cases b0 : B = 0
    all_goals
      first | (have RF : Hid (r.fg = F) := Lib.hid (by rw [RF.out, f0, Z0.out])) | skip
      first | (have RB : Hid (r.bg = B) := Lib.hid (by rw [RB.out, b0, Z0.out])) | skip
      have F0 := Lib.hid f0
      have B0 := Lib.hid b0
      first | (have g1 : (F != 0) = true := by rw [bne_iff_ne]; exact f0) | (have g1 : (F != 0) = false := by rw [f0]; rfl)
      first | (have g2 : (B != 0) = true := by rw [bne_iff_ne]; exact b0) | (have g2 : (B != 0) = false := by rw [b0]; rfl)
      clear f0 b0
      go_enter Tryd.func15, Tryd.ntmps15
      go_wp2_with fail
      refine (C0.out _).mono ?_; rintro e w1 ⟨rfl, hb1⟩
      have q1 : C3 w1 w.heap.size (.int .i32 s.fg) (.int .i32 s.bg) (.int .u8 (bI s.at_)) := C3.keep (by constructor <;> simp [go_sem]) hb1 (by simp; omega)
      have q2 : C3 w1 (w.heap.size + 1) (.int .i32 0) (.int .i32 0) (.int .u8 0) := C3.keep (by constructor <;> simp [go_sem]) hb1 (by simp)
      have hB1 : Below w.heap.size w w1 := below_call (by go_grown) (by simp; omega) hb1
      clear hb1
      have ne : w.heap.size + 1 ≠ w.heap.size := by omega
      have Q1 := Lib.hid (q1.put (.int .i32 F) (.int .i32 B) (.int .u8 (bI s.at_)))
      have Q2 := Lib.hid (((q2.far (b' := w.heap.size) (o := 0) (y := .int .i32 F) ne).far (b' := w.heap.size) (o := 1) (y := .int .i32 B) ne).far (b' := w.heap.size) (o := 2) (y := .int .u8 (bI s.at_)) ne)
      have HB := Lib.hid (below_put3 hB1 (Nat.le_refl _) (.int .i32 F) (.int .i32 B) (.int .u8 (bI s.at_)))
      obtain ⟨a0, a1, a2, f0, f1, f2⟩ := q1
      obtain ⟨z0, z1, z2, y0, y1, y2⟩ := q2
      clear hB1 ne
      go_wp2_with fail
    · refine bodyPost_ret (v := styV r.fg r.bg r.at_) (by rw [RF.out, RB.out, RA.out]; simp [results, Tryd.results15, go_sem, z0, z1, z2]) rfl ⟨rfl, ?_⟩
      repeat (first | with_reducible exact HB.out | refine Below.setCell ?_ (by first | exact Nat.le_refl _ | exact Nat.le_succ _) _)
    · refine (PK.out B B0.out _).mono ?_; rintro e' w2 ⟨rfl, hb2⟩
      have KA := Lib.hid (Q1.out.keep hb2 Q1.out.lt)
      have KB := Lib.hid (Q2.out.keep hb2 Q2.out.lt)
      have KC := Lib.hid (below_call HB.out HB.out.size hb2)
      clear hb2
      obtain ⟨b0, b1, b2, i0, i1, i2⟩ := KA.out
      obtain ⟨d0, d1, d2, j0, j1, j2⟩ := KB.out
      go_wp2_with fail
      refine bodyPost_ret (v := styV r.fg r.bg r.at_) (by rw [RF.out, RB.out, RA.out]; simp [results, Tryd.results15, go_sem, d0, d1, d2]) rfl ⟨rfl, ?_⟩
      repeat (first | with_reducible exact KC.out | refine Below.setCell ?_ (by first | exact Nat.le_refl _ | exact Nat.le_succ _) _)
    · refine (PK.out F F0.out _).mono ?_; rintro e' w2 ⟨rfl, hb2⟩
      have KA := Lib.hid (Q1.out.keep hb2 Q1.out.lt)
      have KB := Lib.hid (Q2.out.keep hb2 Q2.out.lt)
      have KC := Lib.hid (below_call HB.out HB.out.size hb2)
      clear hb2
      obtain ⟨b0, b1, b2, i0, i1, i2⟩ := KA.out
      obtain ⟨d0, d1, d2, j0, j1, j2⟩ := KB.out
      go_wp2_with fail
      refine bodyPost_ret (v := styV r.fg r.bg r.at_) (by rw [RF.out, RB.out, RA.out]; simp [results, Tryd.results15, go_sem, d0, d1, d2]) rfl ⟨rfl, ?_⟩
      repeat (first | with_reducible exact KC.out | refine Below.setCell ?_ (by first | exact Nat.le_refl _ | exact Nat.le_succ _) _)
    · refine (PK.out F F0.out _).mono ?_; rintro e' w2 ⟨rfl, hb2⟩
      have KA := Lib.hid (Q1.out.keep hb2 Q1.out.lt)
      have KB := Lib.hid (Q2.out.keep hb2 Q2.out.lt)
      have KC := Lib.hid (below_call HB.out HB.out.size hb2)
      clear hb2
      obtain ⟨b0, b1, b2, i0, i1, i2⟩ := KA.out
      obtain ⟨d0, d1, d2, j0, j1, j2⟩ := KB.out
      go_wp2_with fail
      have ne : w.heap.size + 1 ≠ w.heap.size := by omega
      have L1 := Lib.hid (KA.out.set0 (.int .i32 (poorC F d)))
      have L2 := Lib.hid (KB.out.far (b' := w.heap.size) (o := 0) (y := .int .i32 (poorC F d)) ne)
      have L3 := Lib.hid (KC.out.setCell (p := ⟨w.heap.size, 0, none⟩) (Nat.le_refl _) (.int .i32 (poorC F d)))
      clear b0 b1 b2 i0 i1 i2 d0 d1 d2 j0 j1 j2 KA KB KC ne
      refine (PK.out B B0.out _).mono ?_; rintro e' w3 ⟨rfl, hb2⟩
      have KA := Lib.hid (L1.out.keep hb2 L1.out.lt)
      have KB := Lib.hid (L2.out.keep hb2 L2.out.lt)
      have KC := Lib.hid (below_call L3.out L3.out.size hb2)
      clear hb2
      obtain ⟨b0, b1, b2, i0, i1, i2⟩ := KA.out
      obtain ⟨d0, d1, d2, j0, j1, j2⟩ := KB.out
      go_wp2_with fail
      refine bodyPost_ret (v := styV r.fg r.bg r.at_) (by rw [RF.out, RB.out, RA.out]; simp [results, Tryd.results15, go_sem, d0, d1, d2]) rfl ⟨rfl, ?_⟩
      repeat (first | with_reducible exact KC.out | refine Below.setCell ?_ (by first | exact Nat.le_refl _ | exact Nat.le_succ _) _)
end Go.Proofs.YtkllilehdpdbdaaDoor
