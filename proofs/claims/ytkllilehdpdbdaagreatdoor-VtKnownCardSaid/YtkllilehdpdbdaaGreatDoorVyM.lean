/- VtKnown: the walk. (Written by gen_vtknown.py.) -/
import Derived.Test.YtkllilehdpdbdaaGreatDoorVyL
import Derived.Test.YtkllilehdpdbdaaGreatDoorVyK
namespace Go.Proofs.YtkllilehdpdbdaaGreatDoor
open Go Go.RowKit Go.Sort
set_option linter.unusedVariables false
set_option linter.unusedSimpArgs false
section
def kB0 : ByteArray := ⟨#[97, 98, 99, 100, 101, 102]⟩
def kT0 : Trm := feedT (newV 5 3) (byL kB0)
theorem kT0_seen : kT0.w = 5 ∧ kT0.h = 3 ∧ kT0.cur.x = 1 ∧ kT0.cur.y = 1 ∧ kT0.shown = true := by decide +kernel
theorem kT0_len : kT0.cells.length = 15 := by decide +kernel
theorem kT0_row0 : textsF kT0.cells 0 5 = ⟨#[97, 98, 99, 100, 101]⟩ := by decide +kernel
theorem kT0_row1 : textsF kT0.cells 5 5 = ⟨#[102, 32, 32, 32, 32]⟩ := by decide +kernel
theorem kT0_texts : ∀ c ∈ kT0.cells, c.text.size ≤ 1000 := by
  have h : kT0.cells.all (fun x => decide (x.text.size ≤ 1000)) = true := by decide +kernel
  intro x m
  simpa using List.all_eq_true.1 h x m
theorem kT0_scr : seenT kT0 = ⟨5, 3, kT0.cells, 1, 1, true⟩ := by
  obtain ⟨a, b, c, d, e⟩ := kT0_seen
  unfold seenT
  rw [a, b, c, d, e]
  rfl
theorem k_shows0 (W : World) (E : EnvV W) : Calls Tryz.prog 18 #[.string ⟨#[97, 98, 99, 100, 101, 102]⟩, .string ⟨#[97, 98, 99, 100, 101]⟩, .string ⟨#[102, 32, 32, 32, 32]⟩, .int .i64 1, .int .i64 1] W fun e w' => e = .returned (.bool true) ∧ Below W.heap.size W w' :=
  law_shows kB0 _ _ 1 1 true kT0 rfl (by decide) kT0_scr kT0_len kT0_row0 kT0_row1 kT0_texts W E
def kB1 : ByteArray := ⟨#[97, 98, 99, 100, 101, 27, 91, 65, 102]⟩
def kT1 : Trm := feedT (newV 5 3) (byL kB1)
theorem kT1_seen : kT1.w = 5 ∧ kT1.h = 3 ∧ kT1.cur.x = 4 ∧ kT1.cur.y = 0 ∧ kT1.shown = true := by decide +kernel
theorem kT1_len : kT1.cells.length = 15 := by decide +kernel
theorem kT1_row0 : textsF kT1.cells 0 5 = ⟨#[97, 98, 99, 100, 102]⟩ := by decide +kernel
theorem kT1_row1 : textsF kT1.cells 5 5 = ⟨#[32, 32, 32, 32, 32]⟩ := by decide +kernel
theorem kT1_texts : ∀ c ∈ kT1.cells, c.text.size ≤ 1000 := by
  have h : kT1.cells.all (fun x => decide (x.text.size ≤ 1000)) = true := by decide +kernel
  intro x m
  simpa using List.all_eq_true.1 h x m
theorem kT1_scr : seenT kT1 = ⟨5, 3, kT1.cells, 4, 0, true⟩ := by
  obtain ⟨a, b, c, d, e⟩ := kT1_seen
  unfold seenT
  rw [a, b, c, d, e]
  rfl
theorem k_shows1 (W : World) (E : EnvV W) : Calls Tryz.prog 18 #[.string ⟨#[97, 98, 99, 100, 101, 27, 91, 65, 102]⟩, .string ⟨#[97, 98, 99, 100, 102]⟩, .string ⟨#[32, 32, 32, 32, 32]⟩, .int .i64 4, .int .i64 0] W fun e w' => e = .returned (.bool true) ∧ Below W.heap.size W w' :=
  law_shows kB1 _ _ 4 0 true kT1 rfl (by decide) kT1_scr kT1_len kT1_row0 kT1_row1 kT1_texts W E
def kB2 : ByteArray := ⟨#[27, 91, 63, 55, 108, 97, 98, 99, 100, 101, 102]⟩
def kT2 : Trm := feedT (newV 5 3) (byL kB2)
theorem kT2_seen : kT2.w = 5 ∧ kT2.h = 3 ∧ kT2.cur.x = 4 ∧ kT2.cur.y = 0 ∧ kT2.shown = true := by decide +kernel
theorem kT2_len : kT2.cells.length = 15 := by decide +kernel
theorem kT2_row0 : textsF kT2.cells 0 5 = ⟨#[97, 98, 99, 100, 102]⟩ := by decide +kernel
theorem kT2_row1 : textsF kT2.cells 5 5 = ⟨#[32, 32, 32, 32, 32]⟩ := by decide +kernel
theorem kT2_texts : ∀ c ∈ kT2.cells, c.text.size ≤ 1000 := by
  have h : kT2.cells.all (fun x => decide (x.text.size ≤ 1000)) = true := by decide +kernel
  intro x m
  simpa using List.all_eq_true.1 h x m
theorem kT2_scr : seenT kT2 = ⟨5, 3, kT2.cells, 4, 0, true⟩ := by
  obtain ⟨a, b, c, d, e⟩ := kT2_seen
  unfold seenT
  rw [a, b, c, d, e]
  rfl
theorem k_shows2 (W : World) (E : EnvV W) : Calls Tryz.prog 18 #[.string ⟨#[27, 91, 63, 55, 108, 97, 98, 99, 100, 101, 102]⟩, .string ⟨#[97, 98, 99, 100, 102]⟩, .string ⟨#[32, 32, 32, 32, 32]⟩, .int .i64 4, .int .i64 0] W fun e w' => e = .returned (.bool true) ∧ Below W.heap.size W w' :=
  law_shows kB2 _ _ 4 0 true kT2 rfl (by decide) kT2_scr kT2_len kT2_row0 kT2_row1 kT2_texts W E
def kB3 : ByteArray := ⟨#[228, 184, 150, 27, 91, 68, 120]⟩
def kT3 : Trm := feedT (newV 5 3) (byL kB3)
theorem kT3_seen : kT3.w = 5 ∧ kT3.h = 3 ∧ kT3.cur.x = 2 ∧ kT3.cur.y = 0 ∧ kT3.shown = true := by decide +kernel
theorem kT3_len : kT3.cells.length = 15 := by decide +kernel
theorem kT3_row0 : textsF kT3.cells 0 5 = ⟨#[32, 120, 32, 32, 32]⟩ := by decide +kernel
theorem kT3_row1 : textsF kT3.cells 5 5 = ⟨#[32, 32, 32, 32, 32]⟩ := by decide +kernel
theorem kT3_texts : ∀ c ∈ kT3.cells, c.text.size ≤ 1000 := by
  have h : kT3.cells.all (fun x => decide (x.text.size ≤ 1000)) = true := by decide +kernel
  intro x m
  simpa using List.all_eq_true.1 h x m
theorem kT3_scr : seenT kT3 = ⟨5, 3, kT3.cells, 2, 0, true⟩ := by
  obtain ⟨a, b, c, d, e⟩ := kT3_seen
  unfold seenT
  rw [a, b, c, d, e]
  rfl
theorem k_shows3 (W : World) (E : EnvV W) : Calls Tryz.prog 18 #[.string ⟨#[228, 184, 150, 27, 91, 68, 120]⟩, .string ⟨#[32, 120, 32, 32, 32]⟩, .string ⟨#[32, 32, 32, 32, 32]⟩, .int .i64 2, .int .i64 0] W fun e w' => e = .returned (.bool true) ∧ Below W.heap.size W w' :=
  law_shows kB3 _ _ 2 0 true kT3 rfl (by decide) kT3_scr kT3_len kT3_row0 kT3_row1 kT3_texts W E
def kB4 : ByteArray := ⟨#[97, 98, 99, 100, 228, 184, 150]⟩
def kT4 : Trm := feedT (newV 5 3) (byL kB4)
theorem kT4_seen : kT4.w = 5 ∧ kT4.h = 3 ∧ kT4.cur.x = 2 ∧ kT4.cur.y = 1 ∧ kT4.shown = true := by decide +kernel
theorem kT4_len : kT4.cells.length = 15 := by decide +kernel
theorem kT4_row0 : textsF kT4.cells 0 5 = ⟨#[97, 98, 99, 100, 32]⟩ := by decide +kernel
theorem kT4_row1 : textsF kT4.cells 5 5 = ⟨#[228, 184, 150, 32, 32, 32]⟩ := by decide +kernel
theorem kT4_texts : ∀ c ∈ kT4.cells, c.text.size ≤ 1000 := by
  have h : kT4.cells.all (fun x => decide (x.text.size ≤ 1000)) = true := by decide +kernel
  intro x m
  simpa using List.all_eq_true.1 h x m
theorem kT4_scr : seenT kT4 = ⟨5, 3, kT4.cells, 2, 1, true⟩ := by
  obtain ⟨a, b, c, d, e⟩ := kT4_seen
  unfold seenT
  rw [a, b, c, d, e]
  rfl
theorem k_shows4 (W : World) (E : EnvV W) : Calls Tryz.prog 18 #[.string ⟨#[97, 98, 99, 100, 228, 184, 150]⟩, .string ⟨#[97, 98, 99, 100, 32]⟩, .string ⟨#[228, 184, 150, 32, 32, 32]⟩, .int .i64 2, .int .i64 1] W fun e w' => e = .returned (.bool true) ∧ Below W.heap.size W w' :=
  law_shows kB4 _ _ 2 1 true kT4 rfl (by decide) kT4_scr kT4_len kT4_row0 kT4_row1 kT4_texts W E
def kB5 : ByteArray := ⟨#[97, 204, 129, 204, 129]⟩
def kT5 : Trm := feedT (newV 5 3) (byL kB5)
theorem kT5_seen : kT5.w = 5 ∧ kT5.h = 3 ∧ kT5.cur.x = 1 ∧ kT5.cur.y = 0 ∧ kT5.shown = true := by decide +kernel
theorem kT5_len : kT5.cells.length = 15 := by decide +kernel
theorem kT5_row0 : textsF kT5.cells 0 5 = ⟨#[97, 204, 129, 204, 129, 32, 32, 32, 32]⟩ := by decide +kernel
theorem kT5_row1 : textsF kT5.cells 5 5 = ⟨#[32, 32, 32, 32, 32]⟩ := by decide +kernel
theorem kT5_texts : ∀ c ∈ kT5.cells, c.text.size ≤ 1000 := by
  have h : kT5.cells.all (fun x => decide (x.text.size ≤ 1000)) = true := by decide +kernel
  intro x m
  simpa using List.all_eq_true.1 h x m
theorem kT5_scr : seenT kT5 = ⟨5, 3, kT5.cells, 1, 0, true⟩ := by
  obtain ⟨a, b, c, d, e⟩ := kT5_seen
  unfold seenT
  rw [a, b, c, d, e]
  rfl
theorem k_shows5 (W : World) (E : EnvV W) : Calls Tryz.prog 18 #[.string ⟨#[97, 204, 129, 204, 129]⟩, .string ⟨#[97, 204, 129, 204, 129, 32, 32, 32, 32]⟩, .string ⟨#[32, 32, 32, 32, 32]⟩, .int .i64 1, .int .i64 0] W fun e w' => e = .returned (.bool true) ∧ Below W.heap.size W w' :=
  law_shows kB5 _ _ 1 0 true kT5 rfl (by decide) kT5_scr kT5_len kT5_row0 kT5_row1 kT5_texts W E
def kB6 : ByteArray := ⟨#[97, 27, 91, 109, 204, 129]⟩
def kT6 : Trm := feedT (newV 5 3) (byL kB6)
theorem kT6_seen : kT6.w = 5 ∧ kT6.h = 3 ∧ kT6.cur.x = 1 ∧ kT6.cur.y = 0 ∧ kT6.shown = true := by decide +kernel
theorem kT6_len : kT6.cells.length = 15 := by decide +kernel
theorem kT6_row0 : textsF kT6.cells 0 5 = ⟨#[97, 32, 32, 32, 32]⟩ := by decide +kernel
theorem kT6_row1 : textsF kT6.cells 5 5 = ⟨#[32, 32, 32, 32, 32]⟩ := by decide +kernel
theorem kT6_texts : ∀ c ∈ kT6.cells, c.text.size ≤ 1000 := by
  have h : kT6.cells.all (fun x => decide (x.text.size ≤ 1000)) = true := by decide +kernel
  intro x m
  simpa using List.all_eq_true.1 h x m
theorem kT6_scr : seenT kT6 = ⟨5, 3, kT6.cells, 1, 0, true⟩ := by
  obtain ⟨a, b, c, d, e⟩ := kT6_seen
  unfold seenT
  rw [a, b, c, d, e]
  rfl
theorem k_shows6 (W : World) (E : EnvV W) : Calls Tryz.prog 18 #[.string ⟨#[97, 27, 91, 109, 204, 129]⟩, .string ⟨#[97, 32, 32, 32, 32]⟩, .string ⟨#[32, 32, 32, 32, 32]⟩, .int .i64 1, .int .i64 0] W fun e w' => e = .returned (.bool true) ∧ Below W.heap.size W w' :=
  law_shows kB6 _ _ 1 0 true kT6 rfl (by decide) kT6_scr kT6_len kT6_row0 kT6_row1 kT6_texts W E
def kB7 : ByteArray := ⟨#[226, 152, 128, 239, 184, 143, 98]⟩
def kT7 : Trm := feedT (newV 5 3) (byL kB7)
theorem kT7_seen : kT7.w = 5 ∧ kT7.h = 3 ∧ kT7.cur.x = 3 ∧ kT7.cur.y = 0 ∧ kT7.shown = true := by decide +kernel
theorem kT7_len : kT7.cells.length = 15 := by decide +kernel
theorem kT7_row0 : textsF kT7.cells 0 5 = ⟨#[226, 152, 128, 239, 184, 143, 98, 32, 32]⟩ := by decide +kernel
theorem kT7_row1 : textsF kT7.cells 5 5 = ⟨#[32, 32, 32, 32, 32]⟩ := by decide +kernel
theorem kT7_texts : ∀ c ∈ kT7.cells, c.text.size ≤ 1000 := by
  have h : kT7.cells.all (fun x => decide (x.text.size ≤ 1000)) = true := by decide +kernel
  intro x m
  simpa using List.all_eq_true.1 h x m
theorem kT7_scr : seenT kT7 = ⟨5, 3, kT7.cells, 3, 0, true⟩ := by
  obtain ⟨a, b, c, d, e⟩ := kT7_seen
  unfold seenT
  rw [a, b, c, d, e]
  rfl
theorem k_shows7 (W : World) (E : EnvV W) : Calls Tryz.prog 18 #[.string ⟨#[226, 152, 128, 239, 184, 143, 98]⟩, .string ⟨#[226, 152, 128, 239, 184, 143, 98, 32, 32]⟩, .string ⟨#[32, 32, 32, 32, 32]⟩, .int .i64 3, .int .i64 0] W fun e w' => e = .returned (.bool true) ∧ Below W.heap.size W w' :=
  law_shows kB7 _ _ 3 0 true kT7 rfl (by decide) kT7_scr kT7_len kT7_row0 kT7_row1 kT7_texts W E
def kB8 : ByteArray := ⟨#[27, 91, 50, 59, 51, 114, 27, 91, 51, 59, 49, 72, 120, 10]⟩
def kT8 : Trm := feedT (newV 5 3) (byL kB8)
theorem kT8_seen : kT8.w = 5 ∧ kT8.h = 3 ∧ kT8.cur.x = 1 ∧ kT8.cur.y = 2 ∧ kT8.shown = true := by decide +kernel
theorem kT8_len : kT8.cells.length = 15 := by decide +kernel
theorem kT8_row0 : textsF kT8.cells 0 5 = ⟨#[32, 32, 32, 32, 32]⟩ := by decide +kernel
theorem kT8_row1 : textsF kT8.cells 5 5 = ⟨#[120, 32, 32, 32, 32]⟩ := by decide +kernel
theorem kT8_texts : ∀ c ∈ kT8.cells, c.text.size ≤ 1000 := by
  have h : kT8.cells.all (fun x => decide (x.text.size ≤ 1000)) = true := by decide +kernel
  intro x m
  simpa using List.all_eq_true.1 h x m
theorem kT8_scr : seenT kT8 = ⟨5, 3, kT8.cells, 1, 2, true⟩ := by
  obtain ⟨a, b, c, d, e⟩ := kT8_seen
  unfold seenT
  rw [a, b, c, d, e]
  rfl
theorem k_shows8 (W : World) (E : EnvV W) : Calls Tryz.prog 18 #[.string ⟨#[27, 91, 50, 59, 51, 114, 27, 91, 51, 59, 49, 72, 120, 10]⟩, .string ⟨#[32, 32, 32, 32, 32]⟩, .string ⟨#[120, 32, 32, 32, 32]⟩, .int .i64 1, .int .i64 2] W fun e w' => e = .returned (.bool true) ∧ Below W.heap.size W w' :=
  law_shows kB8 _ _ 1 2 true kT8 rfl (by decide) kT8_scr kT8_len kT8_row0 kT8_row1 kT8_texts W E
def kB9 : ByteArray := ⟨#[97, 27, 91, 63, 49, 48, 52, 57, 104, 98, 27, 91, 63, 49, 48, 52, 57, 108]⟩
def kT9 : Trm := feedT (newV 5 3) (byL kB9)
theorem kT9_seen : kT9.w = 5 ∧ kT9.h = 3 ∧ kT9.cur.x = 1 ∧ kT9.cur.y = 0 ∧ kT9.shown = true := by decide +kernel
theorem kT9_len : kT9.cells.length = 15 := by decide +kernel
theorem kT9_row0 : textsF kT9.cells 0 5 = ⟨#[97, 32, 32, 32, 32]⟩ := by decide +kernel
theorem kT9_row1 : textsF kT9.cells 5 5 = ⟨#[32, 32, 32, 32, 32]⟩ := by decide +kernel
theorem kT9_texts : ∀ c ∈ kT9.cells, c.text.size ≤ 1000 := by
  have h : kT9.cells.all (fun x => decide (x.text.size ≤ 1000)) = true := by decide +kernel
  intro x m
  simpa using List.all_eq_true.1 h x m
theorem kT9_scr : seenT kT9 = ⟨5, 3, kT9.cells, 1, 0, true⟩ := by
  obtain ⟨a, b, c, d, e⟩ := kT9_seen
  unfold seenT
  rw [a, b, c, d, e]
  rfl
theorem k_shows9 (W : World) (E : EnvV W) : Calls Tryz.prog 18 #[.string ⟨#[97, 27, 91, 63, 49, 48, 52, 57, 104, 98, 27, 91, 63, 49, 48, 52, 57, 108]⟩, .string ⟨#[97, 32, 32, 32, 32]⟩, .string ⟨#[32, 32, 32, 32, 32]⟩, .int .i64 1, .int .i64 0] W fun e w' => e = .returned (.bool true) ∧ Below W.heap.size W w' :=
  law_shows kB9 _ _ 1 0 true kT9 rfl (by decide) kT9_scr kT9_len kT9_row0 kT9_row1 kT9_texts W E
def kB10 : ByteArray := ⟨#[27, 80, 97, 7, 98, 27, 92, 120]⟩
def kT10 : Trm := feedT (newV 5 3) (byL kB10)
theorem kT10_seen : kT10.w = 5 ∧ kT10.h = 3 ∧ kT10.cur.x = 1 ∧ kT10.cur.y = 0 ∧ kT10.shown = true := by decide +kernel
theorem kT10_len : kT10.cells.length = 15 := by decide +kernel
theorem kT10_row0 : textsF kT10.cells 0 5 = ⟨#[120, 32, 32, 32, 32]⟩ := by decide +kernel
theorem kT10_row1 : textsF kT10.cells 5 5 = ⟨#[32, 32, 32, 32, 32]⟩ := by decide +kernel
theorem kT10_texts : ∀ c ∈ kT10.cells, c.text.size ≤ 1000 := by
  have h : kT10.cells.all (fun x => decide (x.text.size ≤ 1000)) = true := by decide +kernel
  intro x m
  simpa using List.all_eq_true.1 h x m
theorem kT10_scr : seenT kT10 = ⟨5, 3, kT10.cells, 1, 0, true⟩ := by
  obtain ⟨a, b, c, d, e⟩ := kT10_seen
  unfold seenT
  rw [a, b, c, d, e]
  rfl
theorem k_shows10 (W : World) (E : EnvV W) : Calls Tryz.prog 18 #[.string ⟨#[27, 80, 97, 7, 98, 27, 92, 120]⟩, .string ⟨#[120, 32, 32, 32, 32]⟩, .string ⟨#[32, 32, 32, 32, 32]⟩, .int .i64 1, .int .i64 0] W fun e w' => e = .returned (.bool true) ∧ Below W.heap.size W w' :=
  law_shows kB10 _ _ 1 0 true kT10 rfl (by decide) kT10_scr kT10_len kT10_row0 kT10_row1 kT10_texts W E
set_option maxHeartbeats 8000000 in
set_option maxRecDepth 100000 in
theorem vtKnown_walk (w0 : World) (E0 : EnvV w0) : Calls Tryz.prog 4 #[] w0 fun e w' => e = .returned (.bool true) ∧ Below w0.heap.size w0 w' := by
  have B0 := Lib.hid (Below.refl w0.heap.size w0)
  have E := Lib.hid E0
  have EW : Hid (∀ W, Below w0.heap.size w0 W → EnvV W) := Lib.hid (fun W hb => E0.mv (Mv.below (F := []) hb) (by simp))
  clear E0
  go_enter Tryz.func4, Tryz.ntmps4
  go_wp2_with fail
  refine (k_shows0 _ (EW.out _ B0.out)).mono ?_; rintro e w1 ⟨rfl, hb⟩
  have B1 := Lib.hid (B0.out.trans (hb.mono B0.out.size))
  clear hb B0
  go_wp2_with fail
  refine (k_shows1 _ (EW.out _ B1.out)).mono ?_; rintro e w2 ⟨rfl, hb⟩
  have B2 := Lib.hid (B1.out.trans (hb.mono B1.out.size))
  clear hb B1
  go_wp2_with fail
  refine (k_shows2 _ (EW.out _ B2.out)).mono ?_; rintro e w3 ⟨rfl, hb⟩
  have B3 := Lib.hid (B2.out.trans (hb.mono B2.out.size))
  clear hb B2
  go_wp2_with fail
  refine (k_shows3 _ (EW.out _ B3.out)).mono ?_; rintro e w4 ⟨rfl, hb⟩
  have B4 := Lib.hid (B3.out.trans (hb.mono B3.out.size))
  clear hb B3
  go_wp2_with fail
  refine (k_shows4 _ (EW.out _ B4.out)).mono ?_; rintro e w5 ⟨rfl, hb⟩
  have B5 := Lib.hid (B4.out.trans (hb.mono B4.out.size))
  clear hb B4
  go_wp2_with fail
  refine (k_shows5 _ (EW.out _ B5.out)).mono ?_; rintro e w6 ⟨rfl, hb⟩
  have B6 := Lib.hid (B5.out.trans (hb.mono B5.out.size))
  clear hb B5
  go_wp2_with fail
  refine (k_shows6 _ (EW.out _ B6.out)).mono ?_; rintro e w7 ⟨rfl, hb⟩
  have B7 := Lib.hid (B6.out.trans (hb.mono B6.out.size))
  clear hb B6
  go_wp2_with fail
  refine (k_shows7 _ (EW.out _ B7.out)).mono ?_; rintro e w8 ⟨rfl, hb⟩
  have B8 := Lib.hid (B7.out.trans (hb.mono B7.out.size))
  clear hb B7
  go_wp2_with fail
  refine (k_shows8 _ (EW.out _ B8.out)).mono ?_; rintro e w9 ⟨rfl, hb⟩
  have B9 := Lib.hid (B8.out.trans (hb.mono B8.out.size))
  clear hb B8
  go_wp2_with fail
  refine (k_shows9 _ (EW.out _ B9.out)).mono ?_; rintro e w10 ⟨rfl, hb⟩
  have B10 := Lib.hid (B9.out.trans (hb.mono B9.out.size))
  clear hb B9
  go_wp2_with fail
  refine (k_shows10 _ (EW.out _ B10.out)).mono ?_; rintro e w11 ⟨rfl, hb⟩
  have B11 := Lib.hid (B10.out.trans (hb.mono B10.out.size))
  clear hb B10
  go_wp2_with fail
  refine (law_works _ (EW.out _ B11.out)).mono ?_; rintro e w12 ⟨rfl, hb⟩
  have B12 := Lib.hid (B11.out.trans (hb.mono B11.out.size))
  clear hb B11
  go_wp2_with fail
  go_ret
  exact ⟨rfl, B12.out⟩
end
end Go.Proofs.YtkllilehdpdbdaaGreatDoor
