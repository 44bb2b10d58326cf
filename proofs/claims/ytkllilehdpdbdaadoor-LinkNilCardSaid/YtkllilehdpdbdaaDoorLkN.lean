/- LinkNil: what a link does with two frames of one cell each; and a link that isn't there. -/
import Derived.Test.YtkllilehdpdbdaaDoorLkA
namespace Go.Proofs.YtkllilehdpdbdaaDoor
open Go Go.RowKit Go.Sort
set_option linter.unusedVariables false
set_option linter.unusedSimpArgs false

def sgS (s : ByteArray) : Scr := ⟨1, 1, [⟨s, 1, plainS⟩], 0, 0, false⟩
set_option maxHeartbeats 4000000 in
set_option maxRecDepth 100000 in
theorem lk_single (s : ByteArray) (hs : s.size ≤ 100) (w : World) : Calls Tryd.prog 13 #[.string s] w fun e w' => ∃ A c, e = .returned (scrV (sgS s) A c) ∧ ScrAt w' w'.heap.size (sgS s) A c ∧ Below w.heap.size w w' := by
  have O2 := own_next (w := w) (vs := [.int .i64 1, .int .i64 1, .slice (some ⟨w.heap.size + 1, 0, none⟩) 1 1, .int .i64 0, .int .i64 0, .bool false]) (us := [.string s, .int .i8 1, .int .i32 0, .int .i32 0, .int .u8 0]) (S := 24) (T := 51)
  have B0 : Below w.heap.size w ((w.alloc (.cells #[.int .i64 1, .int .i64 1, .slice (some ⟨w.heap.size + 1, 0, none⟩) 1 1, .int .i64 0, .int .i64 0, .bool false] 24)).alloc (.cells #[.string s, .int .i8 1, .int .i32 0, .int .i32 0, .int .u8 0] 51)) := ((Below.refl _ w).alloc (Nat.le_refl _) _).alloc (by simp) _
  have O1 : Own1 ((w.alloc (.cells #[.int .i64 1, .int .i64 1, .slice (some ⟨w.heap.size + 1, 0, none⟩) 1 1, .int .i64 0, .int .i64 0, .bool false] 24)).alloc (.cells #[.string s, .int .i8 1, .int .i32 0, .int .i32 0, .int .u8 0] 51)) w.heap.size [.int .i64 1, .int .i64 1, .slice (some ⟨w.heap.size + 1, 0, none⟩) 1 1, .int .i64 0, .int .i64 0, .bool false] 24 := Own1.below (World.alloc_heap_new w _) ((Below.refl _ _).alloc (Nat.le_refl _) _)
  have k0 := O1.blk.c 0 _ rfl
  have k1 := O1.blk.c 1 _ rfl
  have k2 := O1.blk.c 2 _ rfl
  have k3 := O1.blk.c 3 _ rfl
  have k4 := O1.blk.c 4 _ rfl
  have k5 := O1.blk.c 5 _ rfl
  have OH2 := Lib.hid O2
  have BH := Lib.hid B0
  clear O1 O2 B0
  go_enter Tryd.func13, Tryd.ntmps13
  go_wp2_with fail
  refine bodyPost_ret (v := .agg #[.int .i64 1, .int .i64 1, .slice (some ⟨w.heap.size + 1, 0, none⟩) 1 1, .int .i64 0, .int .i64 0, .bool false]) (by simp [results, Tryd.results13, go_sem, k0, k1, k2, k3, k4, k5]) rfl ?_
  refine ⟨some ⟨w.heap.size + 1, 0, none⟩, 1, rfl, ⟨Nat.le_refl _, (fun e => by cases e), (by show (1 : Nat) ≤ 1000000000000; omega), ?_, ?_⟩, BH.out⟩
  · intro x hx
    rcases List.mem_singleton.1 hx with rfl
    exact ⟨by show s.size ≤ _; omega, by show (-128 : Int) ≤ 1; omega, by show (1 : Int) ≤ 127; omega⟩
  · intro _
    refine ⟨_, rfl, by have := OH2.out.lt; exact this, fun j u hj => ?_⟩
    have := OH2.out.blk.c j u hj
    rw [show (⟨w.heap.size + 1, 0, none⟩ : Addr).add j = ⟨w.heap.size + 1, j, none⟩ by unfold Addr.add; split <;> simp_all]
    exact this

def bA : ByteArray := ⟨#[97]⟩
def bB : ByteArray := ⟨#[98]⟩
def sA : Scr := redS (sgS bA) 3
def sB : Scr := redS (sgS bB) 3
def xA : Wri := frameW (wri0 3) sA
def xB : Wri := frameW xA sB
theorem wo_r1 : rightS (sgS bA) = true := by decide +kernel
theorem wo_r2 : rightS (sgS bB) = true := by decide +kernel
theorem wo_r3 : rightS sA = true := by decide +kernel
theorem wo_r4 : rightS sB = true := by decide +kernel
theorem wo_t1 : totS sA.cells ≤ 1000000000 := by decide +kernel
theorem wo_t2 : totS sB.cells ≤ 1000000000 := by decide +kernel
theorem wo_n1 : (frameT (wri0 3) (redS sA (wri0 3).depth)).out.size = 23 := by decide +kernel
theorem wo_n2 : (frameT xA (redS sB xA.depth)).out.size = 7 := by decide +kernel

set_option maxHeartbeats 4000000 in
set_option maxRecDepth 100000 in
theorem law_works (w : World) (E : EnvD w) : Calls Tryd.prog 9 #[] w fun e w' => e = .returned (.bool true) ∧ Below w.heap.size w w' := by
  have NW := Lib.hid (lk_New 3 5 rfl (by decide) (by decide) w E)
  clear E
  go_enter Tryd.func9, Tryd.ntmps9
  go_wp2_with fail
  refine NW.out.mono ?_; rintro e w1 ⟨rfl, h1⟩
  obtain ⟨b, hb⟩ : ∃ b, b = w.heap.size := ⟨_, rfl⟩
  obtain ⟨lb, hlb⟩ : ∃ lb, lb = w.heap.size + 1 := ⟨_, rfl⟩
  rw [← hlb, ← hb] at h1
  rw [← hlb]
  have L1 := Lib.hid h1
  clear h1 hb hlb NW
  go_wp2_with fail
  refine (lk_single bA (by decide) _).mono ?_; rintro e w2 ⟨A, c, rfl, sc, hb2⟩
  have SC := Lib.hid sc
  have L2 := Lib.hid (L1.out.below hb2)
  clear sc hb2 L1
  go_wp2_with fail
  refine (lk_Offer L2.out (sgS bA) A c SC.out wo_r1 wo_r3 wo_t1 23 wo_n1 (by decide) (by decide)).mono ?_
  rintro e w3 (⟨_, A3, c3, rfl, l3⟩ | ⟨h, _⟩)
  rotate_left
  · exact absurd h (by decide)
  have L3 : Hid (LkAt w b lb xA 3 5 23 none w3) := Lib.hid l3
  clear l3 L2 SC
  go_wp2_with fail
  refine (lk_single bB (by decide) _).mono ?_; rintro e w4 ⟨A, c, rfl, sc, hb4⟩
  have SC := Lib.hid sc
  have L4 := Lib.hid (L3.out.below hb4)
  clear sc hb4 L3
  go_wp2_with fail
  refine (lk_Offer L4.out (sgS bB) A c SC.out wo_r2 wo_r4 wo_t2 7 wo_n2 (by decide) (by decide)).mono ?_
  rintro e w5 (⟨h, _⟩ | ⟨_, rfl, p, l5, wt5⟩)
  · exact absurd h (by decide)
  have L5 := Lib.hid l5
  have W5 : Hid (Wtg p sB w5) := Lib.hid wt5
  have Q1 := Lib.hid (lk_Waits l5)
  have Q2 := Lib.hid (lk_Owed l5)
  clear l5 wt5 L4 SC
  go_wp2_with fail
  refine Q1.out.mono ?_; rintro e w6 ⟨rfl, rfl⟩
  go_wp2_with fail
  refine Q2.out.mono ?_; rintro e w7 ⟨rfl, rfl⟩
  go_wp2_with fail
  refine (lk_Ack (k := 23) L5.out sB W5.out wo_r4 wo_t2 7 wo_n2 (by decide) (by decide) (by decide) (by decide) (by decide)).mono ?_
  rintro e w8 ⟨A8, c8, rfl, l8⟩
  have l8 : LkAt w b lb xB 3 5 7 none w8 := l8
  have L8 := Lib.hid l8
  have Q1 := Lib.hid (lk_Waits l8)
  have Q2 := Lib.hid (lk_Owed l8)
  clear l8 L5 W5
  go_wp2_with fail
  refine Q1.out.mono ?_; rintro e w9 ⟨rfl, rfl⟩
  go_wp2_with fail
  refine Q2.out.mono ?_; rintro e wa ⟨rfl, rfl⟩
  go_wp2_with fail
  go_ret
  exact ⟨rfl, L8.out.wk.bel⟩

set_option maxHeartbeats 4000000 in
set_option maxRecDepth 100000 in
theorem linkNil_walk (s : Scr) (A : Option Addr) (c : Nat) (k : Int) (w : World) (E : EnvD w) : Calls Tryd.prog 3 #[scrV s A c, .int .i64 k] w fun e w' => e = .returned (.bool true) ∧ Below w.heap.size w w' := by
  obtain ⟨Q, hQ⟩ : ∃ Q, Q = w.alloc (.cells #[.int .i64 s.w, .int .i64 s.h, .slice A s.cells.length c, .int .i64 s.x, .int .i64 s.y, .bool s.shown] 24) := ⟨_, rfl⟩
  have BQ : Below w.heap.size w Q := by rw [hQ]; exact (Below.refl _ w).alloc (Nat.le_refl _) _
  have KS : Blk Q w.heap.size [.int .i64 s.w, .int .i64 s.h, .slice A s.cells.length c, .int .i64 s.x, .int .i64 s.y, .bool s.shown] := by rw [hQ]; exact Blk.new w _ _
  have OF := Lib.hid (lk_Offer_nil s A c Q)
  have EH := Lib.hid (E.of_below BQ (Nat.le_refl _))
  have BH := Lib.hid BQ
  have s0 := KS.c 0 _ rfl
  have s1 := KS.c 1 _ rfl
  have s2 := KS.c 2 _ rfl
  have s3 := KS.c 3 _ rfl
  have s4 := KS.c 4 _ rfl
  have s5 := KS.c 5 _ rfl
  simp only [scrV] at OF ⊢
  generalize s.cells.length = m at *
  clear KS BQ E
  go_enter Tryd.func3, Tryd.ntmps3
  go_upto_region 1 with fail
  rw [← hQ]
  clear hQ
  go_wp2_with fail
  refine OF.out.mono ?_; rintro e w1 ⟨rfl, hb1⟩
  have E1 := Lib.hid (EH.out.of_below hb1 (Nat.le_refl _))
  have B1 := Lib.hid (BH.out.trans (hb1.mono BH.out.size))
  clear hb1 OF EH BH s0 s1 s2 s3 s4 s5
  go_wp2_with fail
  refine (lk_Ack_nil k w1).mono ?_; rintro e w2 ⟨rfl, rfl⟩
  go_wp2_with fail
  refine (lk_Owed_nil w2).mono ?_; rintro e w3 ⟨rfl, rfl⟩
  go_wp2_with fail
  refine (lk_Waits_nil w3).mono ?_; rintro e w4 ⟨rfl, rfl⟩
  go_wp2_with fail
  refine (lk_Close_nil w4).mono ?_; rintro e w5 ⟨rfl, rfl⟩
  go_wp2_with fail
  refine (law_works w5 E1.out).mono ?_; rintro e w6 ⟨rfl, hb6⟩
  have B6 := Lib.hid (B1.out.trans (hb6.mono B1.out.size))
  clear hb6
  go_wp2_with fail
  go_ret
  exact ⟨rfl, B6.out⟩
end Go.Proofs.YtkllilehdpdbdaaDoor
