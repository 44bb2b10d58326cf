/- The law StyleParse: the walk. -/
import Derived.Test.YthcdcbibbfdjmaaDoorStyPx
namespace Go.Proofs.YthcdcbibbfdjmaaDoor
open Go.RowKit Go.Sort
set_option linter.unusedVariables false

set_option maxHeartbeats 8000000 in
set_option maxRecDepth 100000 in
theorem styleParse_walk (s : ByteArray) (hs : s.size ≤ 281474976710656) (w : World) (E : Env w) (N : EnvN w)
    (A : ∀ W, Below w.heap.size w W → Calls Tryd.prog 21 #[] W fun e w' => e = .returned (.bool true) ∧ Below W.heap.size W w') :
    Calls Tryd.prog 5 #[.string s] w fun e w' => e = .returned (.bool true) ∧ Below w.heap.size w w' := by
  have A := Lib.hid A
  have C1 := Lib.hid (ref_Parse6 s)
  have C2 : Hid (∀ W, Below w.heap.size w W → Calls Tryd.prog 25 #[.string s] W fun e w' => e = .returned (parV (parseS s)) ∧ Below W.heap.size W w') := Lib.hid (fun W hb' => st_Parse s hs W (E.of_below hb' (Nat.le_refl _)) (N.of_below hb' (Nat.le_refl _)))
  clear E N hs
  obtain ⟨RES, hR⟩ : ∃ r, r = parseS s := ⟨_, rfl⟩
  rw [← hR] at C1 C2
  clear hR
  obtain ⟨p0, p1, p2, p3, er, hV⟩ : ∃ (a b : Int) (c d : B8) (er : Int), parV RES = .tuple #[patV a b c d, .int .i64 er] := by
    cases RES with
    | ok p => exact ⟨_, _, _, _, _, rfl⟩
    | error e => exact ⟨_, _, _, _, _, rfl⟩
  rw [hV] at C1 C2
  clear hV
  go_enter Tryd.func5, Tryd.ntmps5
  go_wp2_with fail
  refine (C1.out _).mono ?_; rintro e w1 ⟨rfl, hb1⟩
  have HB1 := Lib.hid hb1
  clear hb1
  go_upto_region 2 with fail
  have HA := Lib.hid (HB1.out.alloc (by have := HB1.out.size; exact this) (.cells #[.int .i32 p0, .int .i32 p1, .int .u8 (bI p2), .int .u8 (bI p3)] 36))
  have K1 : Hid (C4 (w1.alloc (.cells #[.int .i32 p0, .int .i32 p1, .int .u8 (bI p2), .int .u8 (bI p3)] 36)) w1.heap.size (.int .i32 p0) (.int .i32 p1) (.int .u8 (bI p2)) (.int .u8 (bI p3))) := Lib.hid (by constructor <;> simp [go_sem])
  have C2 := Lib.hid (C2.out _ HA.out)
  go_wp2_with fail
  refine C2.out.mono ?_; rintro e w2 ⟨rfl, hb2⟩
  have HB2 := Lib.hid (below_call HA.out HA.out.size hb2)
  have KK := K1.out.keep hb2 K1.out.lt
  have y0 := fun o => (KK.alloc o).c0
  have y1 := fun o => (KK.alloc o).c1
  have y2 := fun o => (KK.alloc o).c2
  have y3 := fun o => (KK.alloc o).c3
  clear hb2
  have HC := Lib.hid (HB2.out.alloc HB2.out.size (.cells #[.int .i32 p0, .int .i32 p1, .int .u8 (bI p2), .int .u8 (bI p3)] 36))
  have AL := Lib.hid (A.out _ HC.out)
  go_upto_region 3 with fail
  go_wp2_with fail
  refine AL.out.mono ?_; rintro e w3 ⟨rfl, hb3⟩
  have HB3 := Lib.hid (below_call HC.out HC.out.size hb3)
  clear hb3
  go_wp2_with fail
  go_ret
  exact ⟨rfl, HB3.out⟩
end Go.Proofs.YthcdcbibbfdjmaaDoor
