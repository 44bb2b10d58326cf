/- The law StyleText: the walk. -/
import Derived.Test.YthcdcbibbfdjmaaDoorStyTt
namespace Go.Proofs.YthcdcbibbfdjmaaDoor
open Go.RowKit Go.Sort
set_option linter.unusedVariables false

set_option maxHeartbeats 8000000 in
set_option maxRecDepth 100000 in
theorem styleText_walk (p : Pat) (hf : col32 p.fg) (hb : col32 p.bg) (w : World) (E : Env w) (N : EnvN w)
    (A : ∀ W, Below w.heap.size w W → Calls Tryd.prog 21 #[] W fun e w' => e = .returned (.bool true) ∧ Below W.heap.size W w') :
    Calls Tryd.prog 12 #[patV p.fg p.bg p.add p.drop] w fun e w' => e = .returned (.bool true) ∧ Below w.heap.size w w' := by
  have A := Lib.hid A
  have C1 := Lib.hid (ref_Text6 p hf hb)
  have C2 : Hid (∀ W, Below w.heap.size w W → Calls Tryd.prog 35 #[patV p.fg p.bg p.add p.drop] W fun e w' => e = .returned (textV (textS p)) ∧ Below W.heap.size W w') := Lib.hid (fun W hb' => st_Text p hf hb W (E.of_below hb' (Nat.le_refl _)) (N.of_below hb' (Nat.le_refl _)))
  clear E N hf hb
  go_enter Tryd.func12, Tryd.ntmps12
  go_wp2_with fail
  refine (C1.out _).mono ?_; rintro e w1 ⟨rfl, hb1⟩
  have k0 : C4 w1 w.heap.size (.int .i32 p.fg) (.int .i32 p.bg) (.int .u8 (bI p.add)) (.int .u8 (bI p.drop)) := C4.keep (by constructor <;> simp [go_sem]) hb1 (by simp)
  have HB1 := Lib.hid (show Below w.heap.size w w1 from below_call (by go_grown) (by simp) hb1)
  obtain ⟨a0, a1, a2, a3, _, _, _, _⟩ := k0
  clear hb1
  cases ht : textS p with
  | none =>
    have C2 := C2.out w1 HB1.out
    rw [ht] at C2
    have C2 := Lib.hid C2
    clear ht
    simp only [textV]
    go_wp2_with fail
    refine C2.out.mono ?_; rintro e w2 ⟨rfl, hb2⟩
    have HB2 := Lib.hid (below_call HB1.out HB1.out.size hb2)
    clear hb2
    simp only [textV]
    go_wp2_with fail
    refine (A.out _ HB2.out).mono ?_; rintro e w3 ⟨rfl, hb3⟩
    have HB3 := Lib.hid (below_call HB2.out HB2.out.size hb3)
    go_wp2_with fail
    go_ret
    exact ⟨rfl, HB3.out⟩
  | some t =>
    have C2 := C2.out w1 HB1.out
    rw [ht] at C2
    have C2 := Lib.hid C2
    clear ht
    simp only [textV]
    go_wp2_with fail
    refine C2.out.mono ?_; rintro e w2 ⟨rfl, hb2⟩
    have HB2 := Lib.hid (below_call HB1.out HB1.out.size hb2)
    clear hb2
    simp only [textV]
    go_wp2_with fail
    refine (A.out _ HB2.out).mono ?_; rintro e w3 ⟨rfl, hb3⟩
    have HB3 := Lib.hid (below_call HB2.out HB2.out.size hb3)
    go_wp2_with fail
    go_ret
    exact ⟨rfl, HB3.out⟩
end Go.Proofs.YthcdcbibbfdjmaaDoor
