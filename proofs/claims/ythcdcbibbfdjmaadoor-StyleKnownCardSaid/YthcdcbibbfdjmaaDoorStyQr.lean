/- A style made poorer: the walk of the reference. -/
import Derived.Test.YthcdcbibbfdjmaaDoorStyO
import Derived.Test.YthcdcbibbfdjmaaDoorStyR
namespace Go.Proofs.YthcdcbibbfdjmaaDoor
open Go.RowKit Go.Sort
set_option linter.unusedVariables false

theorem below_put3 {B b : Nat} {a w : World} (h : Below B a w) (hb : B ≤ b) (x y z : Value) : Below B a (((w.setCell ⟨b, 0, none⟩ x).setCell ⟨b, 1, none⟩ y).setCell ⟨b, 2, none⟩ z) := ((h.setCell (p := ⟨b, 0, none⟩) hb x).setCell (p := ⟨b, 1, none⟩) hb y).setCell (p := ⟨b, 2, none⟩) hb z
theorem Gives.to {k : Nat} {args : Array Value} {u v : Value} (h : Gives k args u) (e : u = v) : Gives k args v := e ▸ h

theorem ref_poorer (c d : Int) (hc : col32 c) : Gives 63 #[.int .i32 c, .int .i64 d] (.int .i32 (poorC c d)) := by
  intro w
  have P1 := Lib.hid (ref_To16 c hc.1 hc.2)
  have P2 := Lib.hid (ref_To256 c hc.1 hc.2)
  clear hc
  by_cases c0 : c = 0
  · have E : Hid (poorC c d = 0) := Lib.hid (by unfold poorC; rw [if_pos (Or.inl c0)])
    have g1 : (c == 0) = true := by simpa using c0
    clear c0
    go_enter Tryd.func63, Tryd.ntmps63
    go_wp2_with fail
    go_ret
    exact ⟨ret_int E.out.symm, Below.refl _ _⟩
  have g1 : (c == 0) = false := by simpa using c0
  have C0 := Lib.hid c0
  clear c0
  by_cases d0 : d ≤ 0
  · have E : Hid (poorC c d = 0) := Lib.hid (by unfold poorC; rw [if_pos (Or.inr d0)])
    go_enter Tryd.func63, Tryd.ntmps63
    go_wp2_with fail
    go_ret
    exact ⟨ret_int E.out.symm, Below.refl _ _⟩
  by_cases d1 : d = 1
  · have E : Hid (poorC c d = to16V c) := Lib.hid (by unfold poorC; rw [if_neg (by have := C0.out; omega), if_pos d1])
    subst d1
    go_enter Tryd.func63, Tryd.ntmps63
    go_wp2_with fail
    refine (P1.out _).mono ?_; rintro e w1 ⟨rfl, hb1⟩
    go_wp2_with fail
    go_ret
    exact ⟨ret_int E.out.symm, hb1⟩
  by_cases d2 : d = 2
  · have E : Hid (poorC c d = to256V c) := Lib.hid (by unfold poorC; rw [if_neg (by have := C0.out; omega), if_neg d1, if_pos d2])
    subst d2
    go_enter Tryd.func63, Tryd.ntmps63
    go_wp2_with fail
    refine (P2.out _).mono ?_; rintro e w1 ⟨rfl, hb1⟩
    go_wp2_with fail
    go_ret
    exact ⟨ret_int E.out.symm, hb1⟩
  · have E : Hid (poorC c d = c) := Lib.hid (by unfold poorC; rw [if_neg (by have := C0.out; omega), if_neg d1, if_neg d2])
    have g3 : (d == 1) = false := by simpa using d1
    have g4 : (d == 2) = false := by simpa using d2
    clear d1 d2
    go_enter Tryd.func63, Tryd.ntmps63
    go_wp2_with fail
    go_ret
    exact ⟨ret_int E.out.symm, Below.refl _ _⟩

theorem col32_of (c : Int) (h : inSty c) : col32 c := by rcases h with rfl | h | h <;> exact ⟨by omega, by omega⟩

set_option maxHeartbeats 8000000 in
theorem ref_Reduce (s : Sty) (d : Int) (hf : col32 s.fg) (hb : col32 s.bg) : Gives 32 #[styV s.fg s.bg s.at_, .int .i64 d] (styV (reduceS s d).fg (reduceS s d).bg (reduceS s d).at_) := by
  intro w
  have C0 := Lib.hid (ref_Counts s.fg s.bg s.at_ hf hb)
  have C1 := Lib.hid (ref_poorer (plC s.fg) d (col32_of _ (inSty_pl _)))
  have C2 := Lib.hid (ref_poorer (plC s.bg) d (col32_of _ (inSty_pl _)))
  have RF : Hid ((reduceS s d).fg = poorC (plC s.fg) d) := Lib.hid rfl
  have RB : Hid ((reduceS s d).bg = poorC (plC s.bg) d) := Lib.hid rfl
  have RA : Hid ((reduceS s d).at_ = s.at_) := Lib.hid rfl
  generalize reduceS s d = r at *
  generalize plC s.fg = F at *
  generalize plC s.bg = B at *
  clear hf hb
  go_enter Tryd.func32, Tryd.ntmps32
  go_wp2_with fail
  refine (C0.out _).mono ?_; rintro e w1 ⟨rfl, hb1⟩
  have q2 : C3 w1 (w.heap.size + 1) (.int .i32 0) (.int .i32 0) (.int .u8 0) := C3.keep (by constructor <;> simp [go_sem]) hb1 (by simp)
  have hB1 : Below w.heap.size w w1 := below_call (by go_grown) (by simp; omega) hb1
  clear hb1
  have l1 := q2.lt
  have Q2 := Lib.hid (q2.alloc (.cells #[.int .i32 F, .int .i32 B, .int .u8 (bI s.at_)] 24))
  have HB := Lib.hid (hB1.alloc (by omega) (.cells #[.int .i32 F, .int .i32 B, .int .u8 (bI s.at_)] 24))
  have K0 : Hid (C3 (w1.alloc (.cells #[.int .i32 F, .int .i32 B, .int .u8 (bI s.at_)] 24)) w1.heap.size (.int .i32 F) (.int .i32 B) (.int .u8 (bI s.at_))) := Lib.hid (by constructor <;> simp [go_sem])
  obtain ⟨z0, z1, z2, y0, y1, y2⟩ := q2
  clear hB1
  go_wp2_with fail
  refine (C1.out _).mono ?_; rintro e' w2 ⟨rfl, hb2⟩
  have K0' := Lib.hid (K0.out.keep hb2 K0.out.lt)
  have Q2' := Lib.hid (Q2.out.keep hb2 Q2.out.lt)
  have HB' := Lib.hid (below_call HB.out HB.out.size hb2)
  clear hb2
  obtain ⟨b0, b1, b2, i0, i1, i2⟩ := K0'.out
  go_wp2_with fail
  refine (C2.out _).mono ?_; rintro e' w3 ⟨rfl, hb3⟩
  obtain ⟨c0, c1, c2, k0, k1, k2⟩ := K0'.out.keep hb3 K0'.out.lt
  obtain ⟨d0, d1, d2, j0, j1, j2⟩ := Q2'.out.keep hb3 Q2'.out.lt
  have HB2 := Lib.hid (below_call HB'.out HB'.out.size hb3)
  clear hb3
  go_wp2_with fail
  refine bodyPost_ret (v := styV r.fg r.bg r.at_) (by rw [RF.out, RB.out, RA.out]; simp [results, Tryd.results32, go_sem, d0, d1, d2]) rfl ⟨rfl, ?_⟩
  exact below_put3 HB2.out (Nat.le_succ _) _ _ _
end Go.Proofs.YthcdcbibbfdjmaaDoor
