/- VtPieces: the walk. -/
import Derived.Test.YtkllilehdpdbdaaGreatDoorVyU
import Derived.Test.YtkllilehdpdbdaaGreatDoorVyK
namespace Go.Proofs.YtkllilehdpdbdaaGreatDoor
open Go Go.RowKit Go.Sort
set_option linter.unusedVariables false
set_option linter.unusedSimpArgs false
section
set_option maxHeartbeats 16000000 in
set_option maxRecDepth 100000 in
theorem vtPieces_walk (w h : Int) (hw : -9223372036854775808 ≤ w ∧ w ≤ 9223372036854775807) (hh : -9223372036854775808 ≤ h ∧ h ≤ 9223372036854775807) (A : Option Addr) (c : Nat) (D : List Int) (A2 : Option Addr) (c2 : Nat) (C : List Int) (W : World) (E : EnvV W) (H1 : ArgB W A c D) (H2 : Sees W W.heap.size A2 (ints C)) (hC : C.length ≤ 20000000000000) (hr : ∀ x ∈ C, -9223372036854775808 ≤ x ∧ x ≤ 9223372036854775807) :
    Calls Tryz.prog 5 #[.int .i64 w, .int .i64 h, .slice A D.length c, .slice A2 C.length c2] W fun e w' => e = .returned (.bool true) ∧ Below W.heap.size W w' := by
  have WK := Lib.hid (law_works W E)
  have EW : Hid (∀ V, Below W.heap.size W V → EnvV V) := Lib.hid (fun V hb => E.mv (Mv.below (F := []) hb) (by simp))
  have CE : Hid (∀ k wr, k < C.length → Below W.heap.size W wr → ∃ a2 x, A2 = some a2 ∧ wr.cell? (a2.add k) = some (.int .i64 x) ∧ -9223372036854775808 ≤ x ∧ x ≤ 9223372036854775807) := Lib.hid (fun k wr hk hb => by
    obtain ⟨a2, e2, b2, h2⟩ := H2.at (k := k) (by unfold ints; simpa using hk)
    have e : (ints C)[k]'(by unfold ints; simpa using hk) = .int .i64 (C.getD k 0) := by unfold ints; simp [List.getD_eq_getElem?_getD, List.getElem?_eq_getElem hk]
    rw [e] at h2
    have m : C.getD k 0 ∈ C := by rw [List.getD_eq_getElem?_getD, List.getElem?_eq_getElem hk]; exact List.getElem_mem hk
    exact ⟨a2, _, e2, (hb.cell (by rw [add_blk]; exact b2)).trans h2, hr _ m⟩)
  obtain ⟨n, hn⟩ : ∃ n, n = C.length := ⟨_, rfl⟩
  rw [← hn] at CE hC ⊢
  have H1 := Lib.hid H1
  clear E H2 hr hn
  obtain ⟨l, hl⟩ : ∃ l, l = D.length := ⟨_, rfl⟩
  have HL := Lib.hid hl
  rw [← hl]
  by_cases n1 : 1048576 < l
  · have n1i : (1048576 : Int) < (l : Int) := by omega
    clear hl
    go_enter Tryz.func5, Tryz.ntmps5
    go_wp2_with fail
    refine WK.out.mono ?_; rintro e V1 ⟨rfl, hb1⟩
    have HB := Lib.hid hb1
    clear hb1 WK
    go_wp2_with fail
    refine (law_works V1 (EW.out V1 HB.out)).mono ?_; rintro e V2 ⟨rfl, hb2⟩
    have HB2 := Lib.hid (HB.out.trans (hb2.mono HB.out.size))
    clear hb2
    go_wp2_with fail
    go_ret
    exact ⟨rfl, HB2.out⟩
  have n1i : ¬ (1048576 : Int) < (l : Int) := by omega
  obtain ⟨SW, hSW⟩ : ∃ SW, SW = sideV w 40 := ⟨_, rfl⟩
  obtain ⟨SH, hSH⟩ : ∃ SH, SH = sideV h 20 := ⟨_, rfl⟩
  have r1 := side_rng w 40 (by decide)
  have r2 := side_rng h 20 (by decide)
  rw [← hSW] at r1
  rw [← hSH] at r2
  have ar : SW * SH ≤ 1048576 := by have := mulle r1.2 r2.2 r2.1 (show (0 : Int) ≤ 40 by decide); omega
  have SI1 : Hid (∀ X : World, Calls Tryz.prog 19 #[.int .i64 w, .int .i64 40] X fun e w' => e = .returned (.int .i64 SW) ∧ w' = X) := Lib.hid (fun X => by rw [hSW]; exact law_side w 40 hw (by decide) (by decide) X)
  have SI2 : Hid (∀ X : World, Calls Tryz.prog 19 #[.int .i64 h, .int .i64 20] X fun e w' => e = .returned (.int .i64 SH) ∧ w' = X) := Lib.hid (fun X => by rw [hSH]; exact law_side h 20 hh (by decide) (by decide) X)
  have R1 := Lib.hid r1
  have R2 := Lib.hid r2
  have AR := Lib.hid ar
  have LV := Lib.hid (live_new SW SH r1.1 (by omega) r2.1 (by omega) ar)
  have N1 := Lib.hid n1
  have hcap : l ≤ c := by have := H1.out.cap; omega
  have CAP := Lib.hid hcap
  have LF : Hid (∀ f, Live (feedT (newV SW SH) (D.take f)) ∧ (feedT (newV SW SH) (D.take f)).held.size ≤ l) := Lib.hid (fun f => by
    have q := live_feed (D.take f) LV.out (fun x m => H1.out.rng x (List.mem_of_mem_take m))
    have e : (newV SW SH).held.size = 0 := rfl
    have q2 : (D.take f).length ≤ l := by rw [List.length_take]; omega
    exact ⟨q.1, by have := q.2; omega⟩)
  have LD : Hid (Live (feedT (newV SW SH) D)) := Lib.hid (live_feed D LV.out H1.out.rng).1
  have NX : Hid (∀ f m, f + m ≤ l → feedT (feedT (newV SW SH) (D.take f)) ((D.drop f).take m) = feedT (newV SW SH) (D.take (f + m))) := Lib.hid (fun f m _ => by rw [← feed_app2, List.take_add])
  have NE : Hid (∀ f, f ≤ l → feedT (feedT (newV SW SH) (D.take f)) ((D.drop f).take (l - f)) = feedT (newV SW SH) D) := Lib.hid (fun f hf => by
    rw [NX.out f (l - f) (by omega), show f + (l - f) = l by omega, hl, List.take_length])
  clear r1 r2 ar hSW hSH hl hcap
  go_enter Tryz.func5, Tryz.ntmps5
  go_wp2_with fail
  refine WK.out.mono ?_; rintro e V1 ⟨rfl, hb1⟩
  have HB := Lib.hid hb1
  have A1 := Lib.hid (H1.out.below hb1)
  have NW := Lib.hid (t_New SW SH R1.out.1 (by have := R1.out; omega) R2.out.1 (by have := R2.out; omega) AR.out V1 (EW.out V1 hb1))
  clear hb1 WK H1
  go_wp2_with fail
  refine (SI1.out V1).mono ?_; rintro e w2 ⟨rfl, rfl⟩
  go_wp2_with fail
  refine (SI2.out _).mono ?_; rintro e w2 ⟨rfl, rfl⟩
  go_wp2_with fail
  refine NW.out.mono ?_; rintro e V2 ⟨xb, rfl, hb2, hge, hx⟩
  have HX := Lib.hid hx
  have NW := Lib.hid (t_New SW SH R1.out.1 (by have := R1.out; omega) R2.out.1 (by have := R2.out; omega) AR.out V2 (EW.out V2 (HB.out.trans (hb2.mono HB.out.size))))
  clear hb2 hge hx EW
  go_wp2_with fail
  refine (SI1.out V2).mono ?_; rintro e w2 ⟨rfl, rfl⟩
  go_wp2_with fail
  refine (SI2.out _).mono ?_; rintro e w3 ⟨rfl, rfl⟩
  go_wp2_with fail
  refine NW.out.mono ?_; rintro e V3 ⟨yb, rfl, hb3, hge, hy⟩
  have T0 := Lib.hid (Two.new HX.out hb3 hy)
  clear NW HX hb3 hge hy SI1 SI2
  go_wp2_with fail
  go_loopw [13, 56] (fun a i wr => ∃ k f : Nat, k ≤ n ∧ f ≤ l ∧ a = .int .i64 (f : Int) ∧ i = .int .i64 (k : Int) ∧ Hid (Two w2 wr xb (newV SW SH) yb (feedT (newV SW SH) (D.take f)) [])) (fun _ i _ => n - (intOf i).toNat)
  case atStart => exact ⟨0, 0, Nat.zero_le _, Nat.zero_le _, by simp, by simp, T0⟩
  case round =>
    obtain ⟨k, f, hk, hf, rfl, rfl, hr⟩ := hrel
    clear T0
    by_cases lt : k < n
    · obtain ⟨a2, x, rfl, y2, x1, x2⟩ := CE.out k wr lt (HB.out.trans (hr.out.bel.mono HB.out.size))
      have q5 : (k : Int) < (n : Int) := by omega
      have tn : (k : Int).toNat = k := by omega
      have wk : IntKind.i64.wrap ((k : Int) + 1) = (k : Int) + 1 := IntWalk.i64_in _ (by omega)
      have p0 : 0 < (l : Int) - (f : Int) + 1 := by omega
      have m0 := Int.emod_nonneg x (show (l : Int) - (f : Int) + 1 ≠ 0 by omega)
      have m1 := Int.emod_lt_of_pos x p0
      obtain ⟨m, hm⟩ : ∃ m : Nat, (m : Int) = x % ((l : Int) - (f : Int) + 1) := ⟨(x % ((l : Int) - (f : Int) + 1)).toNat, by omega⟩
      have hfm : f + m ≤ l := by omega
      have CO := Lib.hid (law_counted x ((l : Int) - (f : Int) + 1) ⟨x1, x2⟩ p0 (by omega) wr)
      rw [← hm] at CO
      have ws1 : IntKind.i64.wrap ((l : Int) - (f : Int)) = (l : Int) - (f : Int) := IntWalk.i64_in _ (by omega)
      have ws2 : IntKind.i64.wrap ((l : Int) - (f : Int) + 1) = (l : Int) - (f : Int) + 1 := IntWalk.i64_in _ (by omega)
      have ws3 : IntKind.i64.wrap ((f : Int) + (m : Int)) = (f : Int) + (m : Int) := IntWalk.i64_in _ (by omega)
      have RC := fun w => run_cut A l c f m hfm CAP.out w
      have FE := hr.out.feedR (A1.out.cut f m (by have := HL.out; omega)) (LF.out f).1 (by rw [len_cut (by have := HL.out; omega)]; have := N1.out; omega) (by rw [len_cut (by have := HL.out; omega)]; have := (LF.out f).2; have := N1.out; omega)
      rw [len_cut (by have := HL.out; omega), NX.out f m hfm] at FE
      have FE := Lib.hid FE
      have HFM := Lib.hid hfm
      clear CE hr m0 m1 hm x1 x2 p0 hfm
      go_wp2_with fail
      refine CO.out.mono ?_; rintro e w2 ⟨rfl, rfl⟩
      clear CO
      go_wp2_with fail
      refine FE.out.mono ?_; rintro e w4 ⟨rfl, S4⟩
      have S4 := Lib.hid S4
      clear FE
      go_wp2_with fail
      go_roundw
      case rel => exact ⟨k + 1, f + m, by omega, HFM.out, by go_num, by go_num, S4⟩
      case measure => simp [intOf]; omega
    · have ek : k = n := by omega
      subst ek
      have q5 : ¬ (k : Int) < (k : Int) := by omega
      have RC := fun w => run_cutE A l c f hf CAP.out w
      have FN := hr.out.feedR (A := none) (c := 0) (D := []) ⟨Nat.le_refl _, fun b m => by simp at m, Sees.nil _ _ _⟩ (LF.out f).1 (by simp) (by have := (LF.out f).2; have := N1.out; simp; omega)
      have FN := Lib.hid FN
      have HF := Lib.hid hf
      clear CE hr hf
      go_wp2_with fail
      refine FN.out.mono ?_; rintro e w4 ⟨rfl, S4⟩
      have S4 : Two w2 w4 xb (newV SW SH) yb (feedT (newV SW SH) (D.take f)) [] := S4
      have hf := HF.out
      have FE := S4.feedR (A1.out.cut f (l - f) (by have := HL.out; omega)) (LF.out f).1 (by rw [len_cut (by have := HL.out; omega)]; have := N1.out; omega) (by rw [len_cut (by have := HL.out; omega)]; have := (LF.out f).2; have := N1.out; omega)
      rw [len_cut (by have := HL.out; omega), NE.out f hf] at FE
      have FE := Lib.hid FE
      clear FN S4
      go_wp2_with fail
      refine FE.out.mono ?_; rintro e w5 ⟨rfl, S5⟩
      have FX := S5.feedL A1.out LV.out (by have := N1.out; have := HL.out; omega) (by show 0 + D.length ≤ _; have := N1.out; have := HL.out; omega)
      rw [← HL.out] at FX
      have FX := Lib.hid FX
      clear FE S5
      go_wp2_with fail
      refine FX.out.mono ?_; rintro e w6 ⟨rfl, S6⟩
      have AL := Lib.hid (law_alike S6 LD.out.fine LD.out.fine rfl rfl rfl rfl)
      clear FX S6
      go_wp2_with fail
      refine AL.out.mono ?_; rintro e w9 ⟨rfl, hb9⟩
      have B9 := Lib.hid (HB.out.trans (hb9.mono HB.out.size))
      clear AL hb9
      go_wp2_with fail
      go_ret
      exact ⟨rfl, B9.out⟩
end
end Go.Proofs.YtkllilehdpdbdaaGreatDoor
