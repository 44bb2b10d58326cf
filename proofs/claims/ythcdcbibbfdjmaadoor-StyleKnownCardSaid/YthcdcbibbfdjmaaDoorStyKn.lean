/- StyleKnown: the closed examples (plain) and two slots looked at at once. -/
import Derived.Test.YthcdcbibbfdjmaaDoorStyTh
import Derived.Test.YthcdcbibbfdjmaaDoorStyEa
import Derived.Test.YthcdcbibbfdjmaaDoorStyG
import Derived.Test.YthcdcbibbfdjmaaDoorStyQ
import Derived.Test.YthcdcbibbfdjmaaDoorStyH
import Derived.Test.YthcdcbibbfdjmaaDoorStyTx
namespace Go.Proofs.YthcdcbibbfdjmaaDoor
open Go.RowKit Go.Sort
set_option linter.unusedVariables false
set_option linter.unusedSimpArgs false

theorem k_over1 : overL ⟨0, 0, 3⟩ [⟨0, 0, 4, 1⟩] = ⟨0, 0, 6⟩ := by decide +kernel
theorem k_over2 : overL ⟨257, 0, 0⟩ [⟨1, 0, 0, 0⟩, ⟨0, 16777216, 0, 0⟩] = ⟨0, 16777216, 0⟩ := by decide +kernel
theorem k_then1 : thenP ⟨256, 0, 1, 0⟩ ⟨0, 0, 2, 1⟩ = ⟨256, 0, 2, 1⟩ := by decide +kernel
theorem k_then2 : thenP ⟨0, 0, 0, 4⟩ ⟨0, 0, 4, 0⟩ = ⟨0, 0, 4, 0⟩ := by decide +kernel
theorem k_par1 : paramsL ⟨0, 0, 0⟩ ⟨257, 0, 1⟩ = [1, 31] := by decide +kernel
theorem k_par2 : paramsL ⟨0, 0, 3⟩ ⟨0, 0, 1⟩ = [0, 1] := by decide +kernel
theorem k_par3 : paramsL ⟨0, 0, 8⟩ ⟨0, 0, 0⟩ = [0] := by decide +kernel
theorem k_par4 : paramsL ⟨456, 0, 3⟩ ⟨456, 0, 1⟩ = [22, 1] := by decide +kernel
theorem k_par5 : paramsL ⟨0, 0, 0⟩ ⟨0, 16843267, 0⟩ = [48, 2, 1, 2, 3] := by decide +kernel
theorem k_par6 : paramsL ⟨0, 265, 4⟩ ⟨0, 265, 0⟩ = [23] := by decide +kernel
theorem k_app1 : applyL ⟨0, 0, 1⟩ [] = ⟨0, 0, 0⟩ := by decide +kernel
theorem k_app2 : applyL ⟨0, 0, 0⟩ [1, 6, 21, 91] = ⟨265, 0, 1⟩ := by decide +kernel
theorem k_app3 : applyL ⟨0, 0, 0⟩ [38, 5, 300, 1] = ⟨0, 0, 0⟩ := by decide +kernel
theorem k_app4 : applyL ⟨0, 0, 0⟩ [38, 2, 1, 2, 3, 4] = ⟨16843267, 0, 8⟩ := by decide +kernel
theorem k_red : reduceS ⟨16777216, 0, 1⟩ (-1) = ⟨0, 0, 1⟩ := by decide +kernel
theorem k_text1 : textS ⟨1, 0, 1, 9⟩ = some ⟨#[110, 111, 45, 117, 110, 100, 101, 114, 32, 98, 111, 108, 100, 32, 112, 108, 97, 105, 110]⟩ := by decide +kernel
theorem k_text2 : textS ⟨0, 7, 0, 0⟩ = none := by decide +kernel
theorem k_parse1 : parseS ⟨#[32, 32, 98, 111, 108, 100, 32, 110, 111, 45, 117, 110, 100, 101, 114, 32, 114, 101, 100, 32, 111, 110, 32, 64, 49, 55, 32]⟩ = .ok ⟨257, 273, 1, 8⟩ := by kernel_rfl
theorem k_parse2 : parseS ⟨#[98, 111, 108, 100, 32, 110, 111, 45, 98, 111, 108, 100]⟩ = .error 112 := by kernel_rfl
theorem k_parse3 : parseS ⟨#[111, 110, 32, 98, 111, 108, 100]⟩ = .error 60 := by kernel_rfl
theorem k_parse4 : parseS ⟨#[114, 101, 100, 32, 112, 108, 97, 105, 110]⟩ = .error 112 := by kernel_rfl

theorem kOver (s r : Sty) (ps : List Pat) (h : overL s ps = r) (hl : ps.length ≤ 100) (A : Option Addr) (c : Nat) (W : World) (hs : SeesP W W.heap.size A ps) : Calls Tryd.prog 28 #[styV s.fg s.bg s.at_, .slice A ps.length c] W fun e w' => e = .returned (styV r.fg r.bg r.at_) ∧ Below W.heap.size W w' := by
  rw [← h]
  exact st_Over s A c ps W hs (by omega)
theorem kThen (p q r : Pat) (h : thenP p q = r) (W : World) : Calls Tryd.prog 29 #[patV p.fg p.bg p.add p.drop, patV q.fg q.bg q.add q.drop] W fun e w' => e = .returned (patV r.fg r.bg r.add r.drop) ∧ Below W.heap.size W w' := by
  rw [← h]
  exact st_Then' p q W
theorem seesP_new (W : World) (ps : List Pat) : SeesP (W.alloc (.cells (List.flatMap patL ps).toArray 36)) (W.alloc (.cells (List.flatMap patL ps).toArray 36)).heap.size (some ⟨W.heap.size, 0, none⟩) ps := by
  obtain ⟨A, e, h⟩ := seesP_shows (w := W.alloc (.cells (List.flatMap patL ps).toArray 36)) (n := ps.length) (ps := ps) (v := .slice (some ⟨W.heap.size, 0, none⟩) ps.length ps.length) rfl ⟨_, rfl, by simp, fun i u hu => (new_cell W _ _ i u hu).1⟩
  cases e
  exact h
theorem kParse (s : ByteArray) (r : Except Int Pat) (h : parseS s = r) (hs : s.size ≤ 281474976710656) (W : World) (E : Env W) (N : EnvN W) : Calls Tryd.prog 25 #[.string s] W fun e w' => e = .returned (parV r) ∧ Below W.heap.size W w' := by
  rw [← h]
  exact st_Parse s hs W E N
theorem kText (p : Pat) (r : Option ByteArray) (h : textS p = r) (hf : col32 p.fg) (hb : col32 p.bg) (W : World) (E : Env W) (N : EnvN W) : Calls Tryd.prog 35 #[patV p.fg p.bg p.add p.drop] W fun e w' => e = .returned (textV r) ∧ Below W.heap.size W w' := by
  rw [← h]
  exact st_Text p hf hb W E N
theorem kRed (s : Sty) (d : Int) (r : Sty) (h : reduceS s d = r) (W : World) : Calls Tryd.prog 31 #[styV s.fg s.bg s.at_, .int .i64 d] W fun e w' => e = .returned (styV r.fg r.bg r.at_) ∧ Below W.heap.size W w' := by
  rw [← h]
  exact st_Reduce s d W
theorem bI_0 : bI 0 = 0 := rfl
theorem bI_1 : bI 1 = 1 := rfl
theorem bI_2 : bI 2 = 2 := rfl
theorem bI_4 : bI 4 = 4 := rfl
theorem bI_6 : bI 6 = 6 := rfl
theorem bI_8 : bI 8 = 8 := rfl
/-- a slice of integers that shows xs -/
def Rowed (xs : List Int) (v : Value) (w : World) : Prop := ∃ A c, v = .slice A xs.length c ∧ xs.length ≤ c ∧ Sees w w.heap.size A (ints xs)
theorem Rowed.stab {xs : List Int} {v : Value} {w w' : World} (hb : Below w.heap.size w w') (h : Rowed xs v w) : Rowed xs v w' := by
  obtain ⟨A, c, e, l, s⟩ := h
  exact ⟨A, c, e, l, (s.below hb (Nat.le_refl _)).more hb.size⟩
theorem Rowed.new (w : World) (xs : List Int) : Rowed xs (.slice (some ⟨w.heap.size, 0, none⟩) xs.length xs.length) (w.alloc (.cells (ints xs).toArray 3)) :=
  ⟨_, _, rfl, Nat.le_refl _, fun _ => ⟨_, rfl, by simp, fun j u h => by rw [addr0]; exact (new_cell w (ints xs) _ j u h).1⟩⟩
theorem kPar (f t : Sty) (L : List Int) (h : paramsL f t = L) (W : World) (E : EnvS W) : Calls Tryd.prog 16 #[styV f.fg f.bg f.at_, styV t.fg t.bg t.at_] W fun e w' => ∃ v, e = .returned v ∧ Rowed L v w' ∧ Below W.heap.size W w' := by
  rw [← h]
  refine (st_Params f t W E).mono ?_
  rintro e w' ⟨v, rfl, ho, hb⟩
  obtain ⟨A, c, rfl⟩ := own_slice' ho
  refine ⟨_, rfl, ⟨A, c, rfl, ?_, Sees.of_own ho⟩, hb⟩
  rcases (own_form ho).2 with ⟨q, z⟩ | ⟨g', c', q, _, _, l, _⟩
  · omega
  · cases q; exact l
theorem kApp (s r : Sty) (xs : List Int) (h : applyL s xs = r) (hl : xs.length ≤ 100) (v : Value) (W : World) (E : EnvS W) (hr : Rowed xs v W) : Calls Tryd.prog 23 #[styV s.fg s.bg s.at_, v] W fun e w' => e = .returned (styV r.fg r.bg r.at_) ∧ Below W.heap.size W w' := by
  obtain ⟨A, c, rfl, hc, hs⟩ := hr
  rw [← h]
  exact st_Apply s A c xs (by omega) hc W E hs
theorem kSame (xs : List Int) (hl : xs.length ≤ 100) (v v' : Value) (W : World) (h : Rowed xs v W) (h' : Rowed xs v' W) : Calls Tryd.prog 17 #[v, v'] W fun e w' => e = .returned (.bool true) ∧ Below W.heap.size W w' := by
  obtain ⟨A, c, rfl, _, hs⟩ := h
  obtain ⟨A', c', rfl, _, hs'⟩ := h'
  exact law_same A A' c c' xs (by omega) W hs hs'

set_option maxHeartbeats 16000000 in
set_option maxRecDepth 100000 in
theorem styleKnown_walk (w : World) (E : Env w) (ES : EnvS w) (N : EnvN w) :
    Calls Tryd.prog 14 #[] w fun e w' => e = .returned (.bool true) ∧ Below w.heap.size w w' := by
  have EN : Hid (∀ W, Below w.heap.size w W → Env W ∧ EnvS W ∧ EnvN W) := Lib.hid (fun W hb => ⟨E.of_below hb (Nat.le_refl _), ES.of_below hb (Nat.le_refl _), N.of_below hb (Nat.le_refl _)⟩)
  clear E ES N
  go_enter Tryd.func14, Tryd.ntmps14
  have HB0 := Lib.hid (Below.refl w.heap.size w)
  go_wp2_with fail
  have HA := Lib.hid (HB0.out.alloc HB0.out.size (.cells (List.flatMap patL [⟨0, 0, 4, 1⟩]).toArray 36))
  refine (kOver ⟨0, 0, 3⟩ ⟨0, 0, 6⟩ [⟨0, 0, 4, 1⟩] k_over1 (by decide) (some ⟨w.heap.size, 0, none⟩) 1 _ (seesP_new w [⟨0, 0, 4, 1⟩])).mono ?_
  rintro e w1 ⟨rfl, hb⟩
  have HB1 := Lib.hid (below_call HA.out HA.out.size hb)
  clear hb
  clear HA
  simp only [styV, patV, parV, textV, bI_0, bI_1, bI_2, bI_4, bI_6, bI_8]
  go_wp2_with fail
  have HA := Lib.hid (HB1.out.alloc HB1.out.size (.cells (List.flatMap patL [⟨1, 0, 0, 0⟩, ⟨0, 16777216, 0, 0⟩]).toArray 36))
  refine (kOver ⟨257, 0, 0⟩ ⟨0, 16777216, 0⟩ [⟨1, 0, 0, 0⟩, ⟨0, 16777216, 0, 0⟩] k_over2 (by decide) (some ⟨w1.heap.size, 0, none⟩) 2 _ (seesP_new w1 [⟨1, 0, 0, 0⟩, ⟨0, 16777216, 0, 0⟩])).mono ?_
  rintro e w2 ⟨rfl, hb⟩
  have HB2 := Lib.hid (below_call HA.out HA.out.size hb)
  clear hb
  clear HA
  simp only [styV, patV, parV, textV, bI_0, bI_1, bI_2, bI_4, bI_6, bI_8]
  go_wp2_with fail
  refine (kThen ⟨256, 0, 1, 0⟩ ⟨0, 0, 2, 1⟩ ⟨256, 0, 2, 1⟩ k_then1 w2).mono ?_
  rintro e w3 ⟨rfl, hb⟩
  have HB3 := Lib.hid (below_call HB2.out HB2.out.size hb)
  clear hb
  simp only [styV, patV, parV, textV, bI_0, bI_1, bI_2, bI_4, bI_6, bI_8]
  go_wp2_with fail
  refine (kThen ⟨0, 0, 0, 4⟩ ⟨0, 0, 4, 0⟩ ⟨0, 0, 4, 0⟩ k_then2 w3).mono ?_
  rintro e w4 ⟨rfl, hb⟩
  have HB4 := Lib.hid (below_call HB3.out HB3.out.size hb)
  clear hb
  simp only [styV, patV, parV, textV, bI_0, bI_1, bI_2, bI_4, bI_6, bI_8]
  go_wp2_with fail
  refine (kPar ⟨0, 0, 0⟩ ⟨257, 0, 1⟩ [1, 31] k_par1 w4 (EN.out w4 HB4.out).2.1).mono ?_
  rintro e w5 ⟨v, rfl, hr, hb⟩
  have HB5 := Lib.hid (below_call HB4.out HB4.out.size hb)
  clear hb
  have HR := Lib.hid (hr.stab ((Below.refl _ _).alloc (Nat.le_refl _) (.cells (ints [1, 31]).toArray 3)))
  have HA := Lib.hid (HB5.out.alloc HB5.out.size (.cells (ints [1, 31]).toArray 3))
  clear hr
  go_wp2_with fail
  refine (kSame [1, 31] (by decide) v _ _ HR.out (Rowed.new w5 [1, 31])).mono ?_
  rintro e w6 ⟨rfl, hb⟩
  have HB6 := Lib.hid (below_call HA.out HA.out.size hb)
  clear hb
  clear HA HR
  go_wp2_with fail
  refine (kPar ⟨0, 0, 3⟩ ⟨0, 0, 1⟩ [0, 1] k_par2 w6 (EN.out w6 HB6.out).2.1).mono ?_
  rintro e w7 ⟨v, rfl, hr, hb⟩
  have HB7 := Lib.hid (below_call HB6.out HB6.out.size hb)
  clear hb
  have HR := Lib.hid (hr.stab ((Below.refl _ _).alloc (Nat.le_refl _) (.cells (ints [0, 1]).toArray 3)))
  have HA := Lib.hid (HB7.out.alloc HB7.out.size (.cells (ints [0, 1]).toArray 3))
  clear hr
  go_wp2_with fail
  refine (kSame [0, 1] (by decide) v _ _ HR.out (Rowed.new w7 [0, 1])).mono ?_
  rintro e w8 ⟨rfl, hb⟩
  have HB8 := Lib.hid (below_call HA.out HA.out.size hb)
  clear hb
  clear HA HR
  go_wp2_with fail
  refine (kPar ⟨0, 0, 8⟩ ⟨0, 0, 0⟩ [0] k_par3 w8 (EN.out w8 HB8.out).2.1).mono ?_
  rintro e w9 ⟨v, rfl, hr, hb⟩
  have HB9 := Lib.hid (below_call HB8.out HB8.out.size hb)
  clear hb
  have HR := Lib.hid (hr.stab ((Below.refl _ _).alloc (Nat.le_refl _) (.cells (ints [0]).toArray 3)))
  have HA := Lib.hid (HB9.out.alloc HB9.out.size (.cells (ints [0]).toArray 3))
  clear hr
  go_wp2_with fail
  refine (kSame [0] (by decide) v _ _ HR.out (Rowed.new w9 [0])).mono ?_
  rintro e w10 ⟨rfl, hb⟩
  have HB10 := Lib.hid (below_call HA.out HA.out.size hb)
  clear hb
  clear HA HR
  go_wp2_with fail
  refine (kPar ⟨456, 0, 3⟩ ⟨456, 0, 1⟩ [22, 1] k_par4 w10 (EN.out w10 HB10.out).2.1).mono ?_
  rintro e w11 ⟨v, rfl, hr, hb⟩
  have HB11 := Lib.hid (below_call HB10.out HB10.out.size hb)
  clear hb
  have HR := Lib.hid (hr.stab ((Below.refl _ _).alloc (Nat.le_refl _) (.cells (ints [22, 1]).toArray 3)))
  have HA := Lib.hid (HB11.out.alloc HB11.out.size (.cells (ints [22, 1]).toArray 3))
  clear hr
  go_wp2_with fail
  refine (kSame [22, 1] (by decide) v _ _ HR.out (Rowed.new w11 [22, 1])).mono ?_
  rintro e w12 ⟨rfl, hb⟩
  have HB12 := Lib.hid (below_call HA.out HA.out.size hb)
  clear hb
  clear HA HR
  go_wp2_with fail
  refine (kPar ⟨0, 0, 0⟩ ⟨0, 16843267, 0⟩ [48, 2, 1, 2, 3] k_par5 w12 (EN.out w12 HB12.out).2.1).mono ?_
  rintro e w13 ⟨v, rfl, hr, hb⟩
  have HB13 := Lib.hid (below_call HB12.out HB12.out.size hb)
  clear hb
  have HR := Lib.hid (hr.stab ((Below.refl _ _).alloc (Nat.le_refl _) (.cells (ints [48, 2, 1, 2, 3]).toArray 3)))
  have HA := Lib.hid (HB13.out.alloc HB13.out.size (.cells (ints [48, 2, 1, 2, 3]).toArray 3))
  clear hr
  go_wp2_with fail
  refine (kSame [48, 2, 1, 2, 3] (by decide) v _ _ HR.out (Rowed.new w13 [48, 2, 1, 2, 3])).mono ?_
  rintro e w14 ⟨rfl, hb⟩
  have HB14 := Lib.hid (below_call HA.out HA.out.size hb)
  clear hb
  clear HA HR
  go_wp2_with fail
  refine (kPar ⟨0, 265, 4⟩ ⟨0, 265, 0⟩ [23] k_par6 w14 (EN.out w14 HB14.out).2.1).mono ?_
  rintro e w15 ⟨v, rfl, hr, hb⟩
  have HB15 := Lib.hid (below_call HB14.out HB14.out.size hb)
  clear hb
  have HR := Lib.hid (hr.stab ((Below.refl _ _).alloc (Nat.le_refl _) (.cells (ints [23]).toArray 3)))
  have HA := Lib.hid (HB15.out.alloc HB15.out.size (.cells (ints [23]).toArray 3))
  clear hr
  go_wp2_with fail
  refine (kSame [23] (by decide) v _ _ HR.out (Rowed.new w15 [23])).mono ?_
  rintro e w16 ⟨rfl, hb⟩
  have HB16 := Lib.hid (below_call HA.out HA.out.size hb)
  clear hb
  clear HA HR
  go_wp2_with fail
  refine (kApp ⟨0, 0, 1⟩ ⟨0, 0, 0⟩ [] k_app1 (by decide) (.slice none 0 0) w16 (EN.out w16 HB16.out).2.1 ⟨none, 0, rfl, by decide, Sees.nil _ _ _⟩).mono ?_
  rintro e w17 ⟨rfl, hb⟩
  have HB17 := Lib.hid (below_call HB16.out HB16.out.size hb)
  clear hb
  simp only [styV, patV, parV, textV, bI_0, bI_1, bI_2, bI_4, bI_6, bI_8]
  go_wp2_with fail
  have HA := Lib.hid (HB17.out.alloc HB17.out.size (.cells (ints [1, 6, 21, 91]).toArray 3))
  refine (kApp ⟨0, 0, 0⟩ ⟨265, 0, 1⟩ [1, 6, 21, 91] k_app2 (by decide) _ _ (EN.out _ HA.out).2.1 (Rowed.new w17 [1, 6, 21, 91])).mono ?_
  rintro e w18 ⟨rfl, hb⟩
  have HB18 := Lib.hid (below_call HA.out HA.out.size hb)
  clear hb
  clear HA
  simp only [styV, patV, parV, textV, bI_0, bI_1, bI_2, bI_4, bI_6, bI_8]
  go_wp2_with fail
  have HA := Lib.hid (HB18.out.alloc HB18.out.size (.cells (ints [38, 5, 300, 1]).toArray 3))
  refine (kApp ⟨0, 0, 0⟩ ⟨0, 0, 0⟩ [38, 5, 300, 1] k_app3 (by decide) _ _ (EN.out _ HA.out).2.1 (Rowed.new w18 [38, 5, 300, 1])).mono ?_
  rintro e w19 ⟨rfl, hb⟩
  have HB19 := Lib.hid (below_call HA.out HA.out.size hb)
  clear hb
  clear HA
  simp only [styV, patV, parV, textV, bI_0, bI_1, bI_2, bI_4, bI_6, bI_8]
  go_wp2_with fail
  have HA := Lib.hid (HB19.out.alloc HB19.out.size (.cells (ints [38, 2, 1, 2, 3, 4]).toArray 3))
  refine (kApp ⟨0, 0, 0⟩ ⟨16843267, 0, 8⟩ [38, 2, 1, 2, 3, 4] k_app4 (by decide) _ _ (EN.out _ HA.out).2.1 (Rowed.new w19 [38, 2, 1, 2, 3, 4])).mono ?_
  rintro e w20 ⟨rfl, hb⟩
  have HB20 := Lib.hid (below_call HA.out HA.out.size hb)
  clear hb
  clear HA
  simp only [styV, patV, parV, textV, bI_0, bI_1, bI_2, bI_4, bI_6, bI_8]
  go_wp2_with fail
  refine (kParse ⟨#[32, 32, 98, 111, 108, 100, 32, 110, 111, 45, 117, 110, 100, 101, 114, 32, 114, 101, 100, 32, 111, 110, 32, 64, 49, 55, 32]⟩ (.ok ⟨257, 273, 1, 8⟩) k_parse1 (by decide) _ (EN.out _ HB20.out).1 (EN.out _ HB20.out).2.2).mono ?_
  rintro e w21 ⟨rfl, hb⟩
  have HA := Lib.hid (below_call HB20.out HB20.out.size hb)
  clear hb
  have HB21 := Lib.hid (HA.out.alloc HA.out.size (.cells #[.int .i32 257, .int .i32 273, .int .u8 1, .int .u8 8] 36))
  clear HA
  have K6 : Hid (C4 (w21.alloc (.cells #[.int .i32 257, .int .i32 273, .int .u8 1, .int .u8 8] 36)) w21.heap.size (.int .i32 257) (.int .i32 273) (.int .u8 1) (.int .u8 8)) := Lib.hid (by constructor <;> simp [go_sem])
  simp only [styV, patV, parV, textV, bI_0, bI_1, bI_2, bI_4, bI_6, bI_8]
  go_wp2_with fail
  refine (kParse ⟨#[98, 111, 108, 100, 32, 110, 111, 45, 98, 111, 108, 100]⟩ (.error 112) k_parse2 (by decide) _ (EN.out _ HB21.out).1 (EN.out _ HB21.out).2.2).mono ?_
  rintro e w22 ⟨rfl, hb⟩
  have HA := Lib.hid (below_call HB21.out HB21.out.size hb)
  have K6 := Lib.hid ((K6.out.keep hb K6.out.lt).alloc (.cells #[.int .i32 0, .int .i32 0, .int .u8 0, .int .u8 0] 36))
  clear hb
  have HB22 := Lib.hid (HA.out.alloc HA.out.size (.cells #[.int .i32 0, .int .i32 0, .int .u8 0, .int .u8 0] 36))
  clear HA
  simp only [styV, patV, parV, textV, bI_0, bI_1, bI_2, bI_4, bI_6, bI_8]
  go_wp2_with fail
  refine (kParse ⟨#[111, 110, 32, 98, 111, 108, 100]⟩ (.error 60) k_parse3 (by decide) _ (EN.out _ HB22.out).1 (EN.out _ HB22.out).2.2).mono ?_
  rintro e w23 ⟨rfl, hb⟩
  have HA := Lib.hid (below_call HB22.out HB22.out.size hb)
  have K6 := Lib.hid ((K6.out.keep hb K6.out.lt).alloc (.cells #[.int .i32 0, .int .i32 0, .int .u8 0, .int .u8 0] 36))
  clear hb
  have HB23 := Lib.hid (HA.out.alloc HA.out.size (.cells #[.int .i32 0, .int .i32 0, .int .u8 0, .int .u8 0] 36))
  clear HA
  simp only [styV, patV, parV, textV, bI_0, bI_1, bI_2, bI_4, bI_6, bI_8]
  go_wp2_with fail
  refine (kParse ⟨#[114, 101, 100, 32, 112, 108, 97, 105, 110]⟩ (.error 112) k_parse4 (by decide) _ (EN.out _ HB23.out).1 (EN.out _ HB23.out).2.2).mono ?_
  rintro e w24 ⟨rfl, hb⟩
  have HA := Lib.hid (below_call HB23.out HB23.out.size hb)
  have K6 := Lib.hid ((K6.out.keep hb K6.out.lt).alloc (.cells #[.int .i32 0, .int .i32 0, .int .u8 0, .int .u8 0] 36))
  clear hb
  have HB24 := Lib.hid (HA.out.alloc HA.out.size (.cells #[.int .i32 0, .int .i32 0, .int .u8 0, .int .u8 0] 36))
  clear HA
  simp only [styV, patV, parV, textV, bI_0, bI_1, bI_2, bI_4, bI_6, bI_8]
  go_wp2_with fail
  refine (kText ⟨1, 0, 1, 9⟩ (some ⟨#[110, 111, 45, 117, 110, 100, 101, 114, 32, 98, 111, 108, 100, 32, 112, 108, 97, 105, 110]⟩) k_text1 (by decide) (by decide) _ (EN.out _ HB24.out).1 (EN.out _ HB24.out).2.2).mono ?_
  rintro e w25 ⟨rfl, hb⟩
  have K6 := Lib.hid (K6.out.keep hb K6.out.lt)
  have HB25 := Lib.hid (below_call HB24.out HB24.out.size hb)
  clear hb
  simp only [styV, patV, parV, textV, bI_0, bI_1, bI_2, bI_4, bI_6, bI_8]
  go_wp2_with fail
  refine (kText ⟨0, 7, 0, 0⟩ none k_text2 (by decide) (by decide) _ (EN.out _ HB25.out).1 (EN.out _ HB25.out).2.2).mono ?_
  rintro e w26 ⟨rfl, hb⟩
  obtain ⟨z0, z1, z2, z3, _, _, _, _⟩ := K6.out.keep hb K6.out.lt
  have HB26 := Lib.hid (below_call HB25.out HB25.out.size hb)
  clear hb
  simp only [styV, patV, parV, textV, bI_0, bI_1, bI_2, bI_4, bI_6, bI_8]
  go_wp2_with fail
  refine (kRed ⟨16777216, 0, 1⟩ (-1) ⟨0, 0, 1⟩ k_red _).mono ?_
  rintro e w27 ⟨rfl, hb⟩
  have HB27 := Lib.hid (below_call HB26.out HB26.out.size hb)
  clear hb
  simp only [styV, patV, parV, textV, bI_0, bI_1, bI_2, bI_4, bI_6, bI_8]
  go_wp2_with fail
  go_ret
  exact ⟨rfl, HB27.out⟩
end Go.Proofs.YthcdcbibbfdjmaaDoor
