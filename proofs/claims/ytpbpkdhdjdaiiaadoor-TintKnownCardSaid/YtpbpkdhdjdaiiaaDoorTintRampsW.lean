/- TintRamps: the walk of the law. -/
import Derived.Test.YtpbpkdhdjdaiiaaDoorSl
import Derived.Test.YtpbpkdhdjdaiiaaDoorWorks
namespace Go.Proofs.YtpbpkdhdjdaiiaaDoor
open Go.RowKit Flt
set_option linter.unusedVariables false

theorem own_slice {w : World} {base n : Nat} {T : TypeId} {v : Value} {xs : List Value} (h : w.ownsRow base T 1 v n xs) : ∃ A c, v = .slice A n c ∧ (A = none → c = 0) := by
  rcases (own_form h).2 with ⟨rfl, rfl⟩ | ⟨g, c, rfl, _⟩
  · exact ⟨none, 0, rfl, fun _ => rfl⟩
  · exact ⟨_, c, rfl, fun e => by cases e⟩

def FullRet (w : World) (T : TypeId) (xs : List Value) (e : Ending) (w' : World) : Prop := ∃ A, e = .returned (.slice A xs.length xs.length) ∧ (A = none → xs.length = 0) ∧ w'.ownsRow w.heap.size T 1 (.slice A xs.length xs.length) xs.length xs ∧ Below w.heap.size w w'

theorem rampL_none {n : Int} {xs : List Int} (h : ¬ rampOk n xs.length = true) : rampL n xs = [] := by unfold rampL; rw [if_neg h]
theorem rampL_len {n : Int} {xs : List Int} (h : rampOk n xs.length = true) : (rampL n xs).length = n.toNat := by unfold rampL; rw [if_pos h]; simp

theorem tint_Ramp (n : Int) (A : Option Addr) (c : Nat) (xs : List Int) (hm : xs.length ≤ 35184372087808) (w : World) (hS : Sees w w.heap.size A (xs.map (.int .i32))) :
    Calls Tryd.prog 37 #[.int .i64 n, .slice A xs.length c] w (FullRet w 22 ((rampL n xs).map (.int .i32))) := by
  by_cases h : rampOk n xs.length = true
  · refine (tint_Ramp_some n A c xs h w hS).mono ?_
    rintro e w' ⟨rfl, ho, hb⟩
    have l : ((rampL n xs).map (Value.int .i32)).length = n.toNat := by rw [List.length_map, rampL_len h]
    exact ⟨_, by rw [l], (fun e => by cases e), by rw [l]; exact ho, hb⟩
  · refine (tint_Ramp_none n A c xs (by simpa using h) (by omega) w).mono ?_
    rintro e w' ⟨rfl, rfl⟩
    rw [rampL_none h]
    exact ⟨none, rfl, fun _ => rfl, World.ownsRow_nil _ _ _ _, Below.refl _ _⟩
theorem ref_Ramp (n : Int) (A : Option Addr) (c : Nat) (xs : List Int) (hwf : ∀ x ∈ xs, -2147483648 ≤ x ∧ x ≤ 2147483647) (hm : xs.length ≤ 35184372087808) (w : World) (hS : Sees w w.heap.size A (xs.map (.int .i32))) :
    Calls Tryd.prog 35 #[.int .i64 n, .slice A xs.length c] w (OwnRet w 22 ((rampL n xs).map (.int .i32))) := by
  by_cases h : rampOk n xs.length = true
  · exact ref_Ramp_some n A c xs hwf h w hS
  · refine (ref_Ramp_none n A c xs (by simpa using h) (by omega) w).mono ?_
    rintro e w' ⟨rfl, rfl⟩
    rw [rampL_none h]
    exact ⟨_, rfl, World.ownsRow_nil _ _ _ _, Below.refl _ _⟩

theorem lent_sees {w : World} {lo g : Nat} {xs : List Int} (h : w.ownsRow lo 22 1 (.slice (some ⟨g, 0, none⟩) (xs.length + 70) (xs.length + 70)) (xs.length + 70) (lentL xs)) : Sees w w.heap.size (some ⟨g, 0, none⟩) (xs.map (.int .i32)) := by
  have h3 := own_take h (m := xs.length) (by omega)
  unfold lentL at h3
  rw [List.take_append_of_le_length (by simp), List.take_of_length_le (by simp)] at h3
  exact Sees.of_own h3

/-- the first k places of what was lent, written over with the last ones first -/
def lapK (xs : List Int) (k : Nat) : List Value := (xs.reverse.map (.int .i32)).take k ++ (lentL xs).drop k
theorem lapK_zero (xs : List Int) : lapK xs 0 = lentL xs := by simp [lapK]
theorem lapK_full (xs : List Int) : lapK xs xs.length = lentL xs.reverse := by
  unfold lapK lentL
  rw [List.take_of_length_le (by simp), List.drop_append_of_le_length (by simp), List.drop_of_length_le (by simp)]
  simp
theorem lapK_len (xs : List Int) (k : Nat) (h : k ≤ xs.length) : (lapK xs k).length = xs.length + 70 := by
  unfold lapK; rw [List.length_append, List.length_take, List.length_drop, lentL_len]; simp; omega
theorem lapK_set (xs : List Int) (k : Nat) (h : k < xs.length) : (lapK xs k).set k (.int .i32 (xs.reverse.getD k 0)) = lapK xs (k + 1) := by
  have l1 : ((xs.reverse.map (Value.int .i32)).take k).length = k := by rw [List.length_take]; simp; omega
  have l2 : k < (lentL xs).length := by rw [lentL_len]; omega
  have l3 : k < (xs.reverse.map (Value.int .i32)).length := by simp; omega
  unfold lapK
  rw [List.set_append_right _ _ (by omega), l1, Nat.sub_self, List.drop_eq_getElem_cons l2, List.set_cons_zero, List.take_succ_eq_append_getElem l3, List.append_assoc]
  congr 1
  simp only [List.getElem_map, List.cons_append, List.nil_append]
  rw [List.getD_eq_getElem?_getD, List.getElem?_eq_getElem (show k < xs.reverse.length by simp; omega)]
  rfl

namespace tintRamps
set_option maxHeartbeats 8000000 in
set_option maxRecDepth 100000 in
theorem tintRamps_walk (n m : Int) (A1 A2 : Option Addr) (c1 c2 : Nat) (xs ys : List Int) (hA1 : A1 = none → c1 = 0) (hA2 : A2 = none → c2 = 0) (hx : ∀ x ∈ xs, -2147483648 ≤ x ∧ x ≤ 2147483647) (hy : ∀ x ∈ ys, -2147483648 ≤ x ∧ x ≤ 2147483647)
    (lx : xs.length ≤ 35184372087808) (ly : ys.length ≤ 35184372087808) (w : World) (hS1 : Sees w w.heap.size A1 (xs.map (.int .i32))) (hS2 : Sees w w.heap.size A2 (ys.map (.int .i32))) (E : Env w) :
    Calls Tryd.prog 9 #[.int .i64 n, .slice A1 xs.length c1, .int .i64 m, .slice A2 ys.length c2] w fun e w' => e = .returned (.bool true) ∧ Below w.heap.size w w' := by
  have C1 := Lib.hid (fun A c W h => ref_Ramp n A c xs hx lx W h)
  have C2 := Lib.hid (fun A c W h => ref_Ramp m A c ys hy ly W h)
  have C3 := Lib.hid (fun A c W h => tint_Ramp n A c xs lx W h)
  have C4 := Lib.hid (fun A c W h => tint_Ramp m A c ys ly W h)
  have C5 := fun A c W h => tint_Ramp n A c xs.reverse (by rw [List.length_reverse]; exact lx) W h
  simp only [List.length_reverse] at C5
  have C5 := Lib.hid C5
  have C6 := fun A c W h => ref_Ramp n A c xs.reverse (fun x hx' => hx x (List.mem_reverse.1 hx')) (by rw [List.length_reverse]; exact lx) W h
  simp only [List.length_reverse] at C6
  have C6 := Lib.hid C6
  have D1 := Lib.hid (fun W h => law_lent A1 c1 xs hA1 lx W h)
  have D2 := Lib.hid (fun W h => law_lent A2 c2 ys hA2 ly W h)
  have K1 := Lib.hid (fun g lo W h h' => law_kept g lo A1 c1 xs (by omega) W h h')
  have K2 := Lib.hid (fun g lo W h h' => law_kept g lo A2 c2 ys (by omega) W h h')
  have TN := Lib.hid (fun W h => law_turn A1 c1 xs lx W h)
  have LL : (rampL n xs).length ≤ 4096 ∧ (rampL m ys).length ≤ 4096 ∧ (rampL n xs.reverse).length ≤ 4096 := by
    have g : ∀ (n : Int) (xs : List Int), (rampL n xs).length ≤ 4096 := by
      intro n xs
      by_cases h : rampOk n xs.length = true
      · rw [rampL_len h]; unfold rampOk at h; rw [decide_eq_true_iff] at h; omega
      · rw [rampL_none h]; simp
    exact ⟨g _ _, g _ _, g _ _⟩
  obtain ⟨ll1, ll2, ll3⟩ := LL
  have S1 := Lib.hid hS1
  have S2 := Lib.hid hS2
  have E := Lib.hid E
  have LXB : (xs.length : Int) ≤ 35184372087808 := by omega
  clear hx hy hS1 hS2 hA1 hA2 ly lx
  generalize rampL n xs = X at *
  generalize rampL m ys = Y at *
  generalize rampL n xs.reverse = Z at *
  have SM := Lib.hid (fun A B c d W h h' => law_same A B c d X (by omega) W h h')
  have SMY := Lib.hid (fun A B c d W h h' => law_same A B c d Y (by omega) W h h')
  have SMZ := Lib.hid (fun A B c d W h h' => law_same A B c d Z (by omega) W h h')
  have lX : (X.map (Value.int .i32)).length = X.length := List.length_map ..
  have lY : (Y.map (Value.int .i32)).length = Y.length := List.length_map ..
  have lZ : (Z.map (Value.int .i32)).length = Z.length := List.length_map ..
  have lX := Lib.hid lX; have lY := Lib.hid lY; have lZ := Lib.hid lZ
  have R := Lib.hid (Rows.start w)
  go_enter Tryd.func9, Tryd.ntmps9
  go_wp2_with fail
  refine (C1.out A1 c1 _ ((S1.out.below R.out.bel (Nat.le_refl _)).more R.out.bel.size)).mono ?_
  rintro e w1 ⟨v, rfl, ho, hb⟩
  rw [lX.out] at ho
  obtain ⟨P1, q1, rfl, n1⟩ := own_slice ho
  have R1 : Rows w w1 [⟨w.heap.size, w1.heap.size, 22, 1, .slice P1 X.length q1, X.length, (X.map (.int .i32))⟩] := R.out.add hb ho
  have R := Lib.hid R1
  clear R1
  clear hb ho n1
  go_wp2_with fail
  refine (C2.out A2 c2 _ ((S2.out.below R.out.bel (Nat.le_refl _)).more R.out.bel.size)).mono ?_
  rintro e w2 ⟨v, rfl, ho, hb⟩
  rw [lY.out] at ho
  obtain ⟨P2, q2, rfl, n2⟩ := own_slice ho
  have R2 : Rows w w2 [⟨w.heap.size, w1.heap.size, 22, 1, .slice P1 X.length q1, X.length, (X.map (.int .i32))⟩, ⟨w1.heap.size, w2.heap.size, 22, 1, .slice P2 Y.length q2, Y.length, (Y.map (.int .i32))⟩] := R.out.add hb ho
  have R := Lib.hid R2
  clear R2
  clear hb ho n2
  go_wp2_with fail
  refine (D1.out _ ((S1.out.below R.out.bel (Nat.le_refl _)).more R.out.bel.size)).mono ?_
  rintro e w3 ⟨rfl, ho, hb⟩
  have R3 : Rows w w3 [⟨w.heap.size, w1.heap.size, 22, 1, .slice P1 X.length q1, X.length, (X.map (.int .i32))⟩, ⟨w1.heap.size, w2.heap.size, 22, 1, .slice P2 Y.length q2, Y.length, (Y.map (.int .i32))⟩, ⟨w2.heap.size, w3.heap.size, 22, 1, .slice (some ⟨w2.heap.size, 0, none⟩) (xs.length + 70) (xs.length + 70), (xs.length + 70), (lentL xs)⟩] := R.out.add hb ho
  have R := Lib.hid R3
  clear R3
  clear hb ho
  go_wp2_with fail
  refine (D2.out _ ((S2.out.below R.out.bel (Nat.le_refl _)).more R.out.bel.size)).mono ?_
  rintro e w4 ⟨rfl, ho, hb⟩
  have R4 : Rows w w4 [⟨w.heap.size, w1.heap.size, 22, 1, .slice P1 X.length q1, X.length, (X.map (.int .i32))⟩, ⟨w1.heap.size, w2.heap.size, 22, 1, .slice P2 Y.length q2, Y.length, (Y.map (.int .i32))⟩, ⟨w2.heap.size, w3.heap.size, 22, 1, .slice (some ⟨w2.heap.size, 0, none⟩) (xs.length + 70) (xs.length + 70), (xs.length + 70), (lentL xs)⟩, ⟨w3.heap.size, w4.heap.size, 22, 1, .slice (some ⟨w3.heap.size, 0, none⟩) (ys.length + 70) (ys.length + 70), (ys.length + 70), (lentL ys)⟩] := R.out.add hb ho
  have R := Lib.hid R4
  clear R4
  clear hb ho
  go_wp2_with fail
  refine (C3.out _ _ _ (lent_sees (R.out.get ⟨w2.heap.size, w3.heap.size, 22, 1, .slice (some ⟨w2.heap.size, 0, none⟩) (xs.length + 70) (xs.length + 70), (xs.length + 70), (lentL xs)⟩ (by simp)))).mono ?_
  rintro e w5 ⟨Pa, rfl, na, ho, hb⟩
  rw [lX.out] at ho na
  rw [lX.out]
  have Na := Lib.hid na
  have R5 : Rows w w5 [⟨w.heap.size, w1.heap.size, 22, 1, .slice P1 X.length q1, X.length, (X.map (.int .i32))⟩, ⟨w1.heap.size, w2.heap.size, 22, 1, .slice P2 Y.length q2, Y.length, (Y.map (.int .i32))⟩, ⟨w2.heap.size, w3.heap.size, 22, 1, .slice (some ⟨w2.heap.size, 0, none⟩) (xs.length + 70) (xs.length + 70), (xs.length + 70), (lentL xs)⟩, ⟨w3.heap.size, w4.heap.size, 22, 1, .slice (some ⟨w3.heap.size, 0, none⟩) (ys.length + 70) (ys.length + 70), (ys.length + 70), (lentL ys)⟩, ⟨w4.heap.size, w5.heap.size, 22, 1, .slice Pa X.length X.length, X.length, (X.map (.int .i32))⟩] := R.out.add hb ho
  have R := Lib.hid R5
  clear R5
  clear hb ho na
  go_wp2_with fail
  refine (C3.out _ _ _ (lent_sees (R.out.get ⟨w2.heap.size, w3.heap.size, 22, 1, .slice (some ⟨w2.heap.size, 0, none⟩) (xs.length + 70) (xs.length + 70), (xs.length + 70), (lentL xs)⟩ (by simp)))).mono ?_
  rintro e w6 ⟨Pb, rfl, nb, ho, hb⟩
  rw [lX.out] at ho nb
  rw [lX.out]
  have Nb := Lib.hid nb
  have R6 : Rows w w6 [⟨w.heap.size, w1.heap.size, 22, 1, .slice P1 X.length q1, X.length, (X.map (.int .i32))⟩, ⟨w1.heap.size, w2.heap.size, 22, 1, .slice P2 Y.length q2, Y.length, (Y.map (.int .i32))⟩, ⟨w2.heap.size, w3.heap.size, 22, 1, .slice (some ⟨w2.heap.size, 0, none⟩) (xs.length + 70) (xs.length + 70), (xs.length + 70), (lentL xs)⟩, ⟨w3.heap.size, w4.heap.size, 22, 1, .slice (some ⟨w3.heap.size, 0, none⟩) (ys.length + 70) (ys.length + 70), (ys.length + 70), (lentL ys)⟩, ⟨w4.heap.size, w5.heap.size, 22, 1, .slice Pa X.length X.length, X.length, (X.map (.int .i32))⟩, ⟨w5.heap.size, w6.heap.size, 22, 1, .slice Pb X.length X.length, X.length, (X.map (.int .i32))⟩] := R.out.add hb ho
  have R := Lib.hid R6
  clear R6
  clear hb ho nb
  go_wp2_with fail
  refine (C4.out _ _ _ (lent_sees (R.out.get ⟨w3.heap.size, w4.heap.size, 22, 1, .slice (some ⟨w3.heap.size, 0, none⟩) (ys.length + 70) (ys.length + 70), (ys.length + 70), (lentL ys)⟩ (by simp)))).mono ?_
  rintro e w7 ⟨Pc, rfl, nc, ho, hb⟩
  rw [lY.out] at ho nc
  rw [lY.out]
  have Nc := Lib.hid nc
  have R7 : Rows w w7 [⟨w.heap.size, w1.heap.size, 22, 1, .slice P1 X.length q1, X.length, (X.map (.int .i32))⟩, ⟨w1.heap.size, w2.heap.size, 22, 1, .slice P2 Y.length q2, Y.length, (Y.map (.int .i32))⟩, ⟨w2.heap.size, w3.heap.size, 22, 1, .slice (some ⟨w2.heap.size, 0, none⟩) (xs.length + 70) (xs.length + 70), (xs.length + 70), (lentL xs)⟩, ⟨w3.heap.size, w4.heap.size, 22, 1, .slice (some ⟨w3.heap.size, 0, none⟩) (ys.length + 70) (ys.length + 70), (ys.length + 70), (lentL ys)⟩, ⟨w4.heap.size, w5.heap.size, 22, 1, .slice Pa X.length X.length, X.length, (X.map (.int .i32))⟩, ⟨w5.heap.size, w6.heap.size, 22, 1, .slice Pb X.length X.length, X.length, (X.map (.int .i32))⟩, ⟨w6.heap.size, w7.heap.size, 22, 1, .slice Pc Y.length Y.length, Y.length, (Y.map (.int .i32))⟩] := R.out.add hb ho
  have R := Lib.hid R7
  clear R7
  clear hb ho nc
  go_wp2_with fail
  refine (C3.out _ _ _ (lent_sees (R.out.get ⟨w2.heap.size, w3.heap.size, 22, 1, .slice (some ⟨w2.heap.size, 0, none⟩) (xs.length + 70) (xs.length + 70), (xs.length + 70), (lentL xs)⟩ (by simp)))).mono ?_
  rintro e w8 ⟨Pd, rfl, nd, ho, hb⟩
  rw [lX.out] at ho nd
  rw [lX.out]
  have Nd := Lib.hid nd
  have R8 : Rows w w8 [⟨w.heap.size, w1.heap.size, 22, 1, .slice P1 X.length q1, X.length, (X.map (.int .i32))⟩, ⟨w1.heap.size, w2.heap.size, 22, 1, .slice P2 Y.length q2, Y.length, (Y.map (.int .i32))⟩, ⟨w2.heap.size, w3.heap.size, 22, 1, .slice (some ⟨w2.heap.size, 0, none⟩) (xs.length + 70) (xs.length + 70), (xs.length + 70), (lentL xs)⟩, ⟨w3.heap.size, w4.heap.size, 22, 1, .slice (some ⟨w3.heap.size, 0, none⟩) (ys.length + 70) (ys.length + 70), (ys.length + 70), (lentL ys)⟩, ⟨w4.heap.size, w5.heap.size, 22, 1, .slice Pa X.length X.length, X.length, (X.map (.int .i32))⟩, ⟨w5.heap.size, w6.heap.size, 22, 1, .slice Pb X.length X.length, X.length, (X.map (.int .i32))⟩, ⟨w6.heap.size, w7.heap.size, 22, 1, .slice Pc Y.length Y.length, Y.length, (Y.map (.int .i32))⟩, ⟨w7.heap.size, w8.heap.size, 22, 1, .slice Pd X.length X.length, X.length, (X.map (.int .i32))⟩] := R.out.add hb ho
  have R := Lib.hid R8
  clear R8
  clear hb ho nd
  go_wp2_with fail
  refine (SM.out _ _ _ _ _ (Sees.of_own (R.out.get ⟨w4.heap.size, w5.heap.size, 22, 1, .slice Pa X.length X.length, X.length, (X.map (.int .i32))⟩ (by simp))) (Sees.of_own (R.out.get ⟨w.heap.size, w1.heap.size, 22, 1, .slice P1 X.length q1, X.length, (X.map (.int .i32))⟩ (by simp)))).mono ?_
  rintro e w9 ⟨rfl, hb⟩
  have R9 : Rows w w9 [⟨w.heap.size, w1.heap.size, 22, 1, .slice P1 X.length q1, X.length, (X.map (.int .i32))⟩, ⟨w1.heap.size, w2.heap.size, 22, 1, .slice P2 Y.length q2, Y.length, (Y.map (.int .i32))⟩, ⟨w2.heap.size, w3.heap.size, 22, 1, .slice (some ⟨w2.heap.size, 0, none⟩) (xs.length + 70) (xs.length + 70), (xs.length + 70), (lentL xs)⟩, ⟨w3.heap.size, w4.heap.size, 22, 1, .slice (some ⟨w3.heap.size, 0, none⟩) (ys.length + 70) (ys.length + 70), (ys.length + 70), (lentL ys)⟩, ⟨w4.heap.size, w5.heap.size, 22, 1, .slice Pa X.length X.length, X.length, (X.map (.int .i32))⟩, ⟨w5.heap.size, w6.heap.size, 22, 1, .slice Pb X.length X.length, X.length, (X.map (.int .i32))⟩, ⟨w6.heap.size, w7.heap.size, 22, 1, .slice Pc Y.length Y.length, Y.length, (Y.map (.int .i32))⟩, ⟨w7.heap.size, w8.heap.size, 22, 1, .slice Pd X.length X.length, X.length, (X.map (.int .i32))⟩] := R.out.call hb
  have R := Lib.hid R9
  clear R9
  clear hb
  go_wp2_with fail
  refine (SM.out _ _ _ _ _ (Sees.of_own (R.out.get ⟨w5.heap.size, w6.heap.size, 22, 1, .slice Pb X.length X.length, X.length, (X.map (.int .i32))⟩ (by simp))) (Sees.of_own (R.out.get ⟨w.heap.size, w1.heap.size, 22, 1, .slice P1 X.length q1, X.length, (X.map (.int .i32))⟩ (by simp)))).mono ?_
  rintro e w10 ⟨rfl, hb⟩
  have R10 : Rows w w10 [⟨w.heap.size, w1.heap.size, 22, 1, .slice P1 X.length q1, X.length, (X.map (.int .i32))⟩, ⟨w1.heap.size, w2.heap.size, 22, 1, .slice P2 Y.length q2, Y.length, (Y.map (.int .i32))⟩, ⟨w2.heap.size, w3.heap.size, 22, 1, .slice (some ⟨w2.heap.size, 0, none⟩) (xs.length + 70) (xs.length + 70), (xs.length + 70), (lentL xs)⟩, ⟨w3.heap.size, w4.heap.size, 22, 1, .slice (some ⟨w3.heap.size, 0, none⟩) (ys.length + 70) (ys.length + 70), (ys.length + 70), (lentL ys)⟩, ⟨w4.heap.size, w5.heap.size, 22, 1, .slice Pa X.length X.length, X.length, (X.map (.int .i32))⟩, ⟨w5.heap.size, w6.heap.size, 22, 1, .slice Pb X.length X.length, X.length, (X.map (.int .i32))⟩, ⟨w6.heap.size, w7.heap.size, 22, 1, .slice Pc Y.length Y.length, Y.length, (Y.map (.int .i32))⟩, ⟨w7.heap.size, w8.heap.size, 22, 1, .slice Pd X.length X.length, X.length, (X.map (.int .i32))⟩] := R.out.call hb
  have R := Lib.hid R10
  clear R10
  clear hb
  go_wp2_with fail
  refine (SMY.out _ _ _ _ _ (Sees.of_own (R.out.get ⟨w6.heap.size, w7.heap.size, 22, 1, .slice Pc Y.length Y.length, Y.length, (Y.map (.int .i32))⟩ (by simp))) (Sees.of_own (R.out.get ⟨w1.heap.size, w2.heap.size, 22, 1, .slice P2 Y.length q2, Y.length, (Y.map (.int .i32))⟩ (by simp)))).mono ?_
  rintro e w11 ⟨rfl, hb⟩
  have R11 : Rows w w11 [⟨w.heap.size, w1.heap.size, 22, 1, .slice P1 X.length q1, X.length, (X.map (.int .i32))⟩, ⟨w1.heap.size, w2.heap.size, 22, 1, .slice P2 Y.length q2, Y.length, (Y.map (.int .i32))⟩, ⟨w2.heap.size, w3.heap.size, 22, 1, .slice (some ⟨w2.heap.size, 0, none⟩) (xs.length + 70) (xs.length + 70), (xs.length + 70), (lentL xs)⟩, ⟨w3.heap.size, w4.heap.size, 22, 1, .slice (some ⟨w3.heap.size, 0, none⟩) (ys.length + 70) (ys.length + 70), (ys.length + 70), (lentL ys)⟩, ⟨w4.heap.size, w5.heap.size, 22, 1, .slice Pa X.length X.length, X.length, (X.map (.int .i32))⟩, ⟨w5.heap.size, w6.heap.size, 22, 1, .slice Pb X.length X.length, X.length, (X.map (.int .i32))⟩, ⟨w6.heap.size, w7.heap.size, 22, 1, .slice Pc Y.length Y.length, Y.length, (Y.map (.int .i32))⟩, ⟨w7.heap.size, w8.heap.size, 22, 1, .slice Pd X.length X.length, X.length, (X.map (.int .i32))⟩] := R.out.call hb
  have R := Lib.hid R11
  clear R11
  clear hb
  go_wp2_with fail
  refine (SM.out _ _ _ _ _ (Sees.of_own (R.out.get ⟨w7.heap.size, w8.heap.size, 22, 1, .slice Pd X.length X.length, X.length, (X.map (.int .i32))⟩ (by simp))) (Sees.of_own (R.out.get ⟨w.heap.size, w1.heap.size, 22, 1, .slice P1 X.length q1, X.length, (X.map (.int .i32))⟩ (by simp)))).mono ?_
  rintro e w12 ⟨rfl, hb⟩
  have R12 : Rows w w12 [⟨w.heap.size, w1.heap.size, 22, 1, .slice P1 X.length q1, X.length, (X.map (.int .i32))⟩, ⟨w1.heap.size, w2.heap.size, 22, 1, .slice P2 Y.length q2, Y.length, (Y.map (.int .i32))⟩, ⟨w2.heap.size, w3.heap.size, 22, 1, .slice (some ⟨w2.heap.size, 0, none⟩) (xs.length + 70) (xs.length + 70), (xs.length + 70), (lentL xs)⟩, ⟨w3.heap.size, w4.heap.size, 22, 1, .slice (some ⟨w3.heap.size, 0, none⟩) (ys.length + 70) (ys.length + 70), (ys.length + 70), (lentL ys)⟩, ⟨w4.heap.size, w5.heap.size, 22, 1, .slice Pa X.length X.length, X.length, (X.map (.int .i32))⟩, ⟨w5.heap.size, w6.heap.size, 22, 1, .slice Pb X.length X.length, X.length, (X.map (.int .i32))⟩, ⟨w6.heap.size, w7.heap.size, 22, 1, .slice Pc Y.length Y.length, Y.length, (Y.map (.int .i32))⟩, ⟨w7.heap.size, w8.heap.size, 22, 1, .slice Pd X.length X.length, X.length, (X.map (.int .i32))⟩] := R.out.call hb
  have R := Lib.hid R12
  clear R12
  clear hb
  go_wp2_with fail
  refine (K1.out _ _ _ (R.out.get ⟨w2.heap.size, w3.heap.size, 22, 1, .slice (some ⟨w2.heap.size, 0, none⟩) (xs.length + 70) (xs.length + 70), (xs.length + 70), (lentL xs)⟩ (by simp)) ((S1.out.below R.out.bel (Nat.le_refl _)).more R.out.bel.size)).mono ?_
  rintro e w13 ⟨rfl, hb⟩
  have R13 : Rows w w13 [⟨w.heap.size, w1.heap.size, 22, 1, .slice P1 X.length q1, X.length, (X.map (.int .i32))⟩, ⟨w1.heap.size, w2.heap.size, 22, 1, .slice P2 Y.length q2, Y.length, (Y.map (.int .i32))⟩, ⟨w2.heap.size, w3.heap.size, 22, 1, .slice (some ⟨w2.heap.size, 0, none⟩) (xs.length + 70) (xs.length + 70), (xs.length + 70), (lentL xs)⟩, ⟨w3.heap.size, w4.heap.size, 22, 1, .slice (some ⟨w3.heap.size, 0, none⟩) (ys.length + 70) (ys.length + 70), (ys.length + 70), (lentL ys)⟩, ⟨w4.heap.size, w5.heap.size, 22, 1, .slice Pa X.length X.length, X.length, (X.map (.int .i32))⟩, ⟨w5.heap.size, w6.heap.size, 22, 1, .slice Pb X.length X.length, X.length, (X.map (.int .i32))⟩, ⟨w6.heap.size, w7.heap.size, 22, 1, .slice Pc Y.length Y.length, Y.length, (Y.map (.int .i32))⟩, ⟨w7.heap.size, w8.heap.size, 22, 1, .slice Pd X.length X.length, X.length, (X.map (.int .i32))⟩] := R.out.call hb
  have R := Lib.hid R13
  clear R13
  clear hb
  go_wp2_with fail
  refine (K2.out _ _ _ (R.out.get ⟨w3.heap.size, w4.heap.size, 22, 1, .slice (some ⟨w3.heap.size, 0, none⟩) (ys.length + 70) (ys.length + 70), (ys.length + 70), (lentL ys)⟩ (by simp)) ((S2.out.below R.out.bel (Nat.le_refl _)).more R.out.bel.size)).mono ?_
  rintro e w14 ⟨rfl, hb⟩
  have R14 : Rows w w14 [⟨w.heap.size, w1.heap.size, 22, 1, .slice P1 X.length q1, X.length, (X.map (.int .i32))⟩, ⟨w1.heap.size, w2.heap.size, 22, 1, .slice P2 Y.length q2, Y.length, (Y.map (.int .i32))⟩, ⟨w2.heap.size, w3.heap.size, 22, 1, .slice (some ⟨w2.heap.size, 0, none⟩) (xs.length + 70) (xs.length + 70), (xs.length + 70), (lentL xs)⟩, ⟨w3.heap.size, w4.heap.size, 22, 1, .slice (some ⟨w3.heap.size, 0, none⟩) (ys.length + 70) (ys.length + 70), (ys.length + 70), (lentL ys)⟩, ⟨w4.heap.size, w5.heap.size, 22, 1, .slice Pa X.length X.length, X.length, (X.map (.int .i32))⟩, ⟨w5.heap.size, w6.heap.size, 22, 1, .slice Pb X.length X.length, X.length, (X.map (.int .i32))⟩, ⟨w6.heap.size, w7.heap.size, 22, 1, .slice Pc Y.length Y.length, Y.length, (Y.map (.int .i32))⟩, ⟨w7.heap.size, w8.heap.size, 22, 1, .slice Pd X.length X.length, X.length, (X.map (.int .i32))⟩] := R.out.call hb
  have R := Lib.hid R14
  clear R14
  clear hb
  go_wp2_with fail
  refine (law_spoil _ X.length _ _ (-1) (by omega) _ (R.out.get ⟨w4.heap.size, w5.heap.size, 22, 1, .slice Pa X.length X.length, X.length, (X.map (.int .i32))⟩ (by simp))).mono ?_
  rintro e w15 ⟨rfl, ho, hg⟩
  have R15 : Rows w w15 [⟨w.heap.size, w1.heap.size, 22, 1, .slice P1 X.length q1, X.length, (X.map (.int .i32))⟩, ⟨w1.heap.size, w2.heap.size, 22, 1, .slice P2 Y.length q2, Y.length, (Y.map (.int .i32))⟩, ⟨w2.heap.size, w3.heap.size, 22, 1, .slice (some ⟨w2.heap.size, 0, none⟩) (xs.length + 70) (xs.length + 70), (xs.length + 70), (lentL xs)⟩, ⟨w3.heap.size, w4.heap.size, 22, 1, .slice (some ⟨w3.heap.size, 0, none⟩) (ys.length + 70) (ys.length + 70), (ys.length + 70), (lentL ys)⟩, ⟨w4.heap.size, w5.heap.size, 22, 1, .slice Pa X.length X.length, X.length, (List.replicate X.length (.int .i32 (-1)))⟩, ⟨w5.heap.size, w6.heap.size, 22, 1, .slice Pb X.length X.length, X.length, (X.map (.int .i32))⟩, ⟨w6.heap.size, w7.heap.size, 22, 1, .slice Pc Y.length Y.length, Y.length, (Y.map (.int .i32))⟩, ⟨w7.heap.size, w8.heap.size, 22, 1, .slice Pd X.length X.length, X.length, (X.map (.int .i32))⟩] := Rows.write (l1 := [⟨w.heap.size, w1.heap.size, 22, 1, .slice P1 X.length q1, X.length, (X.map (.int .i32))⟩, ⟨w1.heap.size, w2.heap.size, 22, 1, .slice P2 Y.length q2, Y.length, (Y.map (.int .i32))⟩, ⟨w2.heap.size, w3.heap.size, 22, 1, .slice (some ⟨w2.heap.size, 0, none⟩) (xs.length + 70) (xs.length + 70), (xs.length + 70), (lentL xs)⟩, ⟨w3.heap.size, w4.heap.size, 22, 1, .slice (some ⟨w3.heap.size, 0, none⟩) (ys.length + 70) (ys.length + 70), (ys.length + 70), (lentL ys)⟩]) (l2 := [⟨w5.heap.size, w6.heap.size, 22, 1, .slice Pb X.length X.length, X.length, (X.map (.int .i32))⟩, ⟨w6.heap.size, w7.heap.size, 22, 1, .slice Pc Y.length Y.length, Y.length, (Y.map (.int .i32))⟩, ⟨w7.heap.size, w8.heap.size, 22, 1, .slice Pd X.length X.length, X.length, (X.map (.int .i32))⟩]) (r := ⟨w4.heap.size, w5.heap.size, 22, 1, .slice Pa X.length X.length, X.length, (X.map (.int .i32))⟩) R.out hg ho
  have R := Lib.hid R15
  clear R15
  clear hg ho
  go_wp2_with fail
  refine (law_spoil _ Y.length _ _ (-2) (by omega) _ (R.out.get ⟨w6.heap.size, w7.heap.size, 22, 1, .slice Pc Y.length Y.length, Y.length, (Y.map (.int .i32))⟩ (by simp))).mono ?_
  rintro e w16 ⟨rfl, ho, hg⟩
  have R16 : Rows w w16 [⟨w.heap.size, w1.heap.size, 22, 1, .slice P1 X.length q1, X.length, (X.map (.int .i32))⟩, ⟨w1.heap.size, w2.heap.size, 22, 1, .slice P2 Y.length q2, Y.length, (Y.map (.int .i32))⟩, ⟨w2.heap.size, w3.heap.size, 22, 1, .slice (some ⟨w2.heap.size, 0, none⟩) (xs.length + 70) (xs.length + 70), (xs.length + 70), (lentL xs)⟩, ⟨w3.heap.size, w4.heap.size, 22, 1, .slice (some ⟨w3.heap.size, 0, none⟩) (ys.length + 70) (ys.length + 70), (ys.length + 70), (lentL ys)⟩, ⟨w4.heap.size, w5.heap.size, 22, 1, .slice Pa X.length X.length, X.length, (List.replicate X.length (.int .i32 (-1)))⟩, ⟨w5.heap.size, w6.heap.size, 22, 1, .slice Pb X.length X.length, X.length, (X.map (.int .i32))⟩, ⟨w6.heap.size, w7.heap.size, 22, 1, .slice Pc Y.length Y.length, Y.length, (List.replicate Y.length (.int .i32 (-2)))⟩, ⟨w7.heap.size, w8.heap.size, 22, 1, .slice Pd X.length X.length, X.length, (X.map (.int .i32))⟩] := Rows.write (l1 := [⟨w.heap.size, w1.heap.size, 22, 1, .slice P1 X.length q1, X.length, (X.map (.int .i32))⟩, ⟨w1.heap.size, w2.heap.size, 22, 1, .slice P2 Y.length q2, Y.length, (Y.map (.int .i32))⟩, ⟨w2.heap.size, w3.heap.size, 22, 1, .slice (some ⟨w2.heap.size, 0, none⟩) (xs.length + 70) (xs.length + 70), (xs.length + 70), (lentL xs)⟩, ⟨w3.heap.size, w4.heap.size, 22, 1, .slice (some ⟨w3.heap.size, 0, none⟩) (ys.length + 70) (ys.length + 70), (ys.length + 70), (lentL ys)⟩, ⟨w4.heap.size, w5.heap.size, 22, 1, .slice Pa X.length X.length, X.length, (List.replicate X.length (.int .i32 (-1)))⟩, ⟨w5.heap.size, w6.heap.size, 22, 1, .slice Pb X.length X.length, X.length, (X.map (.int .i32))⟩]) (l2 := [⟨w7.heap.size, w8.heap.size, 22, 1, .slice Pd X.length X.length, X.length, (X.map (.int .i32))⟩]) (r := ⟨w6.heap.size, w7.heap.size, 22, 1, .slice Pc Y.length Y.length, Y.length, (Y.map (.int .i32))⟩) R.out hg ho
  have R := Lib.hid R16
  clear R16
  clear hg ho
  go_wp2_with fail
  refine (law_grown _ _ _ (by simp) Na.out (-1) (by omega) _ (Sees.of_own (R.out.get ⟨w4.heap.size, w5.heap.size, 22, 1, .slice Pa X.length X.length, X.length, (List.replicate X.length (.int .i32 (-1)))⟩ (by simp)))).mono ?_
  rintro e w17 ⟨v, rfl, ho, hb⟩
  have lex : (List.replicate X.length (Value.int .i32 (-1)) ++ List.replicate 70 (Value.int .i32 (-1))).length = X.length + 70 := by simp
  rw [lex, List.replicate_append_replicate] at ho
  clear lex
  obtain ⟨Px, qx, rfl, nx⟩ := own_slice ho
  have R17 : Rows w w17 [⟨w.heap.size, w1.heap.size, 22, 1, .slice P1 X.length q1, X.length, (X.map (.int .i32))⟩, ⟨w1.heap.size, w2.heap.size, 22, 1, .slice P2 Y.length q2, Y.length, (Y.map (.int .i32))⟩, ⟨w2.heap.size, w3.heap.size, 22, 1, .slice (some ⟨w2.heap.size, 0, none⟩) (xs.length + 70) (xs.length + 70), (xs.length + 70), (lentL xs)⟩, ⟨w3.heap.size, w4.heap.size, 22, 1, .slice (some ⟨w3.heap.size, 0, none⟩) (ys.length + 70) (ys.length + 70), (ys.length + 70), (lentL ys)⟩, ⟨w4.heap.size, w5.heap.size, 22, 1, .slice Pa X.length X.length, X.length, (List.replicate X.length (.int .i32 (-1)))⟩, ⟨w5.heap.size, w6.heap.size, 22, 1, .slice Pb X.length X.length, X.length, (X.map (.int .i32))⟩, ⟨w6.heap.size, w7.heap.size, 22, 1, .slice Pc Y.length Y.length, Y.length, (List.replicate Y.length (.int .i32 (-2)))⟩, ⟨w7.heap.size, w8.heap.size, 22, 1, .slice Pd X.length X.length, X.length, (X.map (.int .i32))⟩, ⟨w16.heap.size, w17.heap.size, 22, 1, .slice Px (X.length + 70) qx, (X.length + 70), (List.replicate (X.length + 70) (.int .i32 (-1)))⟩] := R.out.add hb ho
  have R := Lib.hid R17
  clear R17
  clear hb ho nx
  go_wp2_with fail
  refine (law_grown _ _ _ (by simp) Nc.out (-2) (by omega) _ (Sees.of_own (R.out.get ⟨w6.heap.size, w7.heap.size, 22, 1, .slice Pc Y.length Y.length, Y.length, (List.replicate Y.length (.int .i32 (-2)))⟩ (by simp)))).mono ?_
  rintro e w18 ⟨v, rfl, ho, hb⟩
  have ley : (List.replicate Y.length (Value.int .i32 (-2)) ++ List.replicate 70 (Value.int .i32 (-2))).length = Y.length + 70 := by simp
  rw [ley, List.replicate_append_replicate] at ho
  clear ley
  obtain ⟨Py, qy, rfl, ny⟩ := own_slice ho
  have R18 : Rows w w18 [⟨w.heap.size, w1.heap.size, 22, 1, .slice P1 X.length q1, X.length, (X.map (.int .i32))⟩, ⟨w1.heap.size, w2.heap.size, 22, 1, .slice P2 Y.length q2, Y.length, (Y.map (.int .i32))⟩, ⟨w2.heap.size, w3.heap.size, 22, 1, .slice (some ⟨w2.heap.size, 0, none⟩) (xs.length + 70) (xs.length + 70), (xs.length + 70), (lentL xs)⟩, ⟨w3.heap.size, w4.heap.size, 22, 1, .slice (some ⟨w3.heap.size, 0, none⟩) (ys.length + 70) (ys.length + 70), (ys.length + 70), (lentL ys)⟩, ⟨w4.heap.size, w5.heap.size, 22, 1, .slice Pa X.length X.length, X.length, (List.replicate X.length (.int .i32 (-1)))⟩, ⟨w5.heap.size, w6.heap.size, 22, 1, .slice Pb X.length X.length, X.length, (X.map (.int .i32))⟩, ⟨w6.heap.size, w7.heap.size, 22, 1, .slice Pc Y.length Y.length, Y.length, (List.replicate Y.length (.int .i32 (-2)))⟩, ⟨w7.heap.size, w8.heap.size, 22, 1, .slice Pd X.length X.length, X.length, (X.map (.int .i32))⟩, ⟨w16.heap.size, w17.heap.size, 22, 1, .slice Px (X.length + 70) qx, (X.length + 70), (List.replicate (X.length + 70) (.int .i32 (-1)))⟩, ⟨w17.heap.size, w18.heap.size, 22, 1, .slice Py (Y.length + 70) qy, (Y.length + 70), (List.replicate (Y.length + 70) (.int .i32 (-2)))⟩] := R.out.add hb ho
  have R := Lib.hid R18
  clear R18
  clear hb ho ny
  go_wp2_with fail
  refine (law_marked _ _ _ (-1) (by omega) _ (Sees.of_own (R.out.get ⟨w16.heap.size, w17.heap.size, 22, 1, .slice Px (X.length + 70) qx, (X.length + 70), (List.replicate (X.length + 70) (.int .i32 (-1)))⟩ (by simp)))).mono ?_
  rintro e w19 ⟨rfl, hb⟩
  have R19 : Rows w w19 [⟨w.heap.size, w1.heap.size, 22, 1, .slice P1 X.length q1, X.length, (X.map (.int .i32))⟩, ⟨w1.heap.size, w2.heap.size, 22, 1, .slice P2 Y.length q2, Y.length, (Y.map (.int .i32))⟩, ⟨w2.heap.size, w3.heap.size, 22, 1, .slice (some ⟨w2.heap.size, 0, none⟩) (xs.length + 70) (xs.length + 70), (xs.length + 70), (lentL xs)⟩, ⟨w3.heap.size, w4.heap.size, 22, 1, .slice (some ⟨w3.heap.size, 0, none⟩) (ys.length + 70) (ys.length + 70), (ys.length + 70), (lentL ys)⟩, ⟨w4.heap.size, w5.heap.size, 22, 1, .slice Pa X.length X.length, X.length, (List.replicate X.length (.int .i32 (-1)))⟩, ⟨w5.heap.size, w6.heap.size, 22, 1, .slice Pb X.length X.length, X.length, (X.map (.int .i32))⟩, ⟨w6.heap.size, w7.heap.size, 22, 1, .slice Pc Y.length Y.length, Y.length, (List.replicate Y.length (.int .i32 (-2)))⟩, ⟨w7.heap.size, w8.heap.size, 22, 1, .slice Pd X.length X.length, X.length, (X.map (.int .i32))⟩, ⟨w16.heap.size, w17.heap.size, 22, 1, .slice Px (X.length + 70) qx, (X.length + 70), (List.replicate (X.length + 70) (.int .i32 (-1)))⟩, ⟨w17.heap.size, w18.heap.size, 22, 1, .slice Py (Y.length + 70) qy, (Y.length + 70), (List.replicate (Y.length + 70) (.int .i32 (-2)))⟩] := R.out.call hb
  have R := Lib.hid R19
  clear R19
  clear hb
  go_wp2_with fail
  refine (law_marked _ _ _ (-2) (by omega) _ (Sees.of_own (R.out.get ⟨w17.heap.size, w18.heap.size, 22, 1, .slice Py (Y.length + 70) qy, (Y.length + 70), (List.replicate (Y.length + 70) (.int .i32 (-2)))⟩ (by simp)))).mono ?_
  rintro e w20 ⟨rfl, hb⟩
  have R20 : Rows w w20 [⟨w.heap.size, w1.heap.size, 22, 1, .slice P1 X.length q1, X.length, (X.map (.int .i32))⟩, ⟨w1.heap.size, w2.heap.size, 22, 1, .slice P2 Y.length q2, Y.length, (Y.map (.int .i32))⟩, ⟨w2.heap.size, w3.heap.size, 22, 1, .slice (some ⟨w2.heap.size, 0, none⟩) (xs.length + 70) (xs.length + 70), (xs.length + 70), (lentL xs)⟩, ⟨w3.heap.size, w4.heap.size, 22, 1, .slice (some ⟨w3.heap.size, 0, none⟩) (ys.length + 70) (ys.length + 70), (ys.length + 70), (lentL ys)⟩, ⟨w4.heap.size, w5.heap.size, 22, 1, .slice Pa X.length X.length, X.length, (List.replicate X.length (.int .i32 (-1)))⟩, ⟨w5.heap.size, w6.heap.size, 22, 1, .slice Pb X.length X.length, X.length, (X.map (.int .i32))⟩, ⟨w6.heap.size, w7.heap.size, 22, 1, .slice Pc Y.length Y.length, Y.length, (List.replicate Y.length (.int .i32 (-2)))⟩, ⟨w7.heap.size, w8.heap.size, 22, 1, .slice Pd X.length X.length, X.length, (X.map (.int .i32))⟩, ⟨w16.heap.size, w17.heap.size, 22, 1, .slice Px (X.length + 70) qx, (X.length + 70), (List.replicate (X.length + 70) (.int .i32 (-1)))⟩, ⟨w17.heap.size, w18.heap.size, 22, 1, .slice Py (Y.length + 70) qy, (Y.length + 70), (List.replicate (Y.length + 70) (.int .i32 (-2)))⟩] := R.out.call hb
  have R := Lib.hid R20
  clear R20
  clear hb
  go_wp2_with fail
  refine (law_marked _ _ _ (-1) (by omega) _ (Sees.of_own (R.out.get ⟨w4.heap.size, w5.heap.size, 22, 1, .slice Pa X.length X.length, X.length, (List.replicate X.length (.int .i32 (-1)))⟩ (by simp)))).mono ?_
  rintro e w21 ⟨rfl, hb⟩
  have R21 : Rows w w21 [⟨w.heap.size, w1.heap.size, 22, 1, .slice P1 X.length q1, X.length, (X.map (.int .i32))⟩, ⟨w1.heap.size, w2.heap.size, 22, 1, .slice P2 Y.length q2, Y.length, (Y.map (.int .i32))⟩, ⟨w2.heap.size, w3.heap.size, 22, 1, .slice (some ⟨w2.heap.size, 0, none⟩) (xs.length + 70) (xs.length + 70), (xs.length + 70), (lentL xs)⟩, ⟨w3.heap.size, w4.heap.size, 22, 1, .slice (some ⟨w3.heap.size, 0, none⟩) (ys.length + 70) (ys.length + 70), (ys.length + 70), (lentL ys)⟩, ⟨w4.heap.size, w5.heap.size, 22, 1, .slice Pa X.length X.length, X.length, (List.replicate X.length (.int .i32 (-1)))⟩, ⟨w5.heap.size, w6.heap.size, 22, 1, .slice Pb X.length X.length, X.length, (X.map (.int .i32))⟩, ⟨w6.heap.size, w7.heap.size, 22, 1, .slice Pc Y.length Y.length, Y.length, (List.replicate Y.length (.int .i32 (-2)))⟩, ⟨w7.heap.size, w8.heap.size, 22, 1, .slice Pd X.length X.length, X.length, (X.map (.int .i32))⟩, ⟨w16.heap.size, w17.heap.size, 22, 1, .slice Px (X.length + 70) qx, (X.length + 70), (List.replicate (X.length + 70) (.int .i32 (-1)))⟩, ⟨w17.heap.size, w18.heap.size, 22, 1, .slice Py (Y.length + 70) qy, (Y.length + 70), (List.replicate (Y.length + 70) (.int .i32 (-2)))⟩] := R.out.call hb
  have R := Lib.hid R21
  clear R21
  clear hb
  go_wp2_with fail
  refine (law_marked _ _ _ (-2) (by omega) _ (Sees.of_own (R.out.get ⟨w6.heap.size, w7.heap.size, 22, 1, .slice Pc Y.length Y.length, Y.length, (List.replicate Y.length (.int .i32 (-2)))⟩ (by simp)))).mono ?_
  rintro e w22 ⟨rfl, hb⟩
  have R22 : Rows w w22 [⟨w.heap.size, w1.heap.size, 22, 1, .slice P1 X.length q1, X.length, (X.map (.int .i32))⟩, ⟨w1.heap.size, w2.heap.size, 22, 1, .slice P2 Y.length q2, Y.length, (Y.map (.int .i32))⟩, ⟨w2.heap.size, w3.heap.size, 22, 1, .slice (some ⟨w2.heap.size, 0, none⟩) (xs.length + 70) (xs.length + 70), (xs.length + 70), (lentL xs)⟩, ⟨w3.heap.size, w4.heap.size, 22, 1, .slice (some ⟨w3.heap.size, 0, none⟩) (ys.length + 70) (ys.length + 70), (ys.length + 70), (lentL ys)⟩, ⟨w4.heap.size, w5.heap.size, 22, 1, .slice Pa X.length X.length, X.length, (List.replicate X.length (.int .i32 (-1)))⟩, ⟨w5.heap.size, w6.heap.size, 22, 1, .slice Pb X.length X.length, X.length, (X.map (.int .i32))⟩, ⟨w6.heap.size, w7.heap.size, 22, 1, .slice Pc Y.length Y.length, Y.length, (List.replicate Y.length (.int .i32 (-2)))⟩, ⟨w7.heap.size, w8.heap.size, 22, 1, .slice Pd X.length X.length, X.length, (X.map (.int .i32))⟩, ⟨w16.heap.size, w17.heap.size, 22, 1, .slice Px (X.length + 70) qx, (X.length + 70), (List.replicate (X.length + 70) (.int .i32 (-1)))⟩, ⟨w17.heap.size, w18.heap.size, 22, 1, .slice Py (Y.length + 70) qy, (Y.length + 70), (List.replicate (Y.length + 70) (.int .i32 (-2)))⟩] := R.out.call hb
  have R := Lib.hid R22
  clear R22
  clear hb
  go_wp2_with fail
  refine (SM.out _ _ _ _ _ (Sees.of_own (R.out.get ⟨w5.heap.size, w6.heap.size, 22, 1, .slice Pb X.length X.length, X.length, (X.map (.int .i32))⟩ (by simp))) (Sees.of_own (R.out.get ⟨w.heap.size, w1.heap.size, 22, 1, .slice P1 X.length q1, X.length, (X.map (.int .i32))⟩ (by simp)))).mono ?_
  rintro e w23 ⟨rfl, hb⟩
  have R23 : Rows w w23 [⟨w.heap.size, w1.heap.size, 22, 1, .slice P1 X.length q1, X.length, (X.map (.int .i32))⟩, ⟨w1.heap.size, w2.heap.size, 22, 1, .slice P2 Y.length q2, Y.length, (Y.map (.int .i32))⟩, ⟨w2.heap.size, w3.heap.size, 22, 1, .slice (some ⟨w2.heap.size, 0, none⟩) (xs.length + 70) (xs.length + 70), (xs.length + 70), (lentL xs)⟩, ⟨w3.heap.size, w4.heap.size, 22, 1, .slice (some ⟨w3.heap.size, 0, none⟩) (ys.length + 70) (ys.length + 70), (ys.length + 70), (lentL ys)⟩, ⟨w4.heap.size, w5.heap.size, 22, 1, .slice Pa X.length X.length, X.length, (List.replicate X.length (.int .i32 (-1)))⟩, ⟨w5.heap.size, w6.heap.size, 22, 1, .slice Pb X.length X.length, X.length, (X.map (.int .i32))⟩, ⟨w6.heap.size, w7.heap.size, 22, 1, .slice Pc Y.length Y.length, Y.length, (List.replicate Y.length (.int .i32 (-2)))⟩, ⟨w7.heap.size, w8.heap.size, 22, 1, .slice Pd X.length X.length, X.length, (X.map (.int .i32))⟩, ⟨w16.heap.size, w17.heap.size, 22, 1, .slice Px (X.length + 70) qx, (X.length + 70), (List.replicate (X.length + 70) (.int .i32 (-1)))⟩, ⟨w17.heap.size, w18.heap.size, 22, 1, .slice Py (Y.length + 70) qy, (Y.length + 70), (List.replicate (Y.length + 70) (.int .i32 (-2)))⟩] := R.out.call hb
  have R := Lib.hid R23
  clear R23
  clear hb
  go_wp2_with fail
  refine (SM.out _ _ _ _ _ (Sees.of_own (R.out.get ⟨w7.heap.size, w8.heap.size, 22, 1, .slice Pd X.length X.length, X.length, (X.map (.int .i32))⟩ (by simp))) (Sees.of_own (R.out.get ⟨w.heap.size, w1.heap.size, 22, 1, .slice P1 X.length q1, X.length, (X.map (.int .i32))⟩ (by simp)))).mono ?_
  rintro e w24 ⟨rfl, hb⟩
  have R24 : Rows w w24 [⟨w.heap.size, w1.heap.size, 22, 1, .slice P1 X.length q1, X.length, (X.map (.int .i32))⟩, ⟨w1.heap.size, w2.heap.size, 22, 1, .slice P2 Y.length q2, Y.length, (Y.map (.int .i32))⟩, ⟨w2.heap.size, w3.heap.size, 22, 1, .slice (some ⟨w2.heap.size, 0, none⟩) (xs.length + 70) (xs.length + 70), (xs.length + 70), (lentL xs)⟩, ⟨w3.heap.size, w4.heap.size, 22, 1, .slice (some ⟨w3.heap.size, 0, none⟩) (ys.length + 70) (ys.length + 70), (ys.length + 70), (lentL ys)⟩, ⟨w4.heap.size, w5.heap.size, 22, 1, .slice Pa X.length X.length, X.length, (List.replicate X.length (.int .i32 (-1)))⟩, ⟨w5.heap.size, w6.heap.size, 22, 1, .slice Pb X.length X.length, X.length, (X.map (.int .i32))⟩, ⟨w6.heap.size, w7.heap.size, 22, 1, .slice Pc Y.length Y.length, Y.length, (List.replicate Y.length (.int .i32 (-2)))⟩, ⟨w7.heap.size, w8.heap.size, 22, 1, .slice Pd X.length X.length, X.length, (X.map (.int .i32))⟩, ⟨w16.heap.size, w17.heap.size, 22, 1, .slice Px (X.length + 70) qx, (X.length + 70), (List.replicate (X.length + 70) (.int .i32 (-1)))⟩, ⟨w17.heap.size, w18.heap.size, 22, 1, .slice Py (Y.length + 70) qy, (Y.length + 70), (List.replicate (Y.length + 70) (.int .i32 (-2)))⟩] := R.out.call hb
  have R := Lib.hid R24
  clear R24
  clear hb
  go_wp2_with fail
  refine (K1.out _ _ _ (R.out.get ⟨w2.heap.size, w3.heap.size, 22, 1, .slice (some ⟨w2.heap.size, 0, none⟩) (xs.length + 70) (xs.length + 70), (xs.length + 70), (lentL xs)⟩ (by simp)) ((S1.out.below R.out.bel (Nat.le_refl _)).more R.out.bel.size)).mono ?_
  rintro e w25 ⟨rfl, hb⟩
  have R25 : Rows w w25 [⟨w.heap.size, w1.heap.size, 22, 1, .slice P1 X.length q1, X.length, (X.map (.int .i32))⟩, ⟨w1.heap.size, w2.heap.size, 22, 1, .slice P2 Y.length q2, Y.length, (Y.map (.int .i32))⟩, ⟨w2.heap.size, w3.heap.size, 22, 1, .slice (some ⟨w2.heap.size, 0, none⟩) (xs.length + 70) (xs.length + 70), (xs.length + 70), (lentL xs)⟩, ⟨w3.heap.size, w4.heap.size, 22, 1, .slice (some ⟨w3.heap.size, 0, none⟩) (ys.length + 70) (ys.length + 70), (ys.length + 70), (lentL ys)⟩, ⟨w4.heap.size, w5.heap.size, 22, 1, .slice Pa X.length X.length, X.length, (List.replicate X.length (.int .i32 (-1)))⟩, ⟨w5.heap.size, w6.heap.size, 22, 1, .slice Pb X.length X.length, X.length, (X.map (.int .i32))⟩, ⟨w6.heap.size, w7.heap.size, 22, 1, .slice Pc Y.length Y.length, Y.length, (List.replicate Y.length (.int .i32 (-2)))⟩, ⟨w7.heap.size, w8.heap.size, 22, 1, .slice Pd X.length X.length, X.length, (X.map (.int .i32))⟩, ⟨w16.heap.size, w17.heap.size, 22, 1, .slice Px (X.length + 70) qx, (X.length + 70), (List.replicate (X.length + 70) (.int .i32 (-1)))⟩, ⟨w17.heap.size, w18.heap.size, 22, 1, .slice Py (Y.length + 70) qy, (Y.length + 70), (List.replicate (Y.length + 70) (.int .i32 (-2)))⟩] := R.out.call hb
  have R := Lib.hid R25
  clear R25
  clear hb
  go_wp2_with fail
  refine (K2.out _ _ _ (R.out.get ⟨w3.heap.size, w4.heap.size, 22, 1, .slice (some ⟨w3.heap.size, 0, none⟩) (ys.length + 70) (ys.length + 70), (ys.length + 70), (lentL ys)⟩ (by simp)) ((S2.out.below R.out.bel (Nat.le_refl _)).more R.out.bel.size)).mono ?_
  rintro e w26 ⟨rfl, hb⟩
  have R26 : Rows w w26 [⟨w.heap.size, w1.heap.size, 22, 1, .slice P1 X.length q1, X.length, (X.map (.int .i32))⟩, ⟨w1.heap.size, w2.heap.size, 22, 1, .slice P2 Y.length q2, Y.length, (Y.map (.int .i32))⟩, ⟨w2.heap.size, w3.heap.size, 22, 1, .slice (some ⟨w2.heap.size, 0, none⟩) (xs.length + 70) (xs.length + 70), (xs.length + 70), (lentL xs)⟩, ⟨w3.heap.size, w4.heap.size, 22, 1, .slice (some ⟨w3.heap.size, 0, none⟩) (ys.length + 70) (ys.length + 70), (ys.length + 70), (lentL ys)⟩, ⟨w4.heap.size, w5.heap.size, 22, 1, .slice Pa X.length X.length, X.length, (List.replicate X.length (.int .i32 (-1)))⟩, ⟨w5.heap.size, w6.heap.size, 22, 1, .slice Pb X.length X.length, X.length, (X.map (.int .i32))⟩, ⟨w6.heap.size, w7.heap.size, 22, 1, .slice Pc Y.length Y.length, Y.length, (List.replicate Y.length (.int .i32 (-2)))⟩, ⟨w7.heap.size, w8.heap.size, 22, 1, .slice Pd X.length X.length, X.length, (X.map (.int .i32))⟩, ⟨w16.heap.size, w17.heap.size, 22, 1, .slice Px (X.length + 70) qx, (X.length + 70), (List.replicate (X.length + 70) (.int .i32 (-1)))⟩, ⟨w17.heap.size, w18.heap.size, 22, 1, .slice Py (Y.length + 70) qy, (Y.length + 70), (List.replicate (Y.length + 70) (.int .i32 (-2)))⟩] := R.out.call hb
  have R := Lib.hid R26
  clear R26
  clear hb
  go_wp2_with fail
  refine (TN.out _ ((S1.out.below R.out.bel (Nat.le_refl _)).more R.out.bel.size)).mono ?_
  rintro e w27 ⟨v, rfl, ho, hb⟩
  have let1 : (xs.reverse.map (Value.int .i32)).length = xs.length := by simp
  rw [let1] at ho
  clear let1
  obtain ⟨Pt, qt, rfl, nt⟩ := own_slice ho
  have R27 : Rows w w27 [⟨w.heap.size, w1.heap.size, 22, 1, .slice P1 X.length q1, X.length, (X.map (.int .i32))⟩, ⟨w1.heap.size, w2.heap.size, 22, 1, .slice P2 Y.length q2, Y.length, (Y.map (.int .i32))⟩, ⟨w2.heap.size, w3.heap.size, 22, 1, .slice (some ⟨w2.heap.size, 0, none⟩) (xs.length + 70) (xs.length + 70), (xs.length + 70), (lentL xs)⟩, ⟨w3.heap.size, w4.heap.size, 22, 1, .slice (some ⟨w3.heap.size, 0, none⟩) (ys.length + 70) (ys.length + 70), (ys.length + 70), (lentL ys)⟩, ⟨w4.heap.size, w5.heap.size, 22, 1, .slice Pa X.length X.length, X.length, (List.replicate X.length (.int .i32 (-1)))⟩, ⟨w5.heap.size, w6.heap.size, 22, 1, .slice Pb X.length X.length, X.length, (X.map (.int .i32))⟩, ⟨w6.heap.size, w7.heap.size, 22, 1, .slice Pc Y.length Y.length, Y.length, (List.replicate Y.length (.int .i32 (-2)))⟩, ⟨w7.heap.size, w8.heap.size, 22, 1, .slice Pd X.length X.length, X.length, (X.map (.int .i32))⟩, ⟨w16.heap.size, w17.heap.size, 22, 1, .slice Px (X.length + 70) qx, (X.length + 70), (List.replicate (X.length + 70) (.int .i32 (-1)))⟩, ⟨w17.heap.size, w18.heap.size, 22, 1, .slice Py (Y.length + 70) qy, (Y.length + 70), (List.replicate (Y.length + 70) (.int .i32 (-2)))⟩, ⟨w26.heap.size, w27.heap.size, 22, 1, .slice Pt xs.length qt, xs.length, (xs.reverse.map (.int .i32))⟩] := R.out.add hb ho
  have R := Lib.hid R27
  clear R27
  clear hb ho nt
  go_wp2_with fail
  go_loopw [131] (fun i wr => ∃ k : Nat, k ≤ xs.length ∧ i = .int .i64 k ∧ Rows w wr [⟨w.heap.size, w1.heap.size, 22, 1, .slice P1 X.length q1, X.length, (X.map (.int .i32))⟩, ⟨w1.heap.size, w2.heap.size, 22, 1, .slice P2 Y.length q2, Y.length, (Y.map (.int .i32))⟩, ⟨w2.heap.size, w3.heap.size, 22, 1, .slice (some ⟨w2.heap.size, 0, none⟩) (xs.length + 70) (xs.length + 70), (xs.length + 70), (lapK xs k)⟩, ⟨w3.heap.size, w4.heap.size, 22, 1, .slice (some ⟨w3.heap.size, 0, none⟩) (ys.length + 70) (ys.length + 70), (ys.length + 70), (lentL ys)⟩, ⟨w4.heap.size, w5.heap.size, 22, 1, .slice Pa X.length X.length, X.length, (List.replicate X.length (.int .i32 (-1)))⟩, ⟨w5.heap.size, w6.heap.size, 22, 1, .slice Pb X.length X.length, X.length, (X.map (.int .i32))⟩, ⟨w6.heap.size, w7.heap.size, 22, 1, .slice Pc Y.length Y.length, Y.length, (List.replicate Y.length (.int .i32 (-2)))⟩, ⟨w7.heap.size, w8.heap.size, 22, 1, .slice Pd X.length X.length, X.length, (X.map (.int .i32))⟩, ⟨w16.heap.size, w17.heap.size, 22, 1, .slice Px (X.length + 70) qx, (X.length + 70), (List.replicate (X.length + 70) (.int .i32 (-1)))⟩, ⟨w17.heap.size, w18.heap.size, 22, 1, .slice Py (Y.length + 70) qy, (Y.length + 70), (List.replicate (Y.length + 70) (.int .i32 (-2)))⟩, ⟨w26.heap.size, w27.heap.size, 22, 1, .slice Pt xs.length qt, xs.length, (xs.reverse.map (.int .i32))⟩]) (fun i _ => xs.length - (intOf i).toNat)
  case atStart => exact ⟨0, Nat.zero_le _, rfl, by rw [lapK_zero]; exact R.out⟩
  case round =>
    obtain ⟨k, hk, rfl, hr⟩ := hrel
    have HR := Lib.hid hr
    clear R hr
    by_cases lt : k < xs.length
    · have rl := HR.out.get ⟨w2.heap.size, w3.heap.size, 22, 1, .slice (some ⟨w2.heap.size, 0, none⟩) (xs.length + 70) (xs.length + 70), (xs.length + 70), (lapK xs k)⟩ (by simp)
      have rt := HR.out.get ⟨w26.heap.size, w27.heap.size, 22, 1, .slice Pt xs.length qt, xs.length, (xs.reverse.map (.int .i32))⟩ (by simp)
      have c0 := rl.cellAt k (by show k < (xs.length + 70) * 1; omega)
      rw [List.getElem?_eq_getElem (by rw [lapK_len _ _ (by omega)]; omega)] at c0
      have f0 := rl.frozenAt k
      obtain ⟨at1, rfl, _, g1⟩ := (Sees.of_own rt).at (k := k) (by simp; omega)
      have g2 : wr.cell? (at1.add k) = some (.int .i32 (xs.reverse.getD k 0)) := by
        rw [g1, List.getElem_map, List.getD_eq_getElem?_getD, List.getElem?_eq_getElem (show k < xs.reverse.length by simp; omega)]; rfl
      clear g1
      have st := rl.stored k (.int .i32 (xs.reverse.getD k 0))
      rw [lapK_set _ _ lt] at st
      have RN : Hid (Rows w (wr.setCell ⟨w2.heap.size, k, none⟩ (.int .i32 (xs.reverse.getD k 0))) [⟨w.heap.size, w1.heap.size, 22, 1, .slice P1 X.length q1, X.length, (X.map (.int .i32))⟩, ⟨w1.heap.size, w2.heap.size, 22, 1, .slice P2 Y.length q2, Y.length, (Y.map (.int .i32))⟩, ⟨w2.heap.size, w3.heap.size, 22, 1, .slice (some ⟨w2.heap.size, 0, none⟩) (xs.length + 70) (xs.length + 70), (xs.length + 70), (lapK xs (k + 1))⟩, ⟨w3.heap.size, w4.heap.size, 22, 1, .slice (some ⟨w3.heap.size, 0, none⟩) (ys.length + 70) (ys.length + 70), (ys.length + 70), (lentL ys)⟩, ⟨w4.heap.size, w5.heap.size, 22, 1, .slice Pa X.length X.length, X.length, (List.replicate X.length (.int .i32 (-1)))⟩, ⟨w5.heap.size, w6.heap.size, 22, 1, .slice Pb X.length X.length, X.length, (X.map (.int .i32))⟩, ⟨w6.heap.size, w7.heap.size, 22, 1, .slice Pc Y.length Y.length, Y.length, (List.replicate Y.length (.int .i32 (-2)))⟩, ⟨w7.heap.size, w8.heap.size, 22, 1, .slice Pd X.length X.length, X.length, (X.map (.int .i32))⟩, ⟨w16.heap.size, w17.heap.size, 22, 1, .slice Px (X.length + 70) qx, (X.length + 70), (List.replicate (X.length + 70) (.int .i32 (-1)))⟩, ⟨w17.heap.size, w18.heap.size, 22, 1, .slice Py (Y.length + 70) qy, (Y.length + 70), (List.replicate (Y.length + 70) (.int .i32 (-2)))⟩, ⟨w26.heap.size, w27.heap.size, 22, 1, .slice (some at1) xs.length qt, xs.length, (xs.reverse.map (.int .i32))⟩]) := Lib.hid (Rows.write (l1 := [⟨w.heap.size, w1.heap.size, 22, 1, .slice P1 X.length q1, X.length, (X.map (.int .i32))⟩, ⟨w1.heap.size, w2.heap.size, 22, 1, .slice P2 Y.length q2, Y.length, (Y.map (.int .i32))⟩]) (l2 := [⟨w3.heap.size, w4.heap.size, 22, 1, .slice (some ⟨w3.heap.size, 0, none⟩) (ys.length + 70) (ys.length + 70), (ys.length + 70), (lentL ys)⟩, ⟨w4.heap.size, w5.heap.size, 22, 1, .slice Pa X.length X.length, X.length, (List.replicate X.length (.int .i32 (-1)))⟩, ⟨w5.heap.size, w6.heap.size, 22, 1, .slice Pb X.length X.length, X.length, (X.map (.int .i32))⟩, ⟨w6.heap.size, w7.heap.size, 22, 1, .slice Pc Y.length Y.length, Y.length, (List.replicate Y.length (.int .i32 (-2)))⟩, ⟨w7.heap.size, w8.heap.size, 22, 1, .slice Pd X.length X.length, X.length, (X.map (.int .i32))⟩, ⟨w16.heap.size, w17.heap.size, 22, 1, .slice Px (X.length + 70) qx, (X.length + 70), (List.replicate (X.length + 70) (.int .i32 (-1)))⟩, ⟨w17.heap.size, w18.heap.size, 22, 1, .slice Py (Y.length + 70) qy, (Y.length + 70), (List.replicate (Y.length + 70) (.int .i32 (-2)))⟩, ⟨w26.heap.size, w27.heap.size, 22, 1, .slice (some at1) xs.length qt, xs.length, (xs.reverse.map (.int .i32))⟩]) (r := ⟨w2.heap.size, w3.heap.size, 22, 1, .slice (some ⟨w2.heap.size, 0, none⟩) (xs.length + 70) (xs.length + 70), (xs.length + 70), (lapK xs k)⟩) HR.out st.2 st.1)
      clear rl rt st HR
      generalize xs.reverse.getD k 0 = xk at *
      go_wp2_with fail
      go_roundw
      case rel => exact ⟨k + 1, by omega, by go_num, RN.out⟩
      case measure => simp [intOf]; omega
    · have ek : k = xs.length := by omega
      subst ek
      have hr := HR.out
      rw [lapK_full] at hr
      have R := Lib.hid hr
      clear hr HR
      have RL : Hid (Sees wr wr.heap.size (some ⟨w2.heap.size, 0, none⟩) (xs.reverse.map (.int .i32))) := by have h := (R.out.get ⟨w2.heap.size, w3.heap.size, 22, 1, .slice (some ⟨w2.heap.size, 0, none⟩) (xs.length + 70) (xs.length + 70), (xs.length + 70), (lentL xs.reverse)⟩ (by simp)); dsimp only at h; rw [show xs.length = xs.reverse.length from List.length_reverse.symm] at h; exact Lib.hid (lent_sees h)
      have RT := Lib.hid (Sees.of_own (R.out.get ⟨w26.heap.size, w27.heap.size, 22, 1, .slice Pt xs.length qt, xs.length, (xs.reverse.map (.int .i32))⟩ (by simp)))
      go_wp2_with fail
      refine (C5.out _ (xs.length + 70) _ RL.out).mono ?_
      rintro e w28 ⟨Pe, rfl, ne, ho, hb⟩
      rw [lZ.out] at ho ne
      rw [lZ.out]
      have R28 : Rows w w28 [⟨w.heap.size, w1.heap.size, 22, 1, .slice P1 X.length q1, X.length, (X.map (.int .i32))⟩, ⟨w1.heap.size, w2.heap.size, 22, 1, .slice P2 Y.length q2, Y.length, (Y.map (.int .i32))⟩, ⟨w2.heap.size, w3.heap.size, 22, 1, .slice (some ⟨w2.heap.size, 0, none⟩) (xs.length + 70) (xs.length + 70), (xs.length + 70), (lentL xs.reverse)⟩, ⟨w3.heap.size, w4.heap.size, 22, 1, .slice (some ⟨w3.heap.size, 0, none⟩) (ys.length + 70) (ys.length + 70), (ys.length + 70), (lentL ys)⟩, ⟨w4.heap.size, w5.heap.size, 22, 1, .slice Pa X.length X.length, X.length, (List.replicate X.length (.int .i32 (-1)))⟩, ⟨w5.heap.size, w6.heap.size, 22, 1, .slice Pb X.length X.length, X.length, (X.map (.int .i32))⟩, ⟨w6.heap.size, w7.heap.size, 22, 1, .slice Pc Y.length Y.length, Y.length, (List.replicate Y.length (.int .i32 (-2)))⟩, ⟨w7.heap.size, w8.heap.size, 22, 1, .slice Pd X.length X.length, X.length, (X.map (.int .i32))⟩, ⟨w16.heap.size, w17.heap.size, 22, 1, .slice Px (X.length + 70) qx, (X.length + 70), (List.replicate (X.length + 70) (.int .i32 (-1)))⟩, ⟨w17.heap.size, w18.heap.size, 22, 1, .slice Py (Y.length + 70) qy, (Y.length + 70), (List.replicate (Y.length + 70) (.int .i32 (-2)))⟩, ⟨w26.heap.size, w27.heap.size, 22, 1, .slice Pt xs.length qt, xs.length, (xs.reverse.map (.int .i32))⟩, ⟨wr.heap.size, w28.heap.size, 22, 1, .slice Pe Z.length Z.length, Z.length, (Z.map (.int .i32))⟩] := R.out.add hb ho
      have R := Lib.hid R28
      clear R28
      have RT := Lib.hid (RT.out.below hb (Nat.le_refl _))
      have RT := Lib.hid (RT.out.more hb.size)
      clear hb ho ne
      go_wp2_with fail
      refine (C6.out _ qt _ RT.out).mono ?_
      rintro e w29 ⟨v, rfl, ho, hb⟩
      rw [lZ.out] at ho
      obtain ⟨Pf, qf, rfl, nf⟩ := own_slice ho
      have R29 : Rows w w29 [⟨w.heap.size, w1.heap.size, 22, 1, .slice P1 X.length q1, X.length, (X.map (.int .i32))⟩, ⟨w1.heap.size, w2.heap.size, 22, 1, .slice P2 Y.length q2, Y.length, (Y.map (.int .i32))⟩, ⟨w2.heap.size, w3.heap.size, 22, 1, .slice (some ⟨w2.heap.size, 0, none⟩) (xs.length + 70) (xs.length + 70), (xs.length + 70), (lentL xs.reverse)⟩, ⟨w3.heap.size, w4.heap.size, 22, 1, .slice (some ⟨w3.heap.size, 0, none⟩) (ys.length + 70) (ys.length + 70), (ys.length + 70), (lentL ys)⟩, ⟨w4.heap.size, w5.heap.size, 22, 1, .slice Pa X.length X.length, X.length, (List.replicate X.length (.int .i32 (-1)))⟩, ⟨w5.heap.size, w6.heap.size, 22, 1, .slice Pb X.length X.length, X.length, (X.map (.int .i32))⟩, ⟨w6.heap.size, w7.heap.size, 22, 1, .slice Pc Y.length Y.length, Y.length, (List.replicate Y.length (.int .i32 (-2)))⟩, ⟨w7.heap.size, w8.heap.size, 22, 1, .slice Pd X.length X.length, X.length, (X.map (.int .i32))⟩, ⟨w16.heap.size, w17.heap.size, 22, 1, .slice Px (X.length + 70) qx, (X.length + 70), (List.replicate (X.length + 70) (.int .i32 (-1)))⟩, ⟨w17.heap.size, w18.heap.size, 22, 1, .slice Py (Y.length + 70) qy, (Y.length + 70), (List.replicate (Y.length + 70) (.int .i32 (-2)))⟩, ⟨w26.heap.size, w27.heap.size, 22, 1, .slice Pt xs.length qt, xs.length, (xs.reverse.map (.int .i32))⟩, ⟨wr.heap.size, w28.heap.size, 22, 1, .slice Pe Z.length Z.length, Z.length, (Z.map (.int .i32))⟩, ⟨w28.heap.size, w29.heap.size, 22, 1, .slice Pf Z.length qf, Z.length, (Z.map (.int .i32))⟩] := R.out.add hb ho
      have R := Lib.hid R29
      clear R29
      clear hb ho nf
      go_wp2_with fail
      refine (SMZ.out _ _ _ _ _ (Sees.of_own (R.out.get ⟨wr.heap.size, w28.heap.size, 22, 1, .slice Pe Z.length Z.length, Z.length, (Z.map (.int .i32))⟩ (by simp))) (Sees.of_own (R.out.get ⟨w28.heap.size, w29.heap.size, 22, 1, .slice Pf Z.length qf, Z.length, (Z.map (.int .i32))⟩ (by simp)))).mono ?_
      rintro e w30 ⟨rfl, hb⟩
      have R30 : Rows w w30 [⟨w.heap.size, w1.heap.size, 22, 1, .slice P1 X.length q1, X.length, (X.map (.int .i32))⟩, ⟨w1.heap.size, w2.heap.size, 22, 1, .slice P2 Y.length q2, Y.length, (Y.map (.int .i32))⟩, ⟨w2.heap.size, w3.heap.size, 22, 1, .slice (some ⟨w2.heap.size, 0, none⟩) (xs.length + 70) (xs.length + 70), (xs.length + 70), (lentL xs.reverse)⟩, ⟨w3.heap.size, w4.heap.size, 22, 1, .slice (some ⟨w3.heap.size, 0, none⟩) (ys.length + 70) (ys.length + 70), (ys.length + 70), (lentL ys)⟩, ⟨w4.heap.size, w5.heap.size, 22, 1, .slice Pa X.length X.length, X.length, (List.replicate X.length (.int .i32 (-1)))⟩, ⟨w5.heap.size, w6.heap.size, 22, 1, .slice Pb X.length X.length, X.length, (X.map (.int .i32))⟩, ⟨w6.heap.size, w7.heap.size, 22, 1, .slice Pc Y.length Y.length, Y.length, (List.replicate Y.length (.int .i32 (-2)))⟩, ⟨w7.heap.size, w8.heap.size, 22, 1, .slice Pd X.length X.length, X.length, (X.map (.int .i32))⟩, ⟨w16.heap.size, w17.heap.size, 22, 1, .slice Px (X.length + 70) qx, (X.length + 70), (List.replicate (X.length + 70) (.int .i32 (-1)))⟩, ⟨w17.heap.size, w18.heap.size, 22, 1, .slice Py (Y.length + 70) qy, (Y.length + 70), (List.replicate (Y.length + 70) (.int .i32 (-2)))⟩, ⟨w26.heap.size, w27.heap.size, 22, 1, .slice Pt xs.length qt, xs.length, (xs.reverse.map (.int .i32))⟩, ⟨wr.heap.size, w28.heap.size, 22, 1, .slice Pe Z.length Z.length, Z.length, (Z.map (.int .i32))⟩, ⟨w28.heap.size, w29.heap.size, 22, 1, .slice Pf Z.length qf, Z.length, (Z.map (.int .i32))⟩] := R.out.call hb
      have R := Lib.hid R30
      clear R30
      clear hb
      go_wp2_with fail
      refine (SM.out _ _ _ _ _ (Sees.of_own (R.out.get ⟨w5.heap.size, w6.heap.size, 22, 1, .slice Pb X.length X.length, X.length, (X.map (.int .i32))⟩ (by simp))) (Sees.of_own (R.out.get ⟨w.heap.size, w1.heap.size, 22, 1, .slice P1 X.length q1, X.length, (X.map (.int .i32))⟩ (by simp)))).mono ?_
      rintro e w31 ⟨rfl, hb⟩
      have R31 : Rows w w31 [⟨w.heap.size, w1.heap.size, 22, 1, .slice P1 X.length q1, X.length, (X.map (.int .i32))⟩, ⟨w1.heap.size, w2.heap.size, 22, 1, .slice P2 Y.length q2, Y.length, (Y.map (.int .i32))⟩, ⟨w2.heap.size, w3.heap.size, 22, 1, .slice (some ⟨w2.heap.size, 0, none⟩) (xs.length + 70) (xs.length + 70), (xs.length + 70), (lentL xs.reverse)⟩, ⟨w3.heap.size, w4.heap.size, 22, 1, .slice (some ⟨w3.heap.size, 0, none⟩) (ys.length + 70) (ys.length + 70), (ys.length + 70), (lentL ys)⟩, ⟨w4.heap.size, w5.heap.size, 22, 1, .slice Pa X.length X.length, X.length, (List.replicate X.length (.int .i32 (-1)))⟩, ⟨w5.heap.size, w6.heap.size, 22, 1, .slice Pb X.length X.length, X.length, (X.map (.int .i32))⟩, ⟨w6.heap.size, w7.heap.size, 22, 1, .slice Pc Y.length Y.length, Y.length, (List.replicate Y.length (.int .i32 (-2)))⟩, ⟨w7.heap.size, w8.heap.size, 22, 1, .slice Pd X.length X.length, X.length, (X.map (.int .i32))⟩, ⟨w16.heap.size, w17.heap.size, 22, 1, .slice Px (X.length + 70) qx, (X.length + 70), (List.replicate (X.length + 70) (.int .i32 (-1)))⟩, ⟨w17.heap.size, w18.heap.size, 22, 1, .slice Py (Y.length + 70) qy, (Y.length + 70), (List.replicate (Y.length + 70) (.int .i32 (-2)))⟩, ⟨w26.heap.size, w27.heap.size, 22, 1, .slice Pt xs.length qt, xs.length, (xs.reverse.map (.int .i32))⟩, ⟨wr.heap.size, w28.heap.size, 22, 1, .slice Pe Z.length Z.length, Z.length, (Z.map (.int .i32))⟩, ⟨w28.heap.size, w29.heap.size, 22, 1, .slice Pf Z.length qf, Z.length, (Z.map (.int .i32))⟩] := R.out.call hb
      have R := Lib.hid R31
      clear R31
      clear hb
      go_wp2_with fail
      refine (law_works _ (E.out.of_below R.out.bel (Nat.le_refl _))).mono ?_
      rintro e w32 ⟨rfl, hb⟩
      go_wp2_with fail
      go_ret
      exact ⟨rfl, below_call R.out.bel R.out.bel.size hb⟩
end tintRamps
end Go.Proofs.YtpbpkdhdjdaiiaaDoor
