/- A tape is read: the reader's box, its fault, its bytes. -/
import Derived.Test.YtmaofighbpnbiaaGreatDoorYTpV
import Derived.Test.YtmaofighbpnbiaaGreatDoorYTqA
namespace Go.Proofs.YtmaofighbpnbiaaGreatDoor
open Go Go.RowKit Go.Sort
set_option linter.unusedVariables false
set_option linter.unusedSimpArgs false
section
def rdV (A : Option Addr) (n c : Nat) (r : RdT) : List Value := [.slice A n c, .int .i64 r.at_, .int .i64 r.code, .int .i64 r.spot]
theorem Mv.under {g : Nat} {W W' : World} (h : Mv [g] W W') (hg : g ≤ W.heap.size) : Below g W W' := ⟨h.os, h.tape, h.output, h.size, fun k hk => h.blk k (by omega) (by simp; omega)⟩
theorem Mv.then {g : Nat} {A B C : World} (h : Mv [g] A B) (k : Mv [g] B C) : Mv [g] A C := h.trans k (fun b m => Or.inl m)
set_option maxRecDepth 100000 in
theorem t_fail (g : Nat) (A : Option Addr) (n c : Nat) (r : RdT) (code at_ : Int) (W : World) (K : Bk W g (rdV A n c r) 88) : Calls Tryz.prog 51 #[.pointer (some ⟨g, 0, none⟩), .int .i64 code, .int .i64 at_] W fun e w' => e = .returned (.tuple #[]) ∧ Bk w' g (rdV A n c (failR r code at_)) 88 ∧ Mv [g] W w' := by
 obtain ⟨p, q, z⟩ := r
 have k1 : W.cell? ⟨g, 2, none⟩ = some (.int .i64 q) := K.c 2 _ rfl
 have k2 : W.cell? ⟨g, 3, none⟩ = some (.int .i64 z) := K.c 3 _ rfl
 have f2 := K.f 2
 have f3 := K.f 3
 have HK := Lib.hid K
 have hl := K.lt
 by_cases z : q = 0
 ·subst z
  clear K
  go_enter Tryz.func51, Tryz.ntmps51
  go_wp2_with fail
  refine bodyPost_end (results_none rfl _ _ _) rfl ?_
  exact ⟨by rfl, by have z := (HK.out.set 2 (.int .i64 code)).set 3 (.int .i64 at_); exact z, (Mv.set W (by simp)).trans (Mv.set _ (by simp)) (fun b m => Or.inl m)⟩
 ·clear K
  go_enter Tryz.func51, Tryz.ntmps51
  go_wp2_with fail
  refine bodyPost_end (results_none rfl _ _ _) rfl ?_
  exact ⟨by rfl, by unfold failR; rw [if_neg z]; exact HK.out, Mv.refl _ W⟩
structure RdS (W : World) (g : Nat) (A : Option Addr) (c : Nat) (D : List Int) (r : RdT) (T : TypeId) : Prop where
 box : Bk W g (rdV A D.length c r) T
 dat : ByteD W g ⟨A, c, D⟩
 at_ : r.at_ ≤ D.length
theorem RdS.nx {W W' : World} {g : Nat} {A : Option Addr} {c : Nat} {D : List Int} {r r' : RdT} {T : TypeId} (h : RdS W g A c D r T) (hm : Mv [g] W W') (hk : Bk W' g (rdV A D.length c r') T) (ha : r'.at_ ≤ D.length) : RdS W' g A c D r' T :=
 ⟨hk, h.dat.below (hm.under (Nat.le_of_lt h.box.lt)) (Nat.le_refl _), ha⟩
def takeV (A : Option Addr) (D : List Int) (r : RdT) (n : Nat) : Value := if r.code ≠ 0 ∨ D.length < r.at_ + n then .slice none 0 0 else match A with | none => .slice none 0 0 | some ad => .slice (some (if n = 0 then ad else ad.add r.at_)) n n
theorem takeV_0 {A : Option Addr} {D : List Int} {p c : Nat} (z : Int) (nl : A = none → c = 0) (cap : D.length ≤ c) (h : p ≤ D.length) : Value.slice A 0 0 = takeV A D ⟨p, 0, z⟩ 0 := by
 have nf : ¬ ((RdT.mk p 0 z).code ≠ 0 ∨ D.length < (RdT.mk p 0 z).at_ + 0) := by
  rintro (q | q)
  ·exact q rfl
  ·dsimp only at q; omega
 unfold takeV
 rw [if_neg nf]
 cases A with
 | none => rfl
 | some ad => rfl
theorem takeV_m {A : Option Addr} {D : List Int} {p m c : Nat} (z : Int) (nl : A = none → c = 0) (cap : D.length ≤ c) (h : p + m ≤ D.length) (m0 : m ≠ 0) : Value.slice (Option.map (fun x => x.add p) A) m m = takeV A D ⟨p, 0, z⟩ m := by
 have nf : ¬ ((RdT.mk p 0 z).code ≠ 0 ∨ D.length < (RdT.mk p 0 z).at_ + m) := by
  rintro (q | q)
  ·exact q rfl
  ·dsimp only at q; omega
 unfold takeV
 rw [if_neg nf]
 cases A with
 | none =>
  have := nl rfl
  omega
 | some ad => dsimp only; rw [if_neg m0]; rfl
def TakR (W : World) (g : Nat) (A : Option Addr) (c : Nat) (D : List Int) (r : RdT) (n : Nat) (T : TypeId) (e : Ending) (w' : World) : Prop := e = .returned (takeV A D r n) ∧ RdS w' g A c D (takeR D r n).2 T ∧ Mv [g] W w'
set_option maxHeartbeats 4000000 in
set_option maxRecDepth 100000 in
theorem tp_take (g : Nat) (A : Option Addr) (c : Nat) (D : List Int) (r : RdT) (m : Nat) (W : World) (R : RdS W g A c D r 88) (hm : m ≤ 1099511627776) : Calls Tryz.prog 50 #[.pointer (some ⟨g, 0, none⟩), .int .i64 (m : Int)] W (TakR W g A c D r m 88) := by
 obtain ⟨p, q, z⟩ := r
 have k0 : W.cell? ⟨g, 0, none⟩ = some (.slice A D.length c) := R.box.c 0 _ rfl
 have k1 : W.cell? ⟨g, 1, none⟩ = some (.int .i64 (p : Int)) := R.box.c 1 _ rfl
 have k2 : W.cell? ⟨g, 2, none⟩ = some (.int .i64 q) := R.box.c 2 _ rfl
 have f1 := R.box.f 1
 have HR := Lib.hid R
 have cap : D.length ≤ c := R.dat.cap
 have sz : D.length ≤ 140737488355328 := R.dat.sz
 have hp : p ≤ D.length := R.at_
 have nl := Lib.hid R.dat.nil
 clear R
 by_cases c0 : q = 0
 case neg =>
  have EN : Hid (TakR W g A c D ⟨p, q, z⟩ m 88 (.returned (.slice none 0 0)) W) := Lib.hid ⟨by unfold takeV; rw [if_pos (Or.inl c0)], by rw [takeR_no _ (show (RdT.mk p q z).code ≠ 0 from c0)]; exact HR.out, Mv.refl _ W⟩
  go_enter Tryz.func50, Tryz.ntmps50
  go_wp2_with fail
  go_ret
  exact EN.out
 subst c0
 obtain ⟨n, hn⟩ : ∃ n, n = D.length := ⟨_, rfl⟩
 have HN := Lib.hid hn
 rw [← hn] at k0 cap hp sz
 obtain ⟨V, hV⟩ : ∃ V, V = W.drew := ⟨_, rfl⟩
 have BV : Below W.heap.size W V := by rw [hV]; exact (Below.refl _ W).drew
 have RV : RdS V g A c D ⟨p, 0, z⟩ 88 := HR.out.nx (Mv.below BV) (HR.out.box.of_eq (BV.block g HR.out.box.lt)) HR.out.at_
 have HRV := Lib.hid RV
 have MV : Mv [g] W V := Mv.below BV
 have HMV := Lib.hid MV
 have w1 : IntKind.i64.wrap ((n : Int) - (p : Int)) = (n : Int) - (p : Int) := IntWalk.i64_in _ (by omega)
 have j0 : V.cell? ⟨g, 0, none⟩ = some (.slice A n c) := by rw [hn]; exact RV.box.c 0 _ rfl
 have j1 : V.cell? ⟨g, 1, none⟩ = some (.int .i64 (p : Int)) := RV.box.c 1 _ rfl
 have fj1 := RV.box.f 1
 have HV := Lib.hid hV
 by_cases c1 : n < p + m
 ·have c1' : (n : Int) - (p : Int) < (m : Int) := by omega
  have FL := Lib.hid (t_fail g A n c ⟨p, 0, z⟩ 6 n V (by rw [hn]; exact HRV.out.box))
  have EN : Hid (∀ w', Bk w' g (rdV A n c (failR ⟨p, 0, z⟩ 6 n)) 88 → Mv [g] V w' → TakR W g A c D ⟨p, 0, z⟩ m 88 (.returned (.slice none 0 0)) w') := Lib.hid (fun w' b mv => by
   have e : (takeR D ⟨p, 0, z⟩ m).2 = failR ⟨p, 0, z⟩ 6 n := by rw [takeR_short rfl (show (D.length : Int) - (p : Int) < (m : Int) by rw [← HN.out]; exact c1'), ← HN.out]; rfl
   refine ⟨by unfold takeV; rw [if_pos (Or.inr (by rw [← HN.out]; exact c1))], ?_, HMV.out.then mv⟩
   rw [e]
   exact HRV.out.nx mv (by rw [← HN.out]; exact b) (by rw [← HN.out]; exact hp))
  clear hn BV RV MV hV
  go_enter Tryz.func50, Tryz.ntmps50
  go_upto_region 3 with fail
  go_region
  rw [← HV.out]
  go_wp2_with fail
  refine FL.out.mono ?_; rintro e w1 ⟨rfl, b1, m1⟩
  have EN := Lib.hid (EN.out _ b1 m1)
  clear FL b1 m1
  go_wp2_with fail
  go_ret
  exact EN.out
 ·have c1' : ¬ (n : Int) - (p : Int) < (m : Int) := by omega
  have w2 : IntKind.i64.wrap ((p : Int) + (m : Int)) = (p : Int) + (m : Int) := IntWalk.i64_in _ (by omega)
  have TE : (takeR D ⟨p, 0, z⟩ m).2 = ⟨p + m, 0, z⟩ := by rw [takeR_some rfl (show p + m ≤ D.length by rw [← hn]; omega)]
  obtain ⟨X, hX⟩ : ∃ X, X = V.setCell ⟨g, 1, none⟩ (.int .i64 ((p : Int) + (m : Int))) := ⟨_, rfl⟩
  have RX : RdS X g A c D ⟨p + m, 0, z⟩ 88 := by
   rw [hX, ← Int.natCast_add]
   exact RV.nx (Mv.set V (by simp)) (RV.box.set 1 _) (by show p + m ≤ D.length; rw [← hn]; omega)
  have MX : Mv [g] W X := MV.then (by rw [hX]; exact Mv.set V (by simp))
  obtain ⟨U, hU⟩ : ∃ U, U = X.drew := ⟨_, rfl⟩
  have BU : Below X.heap.size X U := by rw [hU]; exact (Below.refl _ X).drew
  have RU : RdS U g A c D ⟨p + m, 0, z⟩ 88 := RX.nx (Mv.below BU) (RX.box.of_eq (BU.block g RX.box.lt)) RX.at_
  have x0 : X.cell? ⟨g, 0, none⟩ = some (.slice A n c) := by rw [hn]; exact RX.box.c 0 _ rfl
  have x1 : X.cell? ⟨g, 1, none⟩ = some (.int .i64 ((p : Int) + (m : Int))) := by rw [← Int.natCast_add]; exact RX.box.c 1 _ rfl
  have u0 : U.cell? ⟨g, 0, none⟩ = some (.slice A n c) := by rw [hn]; exact RU.box.c 0 _ rfl
  have u1 : U.cell? ⟨g, 1, none⟩ = some (.int .i64 ((p : Int) + (m : Int))) := by rw [← Int.natCast_add]; exact RU.box.c 1 _ rfl
  have EN : Hid (∀ v, v = takeV A D ⟨p, 0, z⟩ m → TakR W g A c D ⟨p, 0, z⟩ m 88 (.returned v) U) := Lib.hid (fun v e => ⟨by rw [e], by rw [TE]; exact RU, MX.then (Mv.below BU)⟩)
  have capD : D.length ≤ c := by rw [← hn]; exact cap
  have E0 : Hid (m = 0 → Value.slice A 0 0 = takeV A D ⟨p, 0, z⟩ 0) := Lib.hid (fun m0 => takeV_0 z nl.out capD (show p ≤ D.length by rw [← hn]; exact hp))
  have E1 : Hid (m ≠ 0 → Value.slice (Option.map (fun x => x.add p) A) m m = takeV A D ⟨p, 0, z⟩ m) := Lib.hid (fun m0 => takeV_m z nl.out capD (show p + m ≤ D.length by rw [← hn]; omega) m0)
  clear capD
  have HX := Lib.hid hX
  have HU := Lib.hid hU
  clear hn BV RV MV hV HRV HMV HR BU RU RX MX hX hU TE
  go_enter Tryz.func50, Tryz.ntmps50
  go_upto_region 3 with fail
  go_region
  rw [← HV.out]
  go_upto_region 8 with fail
  rw [← HX.out]
  go_region
  rw [← HU.out]
  go_wp2_with fail
  ·go_ret
   obtain rfl : m = 0 := by assumption
   exact EN.out _ (E0.out rfl)
  ·go_ret
   exact EN.out _ (E1.out (by assumption))
end
end Go.Proofs.YtmaofighbpnbiaaGreatDoor
