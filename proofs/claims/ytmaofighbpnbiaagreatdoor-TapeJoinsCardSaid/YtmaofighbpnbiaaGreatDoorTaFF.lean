/- What lies below tapes (kept of earlier texts: TpV, TqA, TpY, TqB, TpW, TqC, TqE, TqS, TqX). -/
import Derived.Test.YtmaofighbpnbiaaGreatDoorTaFE
import Derived.Maps.AppendAt
set_option linter.unusedVariables false
set_option linter.unusedSimpArgs false
namespace Go.Proofs.YtmaofighbpnbiaaGreatDoor
section
open Go Go.RowKit Go.Sort
section
theorem news1 (w : World) (x : Value) (T : TypeId) : ∀ (j : Nat) (u : Value), [x][j]? = some u -> (w.alloc (.cells #[x] T)).cell? ((⟨w.heap.size, 0, none⟩ : Addr).add j) = some u := fun j u h => jd w [x] T j u h
def KeepU (W W' : World) : Prop := ∀ (g : Nat) (cur : Array Value) (T : TypeId) (fl : Nat × Nat), W.heap[g]? = some (.cells cur T fl) -> T ≠ 5 -> W'.heap[g]? = W.heap[g]?
theorem KeepU.refl (W : World) : KeepU W W := fun _ _ _ _ _ _ => rfl
theorem KeepU.trans {a b c : World} (h : KeepU a b) (k : KeepU b c) : KeepU a c := fun g cur T fl e n => (k g cur T fl ((h g cur T fl e n).trans e) n).trans (h g cur T fl e n)
theorem Va {w w3 : World} {LO : Nat} {v : Value} {n : Nat} {xs : List Value} {o : Obj} (hb : w.ownsRow LO 5 1 v n xs) (hg : (w.alloc o).grownBy w3 v.ownBlock) : KeepU w w3 := fun g cur T fl e ne => by
 have lt := (Array.getElem?_eq_some_iff.1 e).1
 have al : (w.alloc o).heap[g]? = w.heap[g]? := ((Below.refl w.heap.size w).alloc zdZ o).block g lt
 refine (hg.block g (by simp; omega) (fun z => ?_)).trans al
 rcases hb.2 with ⟨rfl, _⟩ | ⟨g', cap, cu, rfl, _, h3, _⟩
 ·simp [Value.ownBlock] at z
 ·simp [Value.ownBlock] at z
  subst z
  rw [e] at h3
  cases h3
  exact ne rfl
def NumR (LO : Nat) (W : World) (ys : List Int) (e : Ending) (w' : World) : Prop := ∃ v', e = .returned v' /\ w'.ownsRow LO 5 1 v' ys.length (bts ys) /\ Below LO W w' /\ KeepU W w'
theorem Vb {w w3 : World} {LO : Nat} {v v' : Value} {xs : List Int} {x : Int} (hb : w.ownsRow LO 5 1 v xs.length (bts xs)) (hLO : LO <= w.heap.size) (ho : w3.ownsRow LO 5 1 v' (xs.length + 1) (bts xs ++ [.int .u8 x])) (hg : (w.alloc (.cells #[.int .u8 x] 5)).grownBy w3 v.ownBlock) :
  w3.ownsRow LO 5 1 v' (xs ++ [x]).length (bts (xs ++ [x])) /\ Below LO w w3 := by
 have e : bts (xs ++ [x]) = bts xs ++ [.int .u8 x] := by unfold bts; simp
 refine ⟨by rw [e, List.length_append]; exact ho, ?_⟩
 exact ((Below.refl LO w).alloc hLO _).grown hg (by simp; omega) (fun g hg2 => (hb.lt g hg2).1)
set_option maxHeartbeats 4000000 in
set_option maxRecDepth 100000 in
theorem t_number (LO : Nat) (v : Value) (xs : List Int) (n0 : Nat) (W : World) (hv : W.ownsRow LO 5 1 v xs.length (bts xs)) (hLO : LO <= W.heap.size) (h1 : n0 <= 1099511627776) (ub : xs.length <= 10000000) :
  Calls Tryz.prog 45 #[v, .int .i64 (n0 : Int)] W (NumR LO W (xs ++ numL (n0 : Int))) := by
 obtain ⟨i0, hi0, hz0, hz1, hz2⟩ := info_parts xR
 obtain ⟨A, c, rfl⟩ := qY hv
 obtain ⟨R, hR⟩ : ∃ R, R = xs ++ numL (n0 : Int) := ⟨_, rfl⟩
 have ST : Hid (W.ownsRow LO 5 1 (.slice A xs.length c) xs.length (bts xs) /\ Below LO W W /\ LO <= W.heap.size /\ xs ++ numF 9 (n0 : Int) = R /\ KeepU W W) := zdX ⟨hv, Below.refl _ _, hLO, hR.symm, KeepU.refl _⟩
 rw [<- hR]
 clear hv hLO hR
 go_enter Tryz.func45, Tryz.ntmps45
 go_wp2_with fail
 go_loopw [0, 1] (fun s0 s1 wr => ∃ (zs : List Int) (m f : Nat) (A' : Option Addr) (c' : Nat), s0 = .slice A' zs.length c' /\ s1 = .int .i64 (m : Int) /\ zs.length + f <= 10000009 /\ m <= 1099511627776 /\ (m : Int) < 128 ^ (f + 1) /\ Hid (wr.ownsRow LO 5 1 (.slice A' zs.length c') zs.length (bts zs) /\ Below LO W wr /\ LO <= wr.heap.size /\ zs ++ numF f (m : Int) = R /\ KeepU W wr)) (fun _ s1 _ => (intOf s1).toNat)
 case atStart =>
  refine ⟨xs, n0, 9, A, c, rfl, rfl, by omega, h1, ?_, ST⟩
  have e : (128 : Int) ^ (9 + 1) = 1180591620717411303424 := by decide
  rw [e]; omega
 case round =>
  obtain ⟨zs, m, f, A', c', rfl, rfl, lf, mb, mf, hr⟩ := hrel
  clear ST
  by_cases big : 128 <= m
  ·have bi : (128 : Int) <= (m : Int) := by omega
   obtain ⟨X, hX⟩ : ∃ X : Nat, X = 128 + m % 128 := ⟨_, rfl⟩
   obtain ⟨f', rfl⟩ : ∃ f', f = f' + 1 := by
    cases f with
    | zero => simp at mf; omega
    | succ f' => exact ⟨f', rfl⟩
   have mf' : ((m / 128 : Nat) : Int) < 128 ^ (f' + 1) := by
    have e : (128 : Int) ^ (f' + 1 + 1) = 128 ^ (f' + 1) * 128 := Int.pow_succ _ _
    rw [e] at mf
    have := Int.ediv_lt_of_lt_mul (show (0 : Int) < 128 by decide) mf
    omega
   have HO := zdX (hr.out.1.alloc (.cells #[.int .u8 (X : Int)] 5))
   have O1 : Hid (∀ u ∈ [Value.int .u8 (X : Int)], u.oneCell' = true) := zdX (by intro u hu; simp at hu; subst hu; rfl)
   have H2 : zs.length + 1 <= maxLen := by unfold maxLen; omega
   have H3 : (zs.length + 1) * 1 <= 140737488355328 := by omega
   have H4 : LO <= (wr.alloc (.cells #[.int .u8 (X : Int)] 5)).heap.size := by have := hr.out.2.2.1; simp; omega
   have NX : Hid (∀ (w3 : World) (v' : Value), w3.ownsRow LO 5 1 v' (zs.length + 1) (bts zs ++ [.int .u8 (X : Int)]) -> (wr.alloc (.cells #[.int .u8 (X : Int)] 5)).grownBy w3 (Value.slice A' zs.length c').ownBlock -> ∃ A4 c4, v' = .slice A4 (zs ++ [(X : Int)]).length c4 /\ (w3.ownsRow LO 5 1 (.slice A4 (zs ++ [(X : Int)]).length c4) (zs ++ [(X : Int)]).length (bts (zs ++ [(X : Int)])) /\ Below LO W w3 /\ LO <= w3.heap.size /\ (zs ++ [(X : Int)]) ++ numF f' ((m / 128 : Nat) : Int) = R /\ KeepU W w3)) := zdX (fun w3 v' ho hg => by
    obtain ⟨q1, q2⟩ := Vb hr.out.1 hr.out.2.2.1 ho hg
    obtain ⟨A4, c4, rfl⟩ := qY q1
    refine ⟨A4, c4, rfl, q1, hr.out.2.1.trans q2, Nat.le_trans hr.out.2.2.1 q2.size, ?_, hr.out.2.2.2.2.trans (Va hr.out.1 hg)⟩
    have z := hr.out.2.2.2.1
    rw [QB f' (m : Int) bi] at z
    rw [List.append_assoc, <- z, hX]
    simp)
   have mlt : m / 128 < m := by omega
   have mle : m / 128 <= 1099511627776 := by omega
   have zl : (zs ++ [(X : Int)]).length = zs.length + 1 := by simp
   have or1 : bits .or .u8 ((m : Int) % 256) 128 = (X : Int) := by
    have := or_128 m
    rw [show ((m % 256 : Nat) : Int) = (m : Int) % 256 by omega, <- hX] at this
    exact this
   generalize hd1 : m / 128 = d1 at *
   have sh1 : (m : Int) / 128 = (d1 : Int) := by omega
   clear hr hX hd1
   go_wp2_with (at_builtin; refine wpList_append_own _ rfl (.tmp 9) (.tmp 13) 27 rfl LO 5 i0 (.int .u8 0) 1 1 Tryz.underlying27 hi0 hz0 hz1 hz2 rfl (by decide) _ _ _ rfl HO.out ⟨wr.heap.size, 0, none⟩ 1 1 [.int .u8 (X : Int)] rfl rfl (news1 _ _ _) O1.out H2 H3 H4 ?_; intro v' w3 hown3 hg3 _; obtain ⟨A4, c4, rfl, P4⟩ := NX.out w3 v' hown3 hg3; have P4 := zdX P4; clear hown3 hg3 NX HO)
   go_roundw
   case rel => exact ⟨zs ++ [(X : Int)], d1, f', A4, c4, by rw [zl], by go_num, by rw [zl]; omega, mle, mf', P4⟩
   case measure => simp [intOf]; omega
  ·have bi : ¬ (128 : Int) <= (m : Int) := by omega
   have w3 : IntKind.u8.wrap (m : Int) = (m : Int) := by rw [IntKind.wrap_u8]; omega
   have w3' : (m : Int) % 256 = (m : Int) := by omega
   have HO := zdX (hr.out.1.alloc (.cells #[.int .u8 (m : Int)] 5))
   have O1 : Hid (∀ u ∈ [Value.int .u8 (m : Int)], u.oneCell' = true) := zdX (by intro u hu; simp at hu; subst hu; rfl)
   have H2 : zs.length + 1 <= maxLen := by unfold maxLen; omega
   have H3 : (zs.length + 1) * 1 <= 140737488355328 := by omega
   have H4 : LO <= (wr.alloc (.cells #[.int .u8 (m : Int)] 5)).heap.size := by have := hr.out.2.2.1; simp; omega
   have NX : Hid (∀ (w3 : World) (v' : Value), w3.ownsRow LO 5 1 v' (zs.length + 1) (bts zs ++ [.int .u8 (m : Int)]) -> (wr.alloc (.cells #[.int .u8 (m : Int)] 5)).grownBy w3 (Value.slice A' zs.length c').ownBlock -> w3.ownsRow LO 5 1 v' R.length (bts R) /\ Below LO W w3 /\ KeepU W w3) := zdX (fun w3 v' ho hg => by
    obtain ⟨q1, q2⟩ := Vb hr.out.1 hr.out.2.2.1 ho hg
    have z := hr.out.2.2.2.1
    rw [QC f (m : Int) (by omega)] at z
    rw [z] at q1
    exact ⟨q1, hr.out.2.1.trans q2, hr.out.2.2.2.2.trans (Va hr.out.1 hg)⟩)
   clear hr
   go_wp2_with (at_builtin; refine wpList_append_own _ rfl (.tmp 15) (.tmp 18) 27 rfl LO 5 i0 (.int .u8 0) 1 1 Tryz.underlying27 hi0 hz0 hz1 hz2 rfl (by decide) _ _ _ rfl HO.out ⟨wr.heap.size, 0, none⟩ 1 1 [.int .u8 (m : Int)] rfl rfl (news1 _ _ _) O1.out H2 H3 H4 ?_; intro v' w3 hown3 hg3 _; have P4 := zdX (NX.out w3 v' hown3 hg3); clear hown3 hg3 NX HO)
   go_ret
   exact ⟨_, rfl, P4.out.1, P4.out.2.1, P4.out.2.2⟩
end
end
section
theorem Vc {D : List Int} (h : Byt D) (k : Nat) : 0 <= D.getD k 0 /\ D.getD k 0 < 256 := by
 rw [List.getD_eq_getElem?_getD]
 cases e : D[k]? with
 | none => exact ⟨by decide, by decide⟩
 | some b => exact h b (List.mem_of_getElem? e)
theorem jO (r : RdT) (c p : Int) : (zO r c p).at_ = r.at_ := by unfold zO; split <;> rfl
theorem take_at {D : List Int} {r : RdT} {n : Int} (h : r.at_ <= D.length) (h0 : 0 <= n) : (zC D r n).2.at_ <= D.length := by
 unfold zC
 split
 ·exact h
 ·split
  ·rw [jO]; exact h
  ·show r.at_ + n.toNat <= D.length; omega
theorem Ve (D : List Int) (first : Nat) (most : Int) : ∀ (k i : Nat) (n : Int) (r : RdT), r.at_ <= D.length -> (qE D first most k i n r).2.at_ <= D.length
 | 0, i, n, r, h => by rw [qE, jO]; exact h
 | k + 1, i, n, r, h => by
  rw [qE]
  split
  ·exact h
  ·split
   ·rw [jO]; exact h
   ·rename_i lt
    have lt : r.at_ + 1 <= D.length := by omega
    split
    ·split
     ·rw [jO]; exact lt
     ·exact lt
    ·exact Ve D first most k (i + 1) _ _ lt
theorem numR_at {D : List Int} {r : RdT} (most : Int) (h : r.at_ <= D.length) : (numR D r most).2.at_ <= D.length := Ve D r.at_ most 6 0 0 r h
theorem Vf (D : List Int) (rng : Byt D) (first : Nat) (most : Int) (m0 : 0 <= most) : ∀ (k i : Nat) (n : Int) (r : RdT), 0 <= n -> 0 <= (qE D first most k i n r).1 /\ (qE D first most k i n r).1 <= most
 | 0, i, n, r, h => by rw [qE]; exact ⟨Int.le_refl _, m0⟩
 | k + 1, i, n, r, h => by
  have b := Vc rng r.at_
  have p : (0 : Int) <= 128 ^ i := Int.le_of_lt (Int.pow_pos (by decide))
  rw [qE]
  split
  ·exact ⟨Int.le_refl _, m0⟩
  ·split
   ·exact ⟨Int.le_refl _, m0⟩
   ·split
    ·split
     ·exact ⟨Int.le_refl _, m0⟩
     ·rename_i z
      have q : 0 <= D.getD r.at_ 0 * 128 ^ i := Int.mul_nonneg b.1 p
      exact ⟨by show 0 <= n + D.getD r.at_ 0 * 128 ^ i; omega, by show n + D.getD r.at_ 0 * 128 ^ i <= most; omega⟩
    ·have q : 0 <= D.getD r.at_ 0 % 128 * 128 ^ i := Int.mul_nonneg (by omega) p
     exact Vf D rng first most m0 k (i + 1) _ _ (by omega)
theorem vJ {D : List Int} (rng : Byt D) (r : RdT) {most : Int} (m0 : 0 <= most) : 0 <= (numR D r most).1 /\ (numR D r most).1 <= most := Vf D rng r.at_ most m0 6 0 0 r (Int.le_refl _)
theorem numR_no {D : List Int} {r : RdT} (most : Int) (h : r.code ≠ 0) : numR D r most = (0, r) := by unfold numR; rw [qE, if_pos h]
theorem Q8 {D : List Int} {r : RdT} (n : Int) (h : r.code ≠ 0) : zC D r n = ([], r) := by unfold zC; rw [if_pos h]
theorem Q9 {D : List Int} {r : RdT} {n : Int} (h : r.code = 0) (s : (D.length : Int) - r.at_ < n) : zC D r n = ([], ⟨r.at_, 6, D.length⟩) := by unfold zC; rw [if_neg (by simp [h]), if_pos s]; unfold zO; rw [if_pos h]
theorem kU {D : List Int} {r : RdT} {n : Nat} (h : r.code = 0) (s : r.at_ + n <= D.length) : zC D r n = ((D.drop r.at_).take n, ⟨r.at_ + n, 0, r.spot⟩) := by
 unfold zC
 rw [if_neg (by simp [h]), if_neg (by omega), h]
 rfl
theorem take_len {D : List Int} {a n : Nat} (h : a + n <= D.length) : ((D.drop a).take n).length = n := by rw [List.length_take, List.length_drop]; omega
theorem take_one {D : List Int} {a : Nat} (h : a < D.length) : (D.drop a).take 1 = [D.getD a 0] := by
 rw [List.drop_eq_getElem_cons h, List.getD_eq_getElem?_getD, List.getElem?_eq_getElem h]
 rfl
theorem take_byt {D : List Int} (h : Byt D) (a n : Nat) : Byt ((D.drop a).take n) := fun b m => h b (List.mem_of_mem_drop (List.mem_of_mem_take m))
theorem frsR_no {D : List Int} (k : Nat) (last : Int) {r : RdT} (h : r.code ≠ 0) : frsR D k last r = ([], r) := by
 cases k with
 | zero => rfl
 | succ k => rw [frsR, if_pos h]
theorem zcp {D : List Int} (k : Nat) (last : Int) {r : RdT} (h : r.code = 0) : frsR D (k + 1) last r = (⟨last + (numR D r (1099511627776 - last)).1, (zC D (numR D (numR D r (1099511627776 - last)).2 1099511627776).2 (numR D (numR D r (1099511627776 - last)).2 1099511627776).1).1⟩ :: (frsR D k (last + (numR D r (1099511627776 - last)).1) (zC D (numR D (numR D r (1099511627776 - last)).2 1099511627776).2 (numR D (numR D r (1099511627776 - last)).2 1099511627776).1).2).1, (frsR D k (last + (numR D r (1099511627776 - last)).1) (zC D (numR D (numR D r (1099511627776 - last)).2 1099511627776).2 (numR D (numR D r (1099511627776 - last)).2 1099511627776).1).2).2) := by
 rw [frsR, if_neg (by simp [h])]
end
section
open Go Go.RowKit Go.Sort
section
def rdV (A : Option Addr) (n c : Nat) (r : RdT) : List Value := [.slice A n c, .int .i64 r.at_, .int .i64 r.code, .int .i64 r.spot]
theorem Mv.under {g : Nat} {W W' : World} (h : Mv [g] W W') (hg : g <= W.heap.size) : Below g W W' := ⟨h.os, h.tape, h.output, h.size, fun k hk => h.blk k (by omega) (by simp; omega)⟩
theorem Mv.then {g : Nat} {A B C : World} (h : Mv [g] A B) (k : Mv [g] B C) : Mv [g] A C := h.trans k (fun b m => Or.inl m)
set_option maxRecDepth 100000 in
theorem kq (g : Nat) (A : Option Addr) (n c : Nat) (r : RdT) (code at_ : Int) (W : World) (K : Bk W g (rdV A n c r) 88) : Calls Tryz.prog 51 #[.pointer (some ⟨g, 0, none⟩), .int .i64 code, .int .i64 at_] W fun e w' => e = .returned (.tuple #[]) /\ Bk w' g (rdV A n c (zO r code at_)) 88 /\ Mv [g] W w' := by
 obtain ⟨p, q, z⟩ := r
 have k1 : W.cell? ⟨g, 2, none⟩ = some (.int .i64 q) := K.c 2 _ rfl
 have k2 : W.cell? ⟨g, 3, none⟩ = some (.int .i64 z) := K.c 3 _ rfl
 have f2 := K.f 2
 have f3 := K.f 3
 have HK := zdX K
 have hl := K.lt
 by_cases z : q = 0
 ·subst z
  clear K
  go_enter Tryz.func51, Tryz.ntmps51
  go_wp2_with fail
  refine bodyPost_end (results_none rfl _ _ _) rfl ?_
  exact ⟨by rfl, by have z := (HK.out.set 2 (.int .i64 code)).set 3 (.int .i64 at_); exact z, (Mv.set W (by simp)).trans (Mv.set _ (by simp)) (fun b m => Or.inl m)⟩
 ·clear K
  go_enter Tryz.func51, Tryz.ntmps51
  go_wp2_with fail
  refine bodyPost_end (results_none rfl _ _ _) rfl ?_
  exact ⟨by rfl, by unfold zO; rw [if_neg z]; exact HK.out, Mv.refl _ W⟩
set_option maxRecDepth 100000 in
theorem r_fail (g : Nat) (A : Option Addr) (n c : Nat) (r : RdT) (code at_ : Int) (W : World) (K : Bk W g (rdV A n c r) 82) : Calls Tryz.prog 48 #[.pointer (some ⟨g, 0, none⟩), .int .i64 code, .int .i64 at_] W fun e w' => e = .returned (.tuple #[]) /\ Bk w' g (rdV A n c (zO r code at_)) 82 /\ Mv [g] W w' := by
 obtain ⟨p, q, z⟩ := r
 have k1 : W.cell? ⟨g, 2, none⟩ = some (.int .i64 q) := K.c 2 _ rfl
 have k2 : W.cell? ⟨g, 3, none⟩ = some (.int .i64 z) := K.c 3 _ rfl
 have f2 := K.f 2
 have f3 := K.f 3
 have HK := zdX K
 have hl := K.lt
 by_cases z : q = 0
 ·subst z
  clear K
  go_enter Tryz.func48, Tryz.ntmps48
  go_wp2_with fail
  refine bodyPost_end (results_none rfl _ _ _) rfl ?_
  exact ⟨by rfl, by have z := (HK.out.set 2 (.int .i64 code)).set 3 (.int .i64 at_); exact z, (Mv.set W (by simp)).trans (Mv.set _ (by simp)) (fun b m => Or.inl m)⟩
 ·clear K
  go_enter Tryz.func48, Tryz.ntmps48
  go_wp2_with fail
  refine bodyPost_end (results_none rfl _ _ _) rfl ?_
  exact ⟨by rfl, by unfold zO; rw [if_neg z]; exact HK.out, Mv.refl _ W⟩
structure RdS (W : World) (g : Nat) (A : Option Addr) (c : Nat) (D : List Int) (r : RdT) (T : TypeId) : Prop where
 box : Bk W g (rdV A D.length c r) T
 dat : ByteD W g ⟨A, c, D⟩
 at_ : r.at_ <= D.length
theorem RdS.nx {W W' : World} {g : Nat} {A : Option Addr} {c : Nat} {D : List Int} {r r' : RdT} {T : TypeId} (h : RdS W g A c D r T) (hm : Mv [g] W W') (hk : Bk W' g (rdV A D.length c r') T) (ha : r'.at_ <= D.length) : RdS W' g A c D r' T :=
 ⟨hk, h.dat.below (hm.under (Nat.le_of_lt h.box.lt)) zdZ, ha⟩
def qy (A : Option Addr) (D : List Int) (r : RdT) (n : Nat) : Value := if r.code ≠ 0 \/ D.length < r.at_ + n then .slice none 0 0 else match A with | none => .slice none 0 0 | some ad => .slice (some (if n = 0 then ad else ad.add r.at_)) n n
theorem takeV_0 {A : Option Addr} {D : List Int} {p c : Nat} (z : Int) (nl : A = none -> c = 0) (cap : D.length <= c) (h : p <= D.length) : Value.slice A 0 0 = qy A D ⟨p, 0, z⟩ 0 := by
 have nf : ¬ ((RdT.mk p 0 z).code ≠ 0 \/ D.length < (RdT.mk p 0 z).at_ + 0) := by
  rintro (q | q)
  ·exact q rfl
  ·dsimp only at q; omega
 unfold qy
 rw [if_neg nf]
 cases A with
 | none => rfl
 | some ad => rfl
theorem takeV_m {A : Option Addr} {D : List Int} {p m c : Nat} (z : Int) (nl : A = none -> c = 0) (cap : D.length <= c) (h : p + m <= D.length) (m0 : m ≠ 0) : Value.slice (Option.map (fun x => x.add p) A) m m = qy A D ⟨p, 0, z⟩ m := by
 have nf : ¬ ((RdT.mk p 0 z).code ≠ 0 \/ D.length < (RdT.mk p 0 z).at_ + m) := by
  rintro (q | q)
  ·exact q rfl
  ·dsimp only at q; omega
 unfold qy
 rw [if_neg nf]
 cases A with
 | none =>
  have := nl rfl
  omega
 | some ad => dsimp only; rw [if_neg m0]; rfl
def TakR (W : World) (g : Nat) (A : Option Addr) (c : Nat) (D : List Int) (r : RdT) (n : Nat) (T : TypeId) (e : Ending) (w' : World) : Prop := e = .returned (qy A D r n) /\ RdS w' g A c D (zC D r n).2 T /\ Mv [g] W w'
set_option maxHeartbeats 4000000 in
set_option maxRecDepth 100000 in
theorem Zw (g : Nat) (A : Option Addr) (c : Nat) (D : List Int) (r : RdT) (m : Nat) (W : World) (R : RdS W g A c D r 88) (hm : m <= 1099511627776) : Calls Tryz.prog 50 #[.pointer (some ⟨g, 0, none⟩), .int .i64 (m : Int)] W (TakR W g A c D r m 88) := by
 obtain ⟨p, q, z⟩ := r
 have k0 : W.cell? ⟨g, 0, none⟩ = some (.slice A D.length c) := R.box.c 0 _ rfl
 have k1 : W.cell? ⟨g, 1, none⟩ = some (.int .i64 (p : Int)) := R.box.c 1 _ rfl
 have k2 : W.cell? ⟨g, 2, none⟩ = some (.int .i64 q) := R.box.c 2 _ rfl
 have f1 := R.box.f 1
 have HR := zdX R
 have cap : D.length <= c := R.dat.cap
 have sz : D.length <= 140737488355328 := R.dat.sz
 have hp : p <= D.length := R.at_
 have nl := zdX R.dat.nil
 clear R
 by_cases c0 : q = 0
 case neg =>
  have EN : Hid (TakR W g A c D ⟨p, q, z⟩ m 88 (.returned (.slice none 0 0)) W) := zdX ⟨by unfold qy; rw [if_pos (Or.inl c0)], by rw [Q8 _ (show (RdT.mk p q z).code ≠ 0 from c0)]; exact HR.out, Mv.refl _ W⟩
  go_enter Tryz.func50, Tryz.ntmps50
  go_wp2_with fail
  go_ret
  exact EN.out
 subst c0
 obtain ⟨n, hn⟩ : ∃ n, n = D.length := ⟨_, rfl⟩
 have HN := zdX hn
 rw [<- hn] at k0 cap hp sz
 obtain ⟨V, hV⟩ : ∃ V, V = W.drew := ⟨_, rfl⟩
 have BV : Below W.heap.size W V := by rw [hV]; exact (Below.refl _ W).drew
 have RV : RdS V g A c D ⟨p, 0, z⟩ 88 := HR.out.nx (Mv.below BV) (HR.out.box.of_eq (BV.block g HR.out.box.lt)) HR.out.at_
 have HRV := zdX RV
 have MV : Mv [g] W V := Mv.below BV
 have HMV := zdX MV
 have w1 := zdY ((n : Int) - (p : Int)) (by omega)
 have j0 : V.cell? ⟨g, 0, none⟩ = some (.slice A n c) := by rw [hn]; exact RV.box.c 0 _ rfl
 have j1 : V.cell? ⟨g, 1, none⟩ = some (.int .i64 (p : Int)) := RV.box.c 1 _ rfl
 have fj1 := RV.box.f 1
 have HV := zdX hV
 by_cases c1 : n < p + m
 ·have c1' : (n : Int) - (p : Int) < (m : Int) := by omega
  have FL := zdX (kq g A n c ⟨p, 0, z⟩ 6 n V (by rw [hn]; exact HRV.out.box))
  have EN : Hid (∀ w', Bk w' g (rdV A n c (zO ⟨p, 0, z⟩ 6 n)) 88 -> Mv [g] V w' -> TakR W g A c D ⟨p, 0, z⟩ m 88 (.returned (.slice none 0 0)) w') := zdX (fun w' b mv => by
   have e : (zC D ⟨p, 0, z⟩ m).2 = zO ⟨p, 0, z⟩ 6 n := by rw [Q9 rfl (show (D.length : Int) - (p : Int) < (m : Int) by rw [<- HN.out]; exact c1'), <- HN.out]; rfl
   refine ⟨by unfold qy; rw [if_pos (Or.inr (by rw [<- HN.out]; exact c1))], ?_, HMV.out.then mv⟩
   rw [e]
   exact HRV.out.nx mv (by rw [<- HN.out]; exact b) (by rw [<- HN.out]; exact hp))
  clear hn BV RV MV hV
  go_enter Tryz.func50, Tryz.ntmps50
  go_upto_region 3 with fail
  go_region
  rw [<- HV.out]
  go_wp2_with fail
  refine FL.out.mono ?_; rintro e w1 ⟨rfl, b1, m1⟩
  have EN := zdX (EN.out _ b1 m1)
  clear FL b1 m1
  go_wp2_with fail
  go_ret
  exact EN.out
 ·have c1' : ¬ (n : Int) - (p : Int) < (m : Int) := by omega
  have w2 := zdY ((p : Int) + (m : Int)) (by omega)
  have TE : (zC D ⟨p, 0, z⟩ m).2 = ⟨p + m, 0, z⟩ := by rw [kU rfl (show p + m <= D.length by rw [<- hn]; omega)]
  obtain ⟨X, hX⟩ : ∃ X, X = V.setCell ⟨g, 1, none⟩ (.int .i64 ((p : Int) + (m : Int))) := ⟨_, rfl⟩
  have RX : RdS X g A c D ⟨p + m, 0, z⟩ 88 := by
   rw [hX, <- Int.natCast_add]
   exact RV.nx (Mv.set V (by simp)) (RV.box.set 1 _) (by show p + m <= D.length; rw [<- hn]; omega)
  have MX : Mv [g] W X := MV.then (by rw [hX]; exact Mv.set V (by simp))
  obtain ⟨U, hU⟩ : ∃ U, U = X.drew := ⟨_, rfl⟩
  have BU : Below X.heap.size X U := by rw [hU]; exact (Below.refl _ X).drew
  have RU : RdS U g A c D ⟨p + m, 0, z⟩ 88 := RX.nx (Mv.below BU) (RX.box.of_eq (BU.block g RX.box.lt)) RX.at_
  have x0 : X.cell? ⟨g, 0, none⟩ = some (.slice A n c) := by rw [hn]; exact RX.box.c 0 _ rfl
  have x1 : X.cell? ⟨g, 1, none⟩ = some (.int .i64 ((p : Int) + (m : Int))) := by rw [<- Int.natCast_add]; exact RX.box.c 1 _ rfl
  have u0 : U.cell? ⟨g, 0, none⟩ = some (.slice A n c) := by rw [hn]; exact RU.box.c 0 _ rfl
  have u1 : U.cell? ⟨g, 1, none⟩ = some (.int .i64 ((p : Int) + (m : Int))) := by rw [<- Int.natCast_add]; exact RU.box.c 1 _ rfl
  have EN : Hid (∀ v, v = qy A D ⟨p, 0, z⟩ m -> TakR W g A c D ⟨p, 0, z⟩ m 88 (.returned v) U) := zdX (fun v e => ⟨by rw [e], by rw [TE]; exact RU, MX.then (Mv.below BU)⟩)
  have capD : D.length <= c := by rw [<- hn]; exact cap
  have E0 : Hid (m = 0 -> Value.slice A 0 0 = qy A D ⟨p, 0, z⟩ 0) := zdX (fun m0 => takeV_0 z nl.out capD (show p <= D.length by rw [<- hn]; exact hp))
  have E1 : Hid (m ≠ 0 -> Value.slice (Option.map (fun x => x.add p) A) m m = qy A D ⟨p, 0, z⟩ m) := zdX (fun m0 => takeV_m z nl.out capD (show p + m <= D.length by rw [<- hn]; omega) m0)
  clear capD
  have HX := zdX hX
  have HU := zdX hU
  clear hn BV RV MV hV HRV HMV HR BU RU RX MX hX hU TE
  go_enter Tryz.func50, Tryz.ntmps50
  go_upto_region 3 with fail
  go_region
  rw [<- HV.out]
  go_upto_region 8 with fail
  rw [<- HX.out]
  go_region
  rw [<- HU.out]
  go_wp2_with fail
  ·go_ret
   obtain rfl : m = 0 := by assumption
   exact EN.out _ (E0.out rfl)
  ·go_ret
   exact EN.out _ (E1.out (by assumption))
end
end
section
open Go Go.RowKit Go.Sort
section
theorem xG {P : Program} {w : World} {ops : Array Oper} {rest : List Oper} {o : Oper} {a : Act} {Q : Exit -> Act -> World -> Prop} (hgd : o.guard = none) (s x : Operand) (t u : TypeId)
  (ho : o.op = .call { callee := .builtin .append, args := #[s, x], argTypes := #[t, u] }) (vs vx v' : Value) (w' : World) (hs : a.eval s = vs) (hx : a.eval x = vx)
  (hrun : (Builtin.append_ #[t, u] o.type #[vs, vx]).run P w = .ok v' w') (h : wpList P ops Q rest (a.put o.dst v') w') : wpList P ops Q (o :: rest) a w := by
 refine wpList_plain hgd fun K hK => ?_
 unfold Oper.wp
 simp [execOp, ho, resolve, invoke, builtin, hs, hx, hrun, Result.andThen]
 exact hK _ _ h
theorem Ja {P : Program} (w : World) {ops : Array Oper} {o : Oper} {a : Act} {K : Act -> World -> Prop} {Q : Exit -> Act -> World -> Prop} {E : Prop} (hgd : o.guard = none) (s x : Operand) (t : TypeId)
  (ho : o.op = .call { callee := .builtin .append, args := #[s, x], argTypes := #[t, t] })
  (base : Nat) (e : TypeId) (i : TypeInfo) (z : Value) (size bytes : Nat) (ht : P.underlying t = some (.slice e)) (hi : P.info? e = some i) (hz : i.zero = some z)
  (hsize : i.size = size) (hby : i.bytes = bytes) (hzs : z.cells.size = size) (hsz : 0 < size)
  (v : Value) (n : Nat) (xs : List Value) (hs : a.eval s = v) (hown : w.ownsRow base e size v n xs)
  (ad : Addr) (m c : Nat) (news : List Value) (hx : a.eval x = .slice (some ad) m c) (hl : news.length = m * size) (hnews : ∀ j u, news[j]? = some u -> w.cell? (ad.add j) = some u) (h1 : ∀ u ∈ news, u.oneCell' = true)
  (h63 : n + m <= maxLen) (hbytes : (n + m) * bytes <= 140737488355328) (hbase : base <= w.heap.size)
  (h : ∀ v' w', w'.ownsRow base e size v' (n + m) (xs ++ news) -> w.grownBy w' v.ownBlock -> (v' = .slice none 0 0 ↔ v = .slice none 0 0 /\ m = 0) -> K (a.put o.dst v') w') :
  if Region.wanted o (yielded ops a.tmps) = true then Oper.wp P o a w K Q else E := by
 have hw : Region.wanted o (yielded ops a.tmps) = true := by simp [Region.wanted, hgd]
 rw [if_pos hw]
 exact wp_append_own w s x t ho base e i z size bytes ht hi hz hsize hby hzs hsz v n xs hs hown ad m c news hx hl hnews h1 h63 hbytes hbase h
def BRow (W : World) (g N : Nat) (zs : List Int) : Prop := zs.length <= N /\ ∃ cur, W.heap[g]? = some (.cells cur 5 (0, 0)) /\ cur.size = N /\ cur.toList.take zs.length = bts zs
theorem BRow.lt {W : World} {g N : Nat} {zs : List Int} (h : BRow W g N zs) : g < W.heap.size := by
 obtain ⟨_, cur, e, _⟩ := h
 exact (Array.getElem?_eq_some_iff.1 e).1
theorem BRow.keep {W W' : World} {g N : Nat} {zs : List Int} (h : BRow W g N zs) (e : W'.heap[g]? = W.heap[g]?) : BRow W' g N zs := by
 obtain ⟨l, cur, h1, h2⟩ := h
 exact ⟨l, cur, e.trans h1, h2⟩
theorem BRow.new (W : World) (N : Nat) (z : Array Value) (hz : z.size = N) : BRow (W.alloc (.cells z 5)) W.heap.size N [] := ⟨Nat.zero_le _, z, World.alloc_heap_new W _, hz, by simp [bts]⟩
theorem xU (zs : List Int) : (bts zs).length = zs.length := by unfold bts; simp
theorem zcq {w : World} {g N : Nat} {zs bs : List Int} (h : BRow w g N zs) (A : Option Addr) (c : Nat) (hA : A = none -> bs = []) (S : Sees w w.heap.size A (bts bs)) (room : zs.length + bs.length <= N) :
  ∃ w', (Builtin.append_ #[27, 27] 27 #[.slice (some ⟨g, 0, none⟩) zs.length N, .slice A bs.length c]).run Tryz.prog w = .ok (.slice (some ⟨g, 0, none⟩) (zs.length + bs.length) N) w' /\ BRow w' g N (zs ++ bs) /\ Mv [g] w w' := by
 obtain ⟨i0, hi, hz0, hz1, hz2⟩ := info_parts xR
 cases A with
 | none =>
  obtain rfl := hA rfl
  refine ⟨w, ?_, by rw [List.append_nil]; exact h, Mv.refl _ w⟩
  have := h.1
  simp [Builtin.append_, run_underlying Tryz.underlying27, sizeOf, typeInfo, hi, hz1, Builtin.lenOf, Builtin.firstCells, this, storeCells, Result.andThen]
 | some ad =>
  obtain ⟨l, cur, h1, h2, h3⟩ := h
  have hs : i0.size = 1 := hz1
  have R := run_append_room (P := Tryz.prog) w 27 27 5 i0 Tryz.underlying27 hi g zs.length N cur h1 ad bs.length c (bts bs) (by rw [hs, xU]; omega) (fun j u hu => by
   obtain ⟨a', e, _, k⟩ := S (fun z => by rw [z] at hu; simp at hu)
   cases e
   exact k j u hu) (QK bs) room (by rw [hs, xU]; omega)
  refine ⟨_, R, ⟨by rw [List.length_append]; exact room, _, setRow_heap w g cur _ _ _ h1, ?_, ?_⟩, ⟨rfl, rfl, rfl, by simp, fun k _ hk => setRow_other w g k _ (by simpa using hk)⟩⟩
  ·simp only [List.size_toArray, List.length_append, List.length_take, List.length_drop, Array.length_toList, xU, hs]
   omega
  ·rw [hs, Nat.mul_one, h3, <- kT, <- xU (zs ++ bs)]
   exact List.take_left
theorem BRow.sees {W : World} {g N o : Nat} {zs : List Int} (h : BRow W g N zs) (bs : List Int) (e : ∃ r, zs.drop o = bs ++ r) : ∀ j u, (bts bs)[j]? = some u -> W.cell? ((⟨g, o, none⟩ : Addr).add j) = some u := by
 obtain ⟨l, cur, h1, h2, h3⟩ := h
 obtain ⟨r, e⟩ := e
 intro j u hu
 have z : (bts zs)[o + j]? = some u := by
  have : (bts (zs.drop o))[j]? = some u := by
   rw [e, kT, List.getElem?_append_left (List.getElem?_eq_some_iff.1 hu).1]
   exact hu
  unfold bts at this ⊢
  rw [List.map_drop, List.getElem?_drop] at this
  exact this
 rw [<- h3] at z
 have z2 : cur.toList[o + j]? = some u := by
  rw [List.getElem?_take] at z
  split at z
  ·exact z
  ·cases z
 rw [Addr.add_lit]
 simp [World.cell?, h1, <- z2]
def cpF (g : Nat) (base : Int) : Nat -> List FA -> List FA
 | _, [] => []
 | o, x :: l => ⟨x.at_ + base, ⟨some ⟨g, if x.b.bs.length = 0 then 0 else o, none⟩, x.b.bs.length, x.b.bs⟩⟩ :: cpF g base (o + x.b.bs.length) l
def zu (l : List FA) : List Int := l.flatMap (·.b.bs)
theorem kV (g : Nat) (base : Int) : ∀ (o : Nat) (l : List FA), (cpF g base o l).length = l.length
 | _, [] => rfl
 | o, x :: l => by rw [cpF, List.length_cons, List.length_cons, kV]
theorem Vg (g : Nat) (base : Int) : ∀ (o : Nat) (a b : List FA), cpF g base o (a ++ b) = cpF g base o a ++ cpF g base (o + (zu a).length) b
 | o, [], b => rfl
 | o, x :: a, b => by
  rw [List.cons_append, cpF, cpF, Vg g base _ a b, List.cons_append]
  unfold zu
  rw [List.flatMap_cons, List.length_append, Nat.add_assoc]
theorem vK (a b : List FA) : zu (a ++ b) = zu a ++ zu b := by unfold zu; rw [List.flatMap_append]
theorem vL (g : Nat) (base : Int) : ∀ (o : Nat) (l : List FA), frms (cpF g base o l) = qF base (frms l)
 | _, [] => rfl
 | o, x :: l => by
  have := vL g base (o + x.b.bs.length) l
  unfold frms qF at *
  rw [cpF, List.map_cons, this]
  rfl
theorem Zx {W : World} {g N : Nat} {zs : List Int} (h : BRow W g N zs) (base : Int) (hN : N <= 140737488355328) : ∀ (l : List FA) (o : Nat) (r : List Int), zs.drop o = zu l ++ r -> (∀ x ∈ l, Byt x.b.bs /\ -9223372036854775808 <= x.at_ + base /\ x.at_ + base <= 9223372036854775807) -> ∀ x ∈ cpF g base o l, FrD W W.heap.size x
 | [], o, r, e, hl, x, m => by cases m
 | y :: l, o, r, e, hl, x, m => by
  have e' : zs.drop o = y.b.bs ++ (zu l ++ r) := by
   rw [e]
   unfold zu
   rw [List.flatMap_cons, List.append_assoc]
  have len := congrArg List.length e'
  rw [List.length_drop, List.length_append] at len
  have l0 := h.1
  rw [cpF] at m
  rcases List.mem_cons.1 m with rfl | m
  ·obtain ⟨q1, q2⟩ := hl y (List.mem_cons_self)
   have K : y.b.bs.length <= 140737488355328 := by omega
   refine ⟨⟨(fun z => by cases z), zdZ, K, fun ne => ⟨_, rfl, h.lt, ?_⟩, q1⟩, q2⟩
   have nz : ¬ y.b.bs.length = 0 := fun z => ne (by rw [List.eq_nil_of_length_eq_zero z]; rfl)
   have := h.sees y.b.bs ⟨_, e'⟩
   intro j u hu
   rw [if_neg nz]
   exact this j u hu
  ·exact Zx h base hN l (o + y.b.bs.length) r (by rw [<- List.drop_drop, e', List.drop_left]) (fun x m => hl x (List.mem_cons_of_mem _ m)) x m
end
end
section
open Go Go.RowKit Go.Sort
section
def EncR (W : World) (w h : Int) (l : List Frm) (e : Ending) (w' : World) : Prop := ∃ v, e = .returned (.tuple #[v, .int .i64 (encT w h l).2]) /\ w'.ownsRow W.heap.size 5 1 v (encT w h l).1.length (bts (encT w h l).1) /\ Below W.heap.size W w'
theorem own_noB (w : World) (LO : Nat) : w.ownsRow LO 5 1 (.slice none 0 0) ([] : List Int).length (bts []) := ⟨rfl, Or.inl ⟨rfl, rfl⟩⟩
theorem Zy {W w' : World} {w h : Int} {l : List Frm} {k : Int} (e : encT w h l = ([], k)) (hb : Below W.heap.size W w') : EncR W w h l (.returned (.tuple #[.slice none 0 0, .int .i64 k])) w' := ⟨_, by rw [e], by rw [e]; exact own_noB _ _, hb⟩
theorem own_lit3 {W : World} (a b c : Int) (LO : Nat) (h : LO <= W.heap.size) : (W.alloc (.cells #[.int .u8 a, .int .u8 b, .int .u8 c] 5)).ownsRow LO 5 1 (.slice (some ⟨W.heap.size, 0, none⟩) 3 3) 3 (bts [a, b, c]) :=
 ⟨rfl, Or.inr ⟨W.heap.size, 3, _, rfl, h, World.alloc_heap_new W _, zdZ, by unfold maxLen; omega, rfl, rfl⟩⟩
theorem Bk.keep {W w' : World} {b : Nat} {vs : List Value} {T : TypeId} (h : Bk W b vs T) (k : KeepU W w') (ne : T ≠ 5) : Bk w' b vs T := h.of_eq (k b _ T _ h ne)
theorem Vh : ∀ (k : Nat) (n : Int), (numF k n).length <= k + 1
 | 0, n => by rw [numF]; simp
 | k + 1, n => by
  rw [numF]
  split
  ·simp
  ·have := Vh k (n / 128); simp; omega
theorem vM (n : Int) : (numL n).length <= 10 := Vh 9 n
def encFin (E : Option (List Int)) : List Int × Int := match E with | none => ([], 3) | some b => if 1048576 < (qu b).length then ([], 3) else (qu b, 0)
theorem pre_byt {w h : Int} {l : List Frm} {b : List Int} (sz : qc w h = true) (ck : qV l = 0) (hb : ∀ f ∈ l, Byt f.bs) (e : encF (xm w h l.length) 0 l = some b) : Byt b := by
 have s := of_decide_eq_true sz
 obtain ⟨p1, p2, p3⟩ := Zs ck
 rw [Zq _ _ _ _ e]
 unfold xm
 have hd : Byt [70, 77, 1] := by intro x m; simp at m; rcases m with rfl | rfl | rfl <;> decide
 exact (((hd.app (xS s.1 (by omega))).app (xS s.2.2.1 (by omega))).app (xS (by omega) (by omega))).app (QT l 0 (by decide) p3 p1 hb)
theorem zcr {L : List FA} {k : Nat} (hk : k < L.length) (zs : List Int) (last : Int) : encF zs last (frms (L.drop k)) = if 1048576 < zs.length + (L[k]).b.bs.length then none else encF (zs ++ numL ((L[k]).at_ - last) ++ numL (L[k]).b.bs.length ++ (L[k]).b.bs) (L[k]).at_ (frms (L.drop (k + 1))) := by
 rw [List.drop_eq_getElem_cons hk]
 rfl
def EncAt (Q : World) (ys : List Int) (v : Value) (w3 : World) : Prop := w3.ownsRow Q.heap.size 5 1 v ys.length (bts ys) /\ Below Q.heap.size Q w3
theorem EncAt.size {Q w3 : World} {ys : List Int} {v : Value} (h : EncAt Q ys v w3) : Q.heap.size <= w3.heap.size := h.2.size
theorem EncAt.keep {Q w3 w4 : World} {ys : List Int} {v : Value} (h : EncAt Q ys v w3) (hb : Below w3.heap.size w3 w4) : EncAt Q ys v w4 := ⟨QJ h.1 hb, h.2.trans (hb.mono h.size)⟩
theorem zcs {w w3 : World} {LO : Nat} {v : Value} {n : Nat} {xs : List Value} (hb : w.ownsRow LO 5 1 v n xs) (hg : w.grownBy w3 v.ownBlock) : KeepU w w3 := fun g cur T fl e ne => by
 refine hg.block g (Array.getElem?_eq_some_iff.1 e).1 (fun z => ?_)
 rcases hb.2 with ⟨rfl, _⟩ | ⟨g', cap, cu, rfl, _, h3, _⟩
 ·simp [Value.ownBlock] at z
 ·simp [Value.ownBlock] at z
  subst z
  rw [e] at h3
  cases h3
  exact ne rfl
theorem EncAt.grown {Q w w3 : World} {zs bs : List Int} {v v' : Value} (h : EncAt Q zs v w) (ho : w3.ownsRow Q.heap.size 5 1 v' (zs.length + bs.length) (bts zs ++ bts bs)) (hg : w.grownBy w3 v.ownBlock) : EncAt Q (zs ++ bs) v' w3 := by
 refine ⟨?_, h.2.grown hg h.size (fun g hg2 => (h.1.lt g hg2).1)⟩
 have e : bts (zs ++ bs) = bts zs ++ bts bs := by unfold bts; simp
 rw [e, List.length_append]
 exact ho
theorem vN {Q w3 : World} {ys : List Int} {v : Value} (h : EncAt Q ys v w3) (n0 : Nat) (h1 : n0 <= 1099511627776) (ub : ys.length <= 10000000) :
  Calls Tryz.prog 45 #[v, .int .i64 (n0 : Int)] w3 (fun e w4 => ∃ zs A c, zs = ys ++ numL (n0 : Int) /\ e = .returned (.slice A zs.length c) /\ EncAt Q zs (.slice A zs.length c) w4 /\ KeepU w3 w4) :=
 (t_number Q.heap.size v ys n0 w3 h.1 h.size h1 ub).mono (fun e w4 ⟨v', e1, o, b, k⟩ => by
  obtain ⟨A, c, rfl⟩ := qY o
  exact ⟨_, A, c, rfl, e1, ⟨o, h.2.trans b⟩, k⟩)
theorem encR_yes {Q W w' : World} {w h : Int} {l : List Frm} {D : List Int} {v : Value} (e : encT w h l = (D, 0)) (hE : EncAt Q D v w') (hb : Below W.heap.size W Q) : EncR W w h l (.returned (.tuple #[v, .int .i64 0])) w' := ⟨v, by rw [e], by rw [e]; exact qR hE.1 hb.size, hb.trans (hE.2.mono hb.size)⟩
set_option maxHeartbeats 16000000 in
set_option maxRecDepth 100000 in
theorem t_Encode (w h : Int) (A : Option Addr) (c : Nat) (L : List FA) (B : Nat) (W : World) (D : FrsD W B A c L) (hB : B <= W.heap.size) : Calls Tryz.prog 16 #[.agg #[.int .i64 w, .int .i64 h], .slice A L.length c] W (EncR W w h (frms L)) := by
 obtain ⟨Q, hQ⟩ : ∃ Q, Q = W.alloc (.cells #[.int .i64 w, .int .i64 h] 23) := ⟨_, rfl⟩
 obtain ⟨i0, hi0, hz0, hz1, hz2⟩ := info_parts xR
 have BQ := zdX (show Below W.heap.size W Q by rw [hQ]; exact (Below.refl _ W).alloc zdZ _)
 have K : Bk Q W.heap.size [.int .i64 w, .int .i64 h] 23 := by rw [hQ]; exact Bk.new W _ _
 have k0 := K.c 0 _ rfl
 have k1 := K.c 1 _ rfl
 have KQ := zdX K
 have HQ := zdX hQ
 have S1 := zdX (KD w h Q)
 have CK := zdX (fun (w1 : World) (hb : Below Q.heap.size Q w1) => KR A c L B w1 (D.below (BQ.out.trans (hb.mono BQ.out.size)) hB) (Nat.le_trans hB (Nat.le_trans BQ.out.size hb.size)))
 have HD := zdX D
 obtain ⟨l, hl⟩ : ∃ l, l = frms L := ⟨_, rfl⟩
 rw [<- hl] at CK
 rw [<- hl]
 have HL := zdX hl
 clear K hQ hl D
 go_enter Tryz.func16, Tryz.ntmps16
 go_upto_region 1 with fail
 rw [<- HQ.out]
 clear HQ
 go_wp2_with fail
 refine S1.out.mono ?_; rintro e w1 ⟨rfl, hb1⟩
 have B1 := zdX hb1
 clear S1 hb1
 obtain ⟨sz, hsz⟩ : ∃ sz, sz = qc w h := ⟨_, rfl⟩
 rw [<- hsz]
 have HSZ := zdX hsz
 clear hsz
 cases sz with
 | false =>
  have EN := zdX (Zy (W := W) (l := l) (show encT w h l = ([], 5) by unfold encT; rw [if_pos HSZ.out.symm]) (BQ.out.trans (B1.out.mono BQ.out.size)))
  clear CK
  go_wp2_with fail
  go_ret2
  exact EN.out
 | true =>
  have C1 := zdX (CK.out w1 B1.out)
  clear CK
  obtain ⟨ck, hck⟩ : ∃ ck, ck = qV l := ⟨_, rfl⟩
  rw [<- hck] at C1
  have HCK := zdX hck
  clear hck
  go_wp2_with fail
  refine C1.out.mono ?_; rintro e w2 ⟨rfl, hb2⟩
  have B2 := zdX (B1.out.trans (hb2.mono B1.out.size))
  clear C1 B1 hb2
  by_cases c0 : ck = 0
  case neg =>
   have c0' : (ck == 0) = false := by simpa using c0
   have EN := zdX (Zy (W := W) (l := l) (show encT w h l = ([], ck) by unfold encT; rw [if_neg (by rw [<- HSZ.out]; decide), <- HCK.out, if_pos c0]) (BQ.out.trans (B2.out.mono BQ.out.size)))
   go_wp2_with fail
   go_ret2
   exact EN.out
  subst c0
  have k0 := (KQ.out.of_eq (B2.out.block _ KQ.out.lt)).c 0 _ rfl
  have k1 := (KQ.out.of_eq (B2.out.block _ KQ.out.lt)).c 1 _ rfl
  obtain ⟨wn, rfl⟩ : ∃ n : Nat, w = (n : Int) := ⟨w.toNat, by have := HSZ.out; unfold qc at this; simp at this; omega⟩
  obtain ⟨hn, rfl⟩ : ∃ n : Nat, h = (n : Int) := ⟨h.toNat, by have := HSZ.out; unfold qc at this; simp at this; omega⟩
  have bw : wn <= 4096 /\ hn <= 4096 := by have := HSZ.out; unfold qc at this; simp at this; omega
  have lt2 := Nat.lt_of_lt_of_le KQ.out.lt B2.out.size
  have E0 : EncAt Q [70, 77, 1] (.slice (some ⟨w2.heap.size, 0, none⟩) 3 3) (w2.alloc (.cells #[.int .u8 70, .int .u8 77, .int .u8 1] 5)) := ⟨own_lit3 (W := w2) 70 77 1 Q.heap.size B2.out.size, B2.out.alloc B2.out.size _⟩
  have N1 := zdX (vN E0 wn (by omega) (by decide))
  have K3 := zdX (KQ.out.of_eq (E0.2.block _ KQ.out.lt))
  have k0 := K3.out.c 0 _ rfl
  have k1 := K3.out.c 1 _ rfl
  clear E0
  go_wp2_with fail
  refine N1.out.mono ?_; rintro e w3 ⟨zs1, A1, c1, hz1, rfl, hE1, hk1⟩
  have k0 := (K3.out.keep hk1 (by decide)).c 0 _ rfl
  have k1 := (K3.out.keep hk1 (by decide)).c 1 _ rfl
  clear N1
  have l1 : zs1.length <= 100 := by rw [hz1, List.length_append]; have := vM (wn : Int); have e3 : ([70, 77, 1] : List Int).length = 3 := rfl; omega
  have N2 := zdX (vN hE1 hn (by omega) (by omega))
  have HZ1 := zdX hz1
  have HE1 := zdX hE1
  clear hz1 hE1 hk1
  go_wp2_with fail
  refine N2.out.mono ?_; rintro e w4 ⟨zs2, A2, c2, hz2, rfl, hE2, hk2⟩
  have l2 : zs2.length <= 200 := by rw [hz2, List.length_append]; have := vM (hn : Int); omega
  have l3 : L.length <= 1048576 := by have := HCK.out; unfold qV zZ at this; rw [HL.out, zU] at this; by_cases c : L.length <= 1048576 <;> simp at this <;> omega
  have N3 := zdX (vN hE2 L.length (by omega) (by omega))
  have HZ2 := zdX (hz2.trans (by rw [HZ1.out]))
  have HE2 := zdX hE2
  clear hz2 hE2 hk2 N2 HE1 HZ1
  go_wp2_with fail
  refine N3.out.mono ?_; rintro e w5 ⟨zs3, A3, c3, hz3, rfl, hE3, hk3⟩
  have l4 : zs3.length <= 300 := by rw [hz3, List.length_append]; have := vM (L.length : Int); omega
  have HZ3 := zdX (show zs3 = xm wn hn l.length by rw [hz3, HZ2.out, HL.out, zU]; rfl)
  have HE3 := zdX hE3
  clear hz3 hE3 hk3 N3 HE2 HZ2 K3
  obtain ⟨n, hn'⟩ : ∃ n, n = L.length := ⟨_, rfl⟩
  obtain ⟨E, hE⟩ : ∃ E, E = encF (xm wn hn l.length) 0 l := ⟨_, rfl⟩
  have HE := zdX (show encF zs3 0 (frms (L.drop 0)) = E by rw [hE, HZ3.out, HL.out]; rfl)
  have HT := zdX (show zG 0 (frms (L.drop 0)) = true by
   have z := HCK.out
   unfold qV at z
   rw [HL.out] at z
   split at z
   ·exact absurd z (by decide)
   ·split at z
    ·rename_i t; exact t
    ·exact absurd z (by decide))
  have RE := zdX (show encT wn hn l = encFin E by unfold encT; rw [if_neg (by rw [<- HSZ.out]; decide), <- HCK.out, if_neg (by decide), hE]; rfl)
  have CB := zdX (show ∀ b, E = some b -> Byt b from fun b e => pre_byt HSZ.out.symm HCK.out.symm (fun f m => by
   rw [HL.out] at m
   obtain ⟨x, mx, rfl⟩ := List.mem_map.1 m
   exact (HD.out.ok x mx).b.rng) (hE.symm.trans e))
  have CE := zdX (HD.out.cells hB)
  have HN := zdX hn'
  rw [<- hn'] at l3
  rw [<- hn']
  have HB := zdX hB
  clear hn' hE HZ3 HSZ HCK KQ hB
  go_wp2_with fail
  go_loopw [7, 8, 35] (fun s7 s8 i wr => ∃ (k last : Nat) (zs : List Int) (A' : Option Addr) (c' : Nat), k <= n /\ s7 = .slice A' zs.length c' /\ s8 = .int .i64 (last : Int) /\ i = .int .i64 (k : Int) /\ last <= 1099511627776 /\ zs.length <= 1048600 /\ Hid (EncAt Q zs (.slice A' zs.length c') wr) /\ Hid (encF zs last (frms (L.drop k)) = E) /\ Hid (zG last (frms (L.drop k)) = true)) (fun _ _ i _ => n - (intOf i).toNat)
  case atStart => exact ⟨0, 0, zs3, A3, c3, Nat.zero_le _, rfl, rfl, by simp, by omega, by omega, HE3, HE, HT⟩
  case round =>
   obtain ⟨k, last, zs, A', c', hk, rfl, rfl, rfl, hl, hz, he, hf, ht⟩ := hrel
   clear HE3 HE HT
   by_cases lt : k < n
   ·have kl : k < L.length := by rw [<- HN.out]; exact lt
    obtain ⟨ad, rfl, z1, z2⟩ := CE.out k wr kl (BQ.out.trans (he.out.2.mono BQ.out.size))
    have BD := zdX (fun (w' : World) (hb : Below Q.heap.size Q w') => (HD.out.ok _ (List.getElem_mem kl)).b.below (BQ.out.trans (hb.mono BQ.out.size)) HB.out)
    have SE := zdX ((zcr kl zs last).symm.trans hf.out)
    have ST := zdX ((Q7 kl last).symm.trans ht.out)
    generalize hbb : (L[k]).b = bb at *
    obtain ⟨xA, xc, bs⟩ := bb
    generalize hat : (L[k]).at_ = xt at *
    have q0 : (0 : Int) <= (k : Int) := by omega
    have q5 : (k : Int) < (n : Int) := by omega
    have tn : (k : Int).toNat = k := by omega
    have wk := zdY ((k : Int) + 1) (by omega)
    clear CE ht hf hbb hat
    dsimp only at z2 SE
    have PT := ST.out
    rw [Bool.and_eq_true, decide_eq_true_eq] at PT
    obtain ⟨⟨pt1, pt2⟩, pt3⟩ := PT
    obtain ⟨x1, rfl⟩ : ∃ x1 : Nat, xt = (x1 : Int) := ⟨xt.toNat, by omega⟩
    have NT := zdX pt3
    obtain ⟨d, hd⟩ : ∃ d : Nat, d = x1 - last := ⟨_, rfl⟩
    have bl : bs.length <= 140737488355328 := by have h1 := (BD.out wr he.out.2).cap; have h2 := (BD.out wr he.out.2).sz; dsimp only at h1 h2; omega
    have wd : IntKind.i64.wrap ((x1 : Int) - (last : Int)) = (d : Int) := by rw [zdY _ (by omega)]; omega
    have wd2 : (x1 : Int) - (last : Int) = (d : Int) := by omega
    have ws := zdY ((zs.length : Int) + (bs.length : Int)) (by omega)
    obtain ⟨Q4, hQ4⟩ : ∃ Q4, Q4 = wr.alloc (.cells #[.int .i64 (x1 : Int), .slice xA bs.length xc] 47) := ⟨_, rfl⟩
    have hb4 : Below wr.heap.size wr Q4 := by rw [hQ4]; exact (Below.refl _ wr).alloc zdZ _
    have E4 := zdX (he.out.keep hb4)
    have K4 : Bk Q4 wr.heap.size [.int .i64 (x1 : Int), .slice xA bs.length xc] 47 := by rw [hQ4]; exact Bk.new wr _ _
    have b0 := K4.c 0 _ rfl
    have b1 := K4.c 1 _ rfl
    have HQ4 := zdX hQ4
    have HK4 := zdX K4
    clear K4 hQ4 pt3 ST hb4 hd
    by_cases c1 : 1048576 < zs.length + bs.length
    ·have c1' : (1048576 : Int) < (zs.length : Int) + (bs.length : Int) := by omega
     have EN := zdX (Zy (W := W) (l := l) (show encT wn hn l = ([], 3) by rw [RE.out, <- SE.out, if_pos c1]; rfl) (BQ.out.trans (E4.out.2.mono BQ.out.size)))
     clear SE RE he
     go_upto_region 14 with fail
     rw [<- HQ4.out]
     go_wp2_with fail
     go_ret2
     exact EN.out
    ·have c1' : ¬ (1048576 : Int) < (zs.length : Int) + (bs.length : Int) := by omega
     have N4 := zdX (vN E4.out d (by omega) (by omega))
     have SE2 := zdX ((if_neg c1).symm.trans SE.out)
     clear SE he
     go_upto_region 14 with fail
     rw [<- HQ4.out]
     go_wp2_with fail
     refine N4.out.mono ?_; rintro e w6 ⟨zs4, A4, c4, hz4, rfl, hE4, hk4⟩
     have b0 := (HK4.out.keep hk4 (by decide)).c 0 _ rfl
     have b1 := (HK4.out.keep hk4 (by decide)).c 1 _ rfl
     have l6 : zs4.length <= zs.length + 10 := by rw [hz4, List.length_append]; have := vM (d : Int); omega
     have N5 := zdX (vN hE4 bs.length (by omega) (by omega))
     have K6 := zdX (HK4.out.keep hk4 (by decide))
     have HZ4 := zdX hz4
     clear hz4 hE4 hk4 N4 HK4 E4
     go_wp2_with fail
     refine N5.out.mono ?_; rintro e w7 ⟨zs5, A5, c5, hz5, rfl, hE5, hk5⟩
     have l7 : zs5.length <= zs.length + 20 := by rw [hz5, List.length_append]; have := vM (bs.length : Int); omega
     have b0 := (K6.out.keep hk5 (by decide)).c 0 _ rfl
     have b1 := (K6.out.keep hk5 (by decide)).c 1 _ rfl
     have K7 := zdX (K6.out.keep hk5 (by decide))
     have HF5 := zdX (show encF (zs5 ++ bs) (x1 : Int) (frms (L.drop (k + 1))) = E by rw [hz5, HZ4.out, <- wd2]; exact SE2.out)
     have E5 := zdX hE5
     clear hz5 hE5 hk5 N5 K6 SE2 HZ4
     have x2 : x1 <= 1099511627776 := by omega
     cases xA with
     | none =>
      have h1 := (BD.out w7 E5.out.2).nil rfl
      have h2 := (BD.out w7 E5.out.2).cap
      dsimp only at h1 h2
      obtain rfl : bs = [] := List.eq_nil_of_length_eq_zero (by omega)
      subst h1
      have HO := zdX E5.out.1
      have HF6 := zdX (show encF zs5 (x1 : Int) (frms (L.drop (k + 1))) = E by have z := HF5.out; rw [List.append_nil] at z; exact z)
      have l8 : zs5.length <= 1048600 := by simp at c1; omega
      clear BD K7 HF5
      go_wp2_with (at_builtin; refine wpList_append_own_none rfl (.tmp 57) (.tmp 59) 27 rfl Q.heap.size 5 i0 1 Tryz.underlying27 hi0 _ _ _ rfl HO.out rfl ?_)
      go_roundw
      case rel => exact ⟨k + 1, x1, zs5, A5, c5, by omega, rfl, rfl, by go_num, x2, l8, E5, HF6, NT⟩
      case measure => simp [intOf]; omega
     | some ay =>
      have BD7 := BD.out w7 E5.out.2
      have NS := zdX (show ∀ j u, (bts bs)[j]? = some u -> w7.cell? (ay.add j) = some u from fun j u hu => by
       obtain ⟨a', e, _, hc⟩ := BD7.sees (fun z => by have z2 : bts bs = [] := z; rw [z2] at hu; simp at hu)
       cases e
       exact hc j u hu)
      have O1 : Hid (∀ u ∈ bts bs, u.oneCell' = true) := zdX (by intro u hu; unfold bts at hu; rw [List.mem_map] at hu; obtain ⟨b, _, rfl⟩ := hu; rfl)
      have HL1 : Hid ((bts bs).length = bs.length * 1) := zdX (by unfold bts; simp)
      have H2 : zs5.length + bs.length <= maxLen := by unfold maxLen; omega
      have H3 : (zs5.length + bs.length) * 1 <= 140737488355328 := by omega
      have HO := zdX E5.out.1
      have H4 := zdX E5.out.size
      have NX : Hid (∀ (w3 : World) (v' : Value), w3.ownsRow Q.heap.size 5 1 v' (zs5.length + bs.length) (bts zs5 ++ bts bs) -> w7.grownBy w3 (Value.slice A5 zs5.length c5).ownBlock -> ∃ zs6 A6 c6, v' = .slice A6 zs6.length c6 /\ zs6 = zs5 ++ bs /\ EncAt Q zs6 (.slice A6 zs6.length c6) w3 /\ Bk w3 wr.heap.size [.int .i64 (x1 : Int), .slice (some ay) bs.length xc] 47) := zdX (fun w3 v' ho hg => by
       have q := E5.out.grown ho hg
       obtain ⟨A6, c6, rfl⟩ := qY q.1
       exact ⟨_, A6, c6, rfl, rfl, q, K7.out.keep (zcs E5.out.1 hg) (by decide)⟩)
      clear E5 K7 BD7 BD
      go_wp2_with (at_builtin; refine wpList_append_own _ rfl (.tmp 57) (.tmp 59) 27 rfl Q.heap.size 5 i0 (.int .u8 0) 1 1 Tryz.underlying27 hi0 hz0 hz1 hz2 rfl (by decide) _ _ _ rfl HO.out ay _ _ (bts bs) rfl HL1.out NS.out O1.out H2 H3 H4.out ?_; intro v' w8 hown3 hg3 _; obtain ⟨zs6, A6, c6, rfl, hz6, E6, K8⟩ := NX.out w8 v' hown3 hg3; have b0 := K8.c 0 _ rfl; have E6 := zdX E6; have HZ6 := zdX hz6; clear hown3 hg3 NX HO hz6 K8)
      have l8 : zs6.length <= 1048600 := by rw [HZ6.out, List.length_append]; omega
      have HF6 := zdX (show encF zs6 (x1 : Int) (frms (L.drop (k + 1))) = E by rw [HZ6.out]; exact HF5.out)
      go_roundw
      case rel => exact ⟨k + 1, x1, zs6, A6, c6, by omega, rfl, rfl, by go_num, x2, l8, E6, HF6, NT⟩
      case measure => simp [intOf]; omega
   ·have ek : k = n := by omega
    subst ek
    have q5 : ¬ (k : Int) < (k : Int) := by omega
    have EE := zdX (show E = some zs by rw [<- hf.out, List.drop_of_length_le (by rw [<- HN.out]; exact zdZ)]; rfl)
    have RE2 := zdX (show encT wn hn l = encFin (some zs) by rw [RE.out, EE.out])
    have ES := zdX he.out
    have BY := CB.out zs EE.out
    obtain ⟨s, hs⟩ : ∃ s : Nat, sumL zs = (s : Int) := ⟨(sumL zs).toNat, by have := vI zs; omega⟩
    have s0 : s < 4294967296 := by have := vI zs; omega
    have SM := zdX (t_sum A' c' zs wr.heap.size wr (Sees.of_own he.out.1) BY (by omega))
    rw [hs] at SM
    have HS := zdX hs
    obtain ⟨D, hD⟩ : ∃ D, D = qu zs := ⟨_, rfl⟩
    have RE3 := zdX (show encT wn hn l = if 1048576 < D.length then ([], 3) else (D, 0) by rw [RE.out, EE.out, hD]; rfl)
    have HDD := zdX (show D = zs ++ qW (s : Int) by rw [hD]; unfold qu; rw [hs])
    have dl : D.length = zs.length + 4 := by rw [HDD.out, List.length_append]; rfl
    have O1 : Hid (∀ u ∈ [Value.int .u8 ((s : Int) % 256), .int .u8 ((s : Int) / 256 % 256), .int .u8 ((s : Int) / 65536 % 256), .int .u8 ((s : Int) / 16777216)], u.oneCell' = true) := zdX (by intro u hu; simp at hu; rcases hu with rfl | rfl | rfl | rfl <;> rfl)
    have H2 : zs.length + 4 <= maxLen := by unfold maxLen; omega
    have H3 : (zs.length + 4) * 1 <= 140737488355328 := by omega
    have EA := zdX (he.out.keep ((Below.refl _ wr).alloc zdZ (.cells #[.int .u8 ((s : Int) % 256), .int .u8 ((s : Int) / 256 % 256), .int .u8 ((s : Int) / 65536 % 256), .int .u8 ((s : Int) / 16777216)] 5)))
    have HO := zdX EA.out.1
    have H4 := zdX EA.out.size
    have NW := zdX (jd wr [.int .u8 ((s : Int) % 256), .int .u8 ((s : Int) / 256 % 256), .int .u8 ((s : Int) / 65536 % 256), .int .u8 ((s : Int) / 16777216)] 5)
    have NX : Hid (∀ (w3 : World) (v' : Value), w3.ownsRow Q.heap.size 5 1 v' (zs.length + 4) (bts zs ++ [Value.int .u8 ((s : Int) % 256), .int .u8 ((s : Int) / 256 % 256), .int .u8 ((s : Int) / 65536 % 256), .int .u8 ((s : Int) / 16777216)]) -> (wr.alloc (.cells #[.int .u8 ((s : Int) % 256), .int .u8 ((s : Int) / 256 % 256), .int .u8 ((s : Int) / 65536 % 256), .int .u8 ((s : Int) / 16777216)] 5)).grownBy w3 (Value.slice A' zs.length c').ownBlock -> ∃ A6 c6, v' = .slice A6 D.length c6 /\ EncAt Q D (.slice A6 D.length c6) w3) := zdX (fun w3 v' ho hg => by
     have q := EA.out.grown (bs := qW (s : Int)) ho hg
     rw [<- HDD.out] at q
     obtain ⟨A6, c6, rfl⟩ := qY q.1
     exact ⟨A6, c6, rfl, q⟩)
    clear CE CB hf ht RE EE BY hs he HS HDD hD EA HN HB HD HL
    by_cases c9 : 1048576 < D.length
    ·have c9' : (1048576 : Int) < (D.length : Int) := by omega
     have RE4 := zdX (RE3.out.trans (if_pos c9))
     clear RE3 dl
     go_wp2_with fail
     refine SM.out.mono ?_; rintro e w9 ⟨rfl, hw9⟩; subst hw9
     clear SM
     go_wp2_with (at_builtin; refine wpList_append_own _ rfl (.tmp 66) (.tmp 78) 27 rfl Q.heap.size 5 i0 (.int .u8 0) 1 1 Tryz.underlying27 hi0 hz0 hz1 hz2 rfl (by decide) _ _ _ rfl HO.out ⟨w9.heap.size, 0, none⟩ 4 4 _ rfl rfl NW.out O1.out H2 H3 H4.out ?_; intro v' w8 hown3 hg3 _; obtain ⟨A6, c6, rfl, E6⟩ := NX.out w8 v' hown3 hg3; have E6 := zdX E6; clear hown3 hg3 NX HO)
     go_ret2
     exact Zy RE4.out (BQ.out.trans (E6.out.2.mono BQ.out.size))
    ·have c9' : ¬ (1048576 : Int) < (D.length : Int) := by omega
     have RE4 := zdX (RE3.out.trans (if_neg c9))
     clear RE3 dl
     go_wp2_with fail
     refine SM.out.mono ?_; rintro e w9 ⟨rfl, hw9⟩; subst hw9
     clear SM
     go_wp2_with (at_builtin; refine wpList_append_own _ rfl (.tmp 66) (.tmp 78) 27 rfl Q.heap.size 5 i0 (.int .u8 0) 1 1 Tryz.underlying27 hi0 hz0 hz1 hz2 rfl (by decide) _ _ _ rfl HO.out ⟨w9.heap.size, 0, none⟩ 4 4 _ rfl rfl NW.out O1.out H2 H3 H4.out ?_; intro v' w8 hown3 hg3 _; obtain ⟨A6, c6, rfl, E6⟩ := NX.out w8 v' hown3 hg3; have E6 := zdX E6; clear hown3 hg3 NX HO)
     go_ret2
     exact encR_yes RE4.out E6.out BQ.out
end
end
section
theorem upto_of {F : List Frm} {time : Int} {lo : Nat} (hl : lo <= F.length) (h1 : ∀ t, (ht : t < F.length) -> t < lo -> (F[t]).at_ <= time) (h2 : ∀ t, (ht : t < F.length) -> lo <= t -> time < (F[t]).at_) : xp F time = lo := by
 have e : F = F.take lo ++ F.drop lo := (List.take_append_drop lo F).symm
 have a : (F.take lo).filter (fun f => decide (f.at_ <= time)) = F.take lo := by
  rw [List.filter_eq_self]
  intro x m
  obtain ⟨j, hj, rfl⟩ := List.mem_iff_getElem.1 m
  rw [List.length_take] at hj
  rw [List.getElem_take]
  exact decide_eq_true (h1 j (by omega) (by omega))
 have b : (F.drop lo).filter (fun f => decide (f.at_ <= time)) = [] := by
  rw [List.filter_eq_nil_iff]
  intro x m
  obtain ⟨j, hj, rfl⟩ := List.mem_iff_getElem.1 m
  rw [List.length_drop] at hj
  rw [List.getElem_drop]
  have := h2 (lo + j) (by omega) (by omega)
  simp; omega
 unfold xp
 have c : F.filter (fun f => decide (f.at_ <= time)) = F.take lo := by
  conv => lhs; rw [e]
  rw [List.filter_append, a, b, List.append_nil]
 rw [c, List.length_take]
 omega
theorem upto_le (F : List Frm) (time : Int) : xp F time <= F.length := List.length_filter_le _ _
theorem xV : ∀ (l : List Frm) (w : Int), zG w l = true -> ∀ i j, (hj : j < l.length) -> (hij : i <= j) -> (l[i]'(Nat.lt_of_le_of_lt hij hj)).at_ <= (l[j]).at_ /\ w <= (l[j]).at_ /\ (l[j]).at_ <= 1099511627776
 | [], _, _, i, j, hj, _ => by simp at hj
 | f :: l, w, ht, i, j, hj, hij => by
  rw [zG, Bool.and_eq_true] at ht
  have t1 := of_decide_eq_true ht.1
  cases j with
  | zero =>
   obtain rfl : i = 0 := by omega
   exact ⟨Int.le_refl _, t1⟩
  | succ j =>
   have r := xV l f.at_ ht.2 j j (by simpa using hj) zdZ
   cases i with
   | zero => exact ⟨r.2.1, Int.le_trans t1.1 r.2.1, r.2.2⟩
   | succ i =>
    have q := xV l f.at_ ht.2 i j (by simpa using hj) (by omega)
    exact ⟨q.1, Int.le_trans t1.1 q.2.1, q.2.2⟩
theorem play_key (w h : Int) (F : List Frm) (a b : Nat) (hab : a <= b) : qP (z6 w h (F.take a)) (((F.drop a).take (b - a)).flatMap (·.bs)) = z6 w h (F.take b) := by
 rw [<- play_app]
 congr 1
 have := List.take_add (l := F) (i := a) (j := b - a)
 rw [show a + (b - a) = b by omega] at this
 exact this.symm
theorem Vi (w h : Int) (F : List Frm) (k : Nat) (hk : k < F.length) : qP (z6 w h (F.take k)) (F[k]).bs = z6 w h (F.take (k + 1)) := by
 have := play_key w h F k (k + 1) (by omega)
 rw [show k + 1 - k = 1 by omega, List.drop_eq_getElem_cons hk, List.take_succ_cons, List.take_zero, List.flatMap_cons, List.flatMap_nil, List.append_nil] at this
 exact this
def newC (w h : Int) (l : List Frm) (every : Int) : Int := if qc w h = false then 5 else if qV l ≠ 0 then qV l else if every < 1 then 2 else 0
theorem vO {l : List Frm} (h : jG l = false) : ∀ f ∈ l, f.bs.length <= 1048576 := fun f m => by
 unfold jG at h
 rw [List.any_eq_false] at h
 have := h f m
 simp at this
 omega
end
section
open Go Go.RowKit Go.Sort
section
def KeepN (T0 : TypeId) (W W' : World) : Prop := ∀ (g : Nat) (cur : Array Value) (T : TypeId) (fl : Nat × Nat), W.heap[g]? = some (.cells cur T fl) -> T ≠ T0 -> W'.heap[g]? = W.heap[g]?
theorem KeepN.trans {T0 : TypeId} {a b c : World} (h : KeepN T0 a b) (k : KeepN T0 b c) : KeepN T0 a c := fun g cur T fl e n => (k g cur T fl ((h g cur T fl e n).trans e) n).trans (h g cur T fl e n)
theorem KeepN.below {T0 : TypeId} {a b : World} (h : Below a.heap.size a b) : KeepN T0 a b := fun g cur T fl e n => h.block g (Array.getElem?_eq_some_iff.1 e).1
theorem xq {T0 : TypeId} {w w3 : World} {LO sz : Nat} {v : Value} {n : Nat} {xs : List Value} (hb : w.ownsRow LO T0 sz v n xs) (hg : w.grownBy w3 v.ownBlock) : KeepN T0 w w3 := fun g cur T fl e ne => by
 refine hg.block g (Array.getElem?_eq_some_iff.1 e).1 (fun z => ?_)
 rcases hb.2 with ⟨rfl, _⟩ | ⟨g', cap, cu, rfl, _, h3, _⟩
 ·simp [Value.ownBlock] at z
 ·simp [Value.ownBlock] at z
  subst z
  rw [e] at h3
  cases h3
  exact ne rfl
theorem vP {T0 : TypeId} {w w' : World} {LO sz : Nat} {v : Value} {n : Nat} {xs : List Value} (h : w.ownsRow LO T0 sz v n xs) (k : ∀ (g : Nat) (cu : Array Value), w.heap[g]? = some (Obj.cells cu T0 (0, 0)) -> w'.heap[g]? = w.heap[g]?) : w'.ownsRow LO T0 sz v n xs := by
 refine ⟨h.1, ?_⟩
 rcases h.2 with hn | ⟨g, cap, cur, rfl, hb, hg, rest⟩
 ·exact .inl hn
 ·exact .inr ⟨g, cap, cur, rfl, hb, (k g cur hg).trans hg, rest⟩
theorem zV {T0 : TypeId} {w w' : World} {LO sz : Nat} {v : Value} {n : Nat} {xs : List Value} (h : w.ownsRow LO T0 sz v n xs) (hb : Below w.heap.size w w') : w'.ownsRow LO T0 sz v n xs := vP h (fun g cu e => hb.block g (Array.getElem?_eq_some_iff.1 e).1)
theorem infoFr : (Tryz.prog.info? 47).map (fun i => (i.zero.map (·.cells), i.size, i.bytes)) = some (some #[.int .i64 0, .slice none 0 0], 2, 32) := by kernel_rfl
theorem infoF : ∃ i z, Tryz.prog.info? 47 = some i /\ i.zero = some z /\ i.size = 2 /\ i.bytes = 32 /\ z.cells.size = 2 := by
 have h := infoFr
 cases e : Tryz.prog.info? 47 with
 | none => rw [e] at h; cases h
 | some i =>
  rw [e] at h
  simp only [Option.map_some, Option.some.injEq, Prod.mk.injEq] at h
  obtain ⟨h1, h2, h3⟩ := h
  cases e2 : i.zero with
  | none => rw [e2] at h1; cases h1
  | some z =>
   rw [e2] at h1
   simp only [Option.map_some, Option.some.injEq] at h1
   exact ⟨i, z, rfl, e2, h2, h3, by rw [h1]; rfl⟩
theorem Jb (L : List FA) : (L.flatMap frV).length = L.length * 2 := by
 induction L with
 | nil => rfl
 | cons x l ih => rw [List.flatMap_cons, List.length_append, ih, List.length_cons]; show 2 + _ = _; omega
theorem xu {w : World} {base n : Nat} {T : TypeId} {v : Value} {xs : List Value} (h : w.ownsRow base T 2 v n xs) : ∃ A c, v = .slice A n c := by
 rcases h.2 with ⟨rfl, rfl⟩ | ⟨g, cap, cur, rfl, _⟩
 ·exact ⟨_, _, rfl⟩
 ·exact ⟨_, _, rfl⟩
structure CopAt (LO : Nat) (W : World) (g N : Nat) (L0 : List FA) (base : Int) (M : List FA) (v : Value) (w : World) : Prop where
 own : w.ownsRow LO 47 2 v (L0 ++ cpF g base 0 M).length ((L0 ++ cpF g base 0 M).flatMap frV)
 row : BRow w g N (zu M)
 bel : Below LO W w
 kp : KeepN 47 W w
 gn : W.heap.size <= g
section
variable {LO : Nat} {W w w' : World} {g N : Nat} {L0 M : List FA} {base : Int} {v : Value}
theorem CopAt.below (h : CopAt LO W g N L0 base M v w) (hb : Below w.heap.size w w') (hLO : LO <= W.heap.size) : CopAt LO W g N L0 base M v w' :=
 ⟨zV h.own hb, h.row.keep (hb.block g h.row.lt), h.bel.trans (hb.mono (Nat.le_trans hLO h.bel.size)), h.kp.trans (KeepN.below hb), h.gn⟩
theorem CopAt.bytes (h : CopAt LO W g N L0 base M v w) (hLO : LO <= W.heap.size) {bs : List Int} (hr : BRow w' g N (zu M ++ bs)) (m : Mv [g] w w') :
  w'.ownsRow LO 47 2 v (L0 ++ cpF g base 0 M).length ((L0 ++ cpF g base 0 M).flatMap frV) /\ Below LO W w' /\ KeepN 47 W w' := by
 have far : ∀ k, k < w.heap.size -> k ≠ g -> w'.heap[k]? = w.heap[k]? := fun k lt ne => m.blk k lt (by simpa using ne)
 refine ⟨vP h.own (fun k cu e => far k (Array.getElem?_eq_some_iff.1 e).1 (fun z => ?_)), ?_, fun k cur T fl e ne => ?_⟩
 ·obtain ⟨_, cu2, e2, _⟩ := h.row
  rw [z, e2] at e
  cases e
 ·exact h.bel.trans ⟨m.os, m.tape, m.output, m.size, fun k lt => far k (by have := h.bel.size; omega) (by have := h.gn; omega)⟩
 ·have lt := (Array.getElem?_eq_some_iff.1 e).1
  exact (far k (Nat.lt_of_lt_of_le lt h.bel.size) (by have := h.gn; omega)).trans (h.kp k cur T fl e ne)
end
theorem Jc {L : List FA} (hb : ∀ x ∈ L, x.b.bs.length <= 1048576) : (zu L).length <= L.length * 1048576 := by
 induction L with
 | nil => simp [zu]
 | cons x l ih =>
  have h1 := hb x (List.mem_cons_self)
  have h2 := ih (fun y m => hb y (List.mem_cons_of_mem _ m))
  unfold zu at h2 ⊢
  rw [List.flatMap_cons, List.length_append, List.length_cons]
  omega
theorem kW {α : Type} (L : List α) (k : Nat) (h : k < L.length) : L.take (k + 1) = L.take k ++ [L[k]] := by
 rw [List.take_add_one, List.getElem?_eq_getElem h]; rfl
theorem Vj (L : List FA) (k : Nat) (h : k < L.length) : zu (L.take (k + 1)) = zu (L.take k) ++ (L[k]).b.bs := by
 rw [kW L k h, vK]; simp [zu]
theorem zct (W : World) (n : Nat) (hn : n <= 100000000000) : ∃ V, (Instr.makeSlice 27 (.int .i64 0) (.int .i64 (n : Int))).run Tryz.prog W = .ok (.slice (some ⟨W.heap.size, 0, none⟩) 0 n) V /\ BRow V W.heap.size n [] /\ Below W.heap.size W V := by
 obtain ⟨i, hi, hz0, hz1, hz2⟩ := info_parts xR
 have r := run_make (P := Tryz.prog) W 27 5 i (.int .u8 0) Tryz.underlying27 hi hz0 .i64 .i64 0 (n : Int) (by omega) (by omega) (by rw [hz2]; omega) (by omega)
 rw [hz1] at r
 simp only [Int.toNat_natCast, Int.toNat_zero] at r
 exact ⟨_, r, BRow.new W n _ (by rw [size_madeCells]; simp [hz1, Value.cells]), (Below.refl _ W).alloc zdZ _⟩
theorem Vk (x : FA) : ([x] : List FA).flatMap frV = frV x := by simp
theorem CopAt.next {LO : Nat} {W w w1 w3 : World} {g N : Nat} {L0 M : List FA} {base : Int} {v v' : Value} {x : FA} (h : CopAt LO W g N L0 base M v w) (hLO : LO <= W.heap.size) (hr : BRow w1 g N (zu M ++ x.b.bs)) (m : Mv [g] w w1) {u : World} (hu : Below w1.heap.size w1 u)
  (hg : u.grownBy w3 v.ownBlock) (ho : w3.ownsRow LO 47 2 v' ((L0 ++ cpF g base 0 M).length + 1) ((L0 ++ cpF g base 0 M).flatMap frV ++ frV ⟨x.at_ + base, ⟨some ⟨g, if x.b.bs.length = 0 then 0 else (zu M).length, none⟩, x.b.bs.length, x.b.bs⟩⟩)) :
  CopAt LO W g N L0 base (M ++ [x]) v' w3 := by
 obtain ⟨a1, a2, a3⟩ := h.bytes hLO hr m
 have b1 := zV a1 hu
 have b2 := a2.trans (hu.mono (Nat.le_trans hLO (Nat.le_trans h.bel.size m.size)))
 have b3 := a3.trans (KeepN.below (T0 := 47) hu)
 have r2 := hr.keep (hu.block g hr.lt)
 have r3 : BRow w3 g N (zu M ++ x.b.bs) := by
  have r4 := r2
  obtain ⟨_, cu, e, _⟩ := r4
  exact r2.keep (xq b1 hg g cu _ _ e (by decide))
 have ce : cpF g base 0 (M ++ [x]) = cpF g base 0 M ++ [⟨x.at_ + base, ⟨some ⟨g, if x.b.bs.length = 0 then 0 else (zu M).length, none⟩, x.b.bs.length, x.b.bs⟩⟩] := by
  rw [Vg, Nat.zero_add]; rfl
 refine ⟨?_, by rw [vK]; simpa [zu] using r3, b2.grown hg (Nat.le_trans hLO b2.size) (fun k hk => (b1.lt k hk).1), b3.trans (xq b1 hg), h.gn⟩
 rw [ce, <- List.append_assoc, List.length_append, List.flatMap_append, Vk]
 exact ho
theorem xd {T0 : TypeId} {w : World} {LO sz : Nat} {v : Value} {n : Nat} {xs : List Value} {A : Option Addr} {m c : Nat} (h : w.ownsRow LO T0 sz v n xs) (e : v = .slice A m c) : v = .slice A n c := by
 rcases h.2 with ⟨rfl, rfl⟩ | ⟨g, cap, cur, rfl, _⟩
 ·cases e; rfl
 ·cases e; rfl
theorem room_of {L : List FA} {j : Nat} (h : j < L.length) : (zu (L.take j)).length + (L[j]).b.bs.length <= (zu L).length := by
 have e := congrArg List.length (Vj L j h)
 rw [List.length_append] at e
 have f := congrArg (fun l => (zu l).length) (List.take_append_drop (j + 1) L)
 simp only [vK, List.length_append] at f
 omega
def CopR (LO : Nat) (W : World) (L0 : List FA) (L : List FA) (base : Int) (e : Ending) (w' : World) : Prop := ∃ v' g, e = .returned v' /\ CopAt LO W g (zu L).length L0 base L v' w'
set_option maxHeartbeats 16000000 in
set_option maxRecDepth 100000 in
theorem Jd (LO : Nat) (v : Value) (L0 : List FA) (A : Option Addr) (c : Nat) (L : List FA) (B : Nat) (base : Int) (W : World) (hv : W.ownsRow LO 47 2 v L0.length (L0.flatMap frV)) (hLO : LO <= W.heap.size) (D : FrsD W B A c L) (hB : B <= LO)
  (hl : L.length <= 16384) (hb : ∀ x ∈ L, x.b.bs.length <= 1048576) (ha : ∀ x ∈ L, 0 <= x.at_ /\ x.at_ <= 1099511627776) (h0 : 0 <= base /\ base <= 1099511627776) (ub : L0.length <= 1000000) :
  Calls Tryz.prog 53 #[v, .slice A L.length c, .int .i64 base] W (CopR LO W L0 L base) := by
 obtain ⟨i0, z0, hi0, hz0, hz1, hz2, hz3⟩ := infoF
 have CE := zdX (D.cells (Nat.le_trans hB hLO))
 have HD := zdX D
 have HL := zdX hl
 have HBB := zdX hb
 obtain ⟨n, hn⟩ : ∃ n, n = L.length := ⟨_, rfl⟩
 have HN := zdX hn
 have n1 : n <= 16384 := by omega
 have FL := zdX (fun k => Jc (L := L.take k) (fun x m => hb x (List.mem_of_mem_take m)))
 have FN := zdX (Jc hb)
 have CF := zdX (fun (wr : World) (h : Below LO W wr) => D.below h hB)
 have HA := zdX ha
 have LOW := zdX hLO
 have hBLO := zdX hB
 rw [<- hn]
 clear D hl hn hb
 go_enter Tryz.func53, Tryz.ntmps53
 go_wp2_with fail
 go_loopw [7, 16] (fun s7 s16 wr => ∃ (k z : Nat), k <= n /\ s7 = .int .i64 (z : Int) /\ s16 = .int .i64 (k : Int) /\ Hid (z = (zu (L.take k)).length) /\ Hid (Below W.heap.size W wr)) (fun _ s16 _ => n - (intOf s16).toNat)
 case atStart => exact ⟨0, 0, Nat.zero_le _, rfl, rfl, zdX rfl, zdX (Below.refl _ _)⟩
 case round =>
  obtain ⟨k, z, hk, rfl, rfl, hz, hw⟩ := hrel
  by_cases lt : k < n
  ·have kl : k < L.length := by rw [<- HN.out]; exact lt
   obtain ⟨ad, rfl, z1, z2⟩ := CE.out k wr kl hw.out
   have FZ := zdX ((congrArg List.length (Vj L k kl)).trans (List.length_append))
   have BD := HBB.out _ (List.getElem_mem kl)
   have zb : z <= k * 1048576 := by rw [hz.out]; exact Nat.le_trans (FL.out k) (Nat.mul_le_mul_right _ (by rw [List.length_take]; omega))
   generalize hbb : (L[k]).b = bb at *
   obtain ⟨xA, xc, bs⟩ := bb
   dsimp only at z2 BD FZ
   generalize (L[k]).at_ = xt at *
   have q0 : (0 : Int) <= (k : Int) := by omega
   have q5 : (k : Int) < (n : Int) := by omega
   have tn : (k : Int).toNat = k := by omega
   have wk := zdY ((k : Int) + 1) (by omega)
   have wz := zdY ((z : Int) + (bs.length : Int)) (by omega)
   have NZ := zdX (show z + bs.length = (zu (L.take (k + 1))).length by rw [FZ.out, hz.out])
   have NW := zdX (fun o => (hw.out.alloc hw.out.size o))
   clear CE hz hw FZ hbb
   go_wp2_with fail
   go_roundw
   case rel => exact ⟨k + 1, z + bs.length, by omega, by go_num, by go_num, NZ, zdX (NW.out _)⟩
   case measure => simp [intOf]; omega
  ·have e : k = n := by omega
   subst e
   have q5 : ¬ (k : Int) < (k : Int) := by omega
   obtain ⟨V, hmk, hrow, hbv⟩ := zct wr z (by have := FN.out; have h2 := HN.out; rw [hz.out, h2, List.take_length]; omega)
   have zN : Hid (z = (zu L).length) := zdX (by rw [hz.out, HN.out, List.take_length])
   have CA := zdX (show CopAt LO W wr.heap.size z L0 base [] v V from by
    have bw := hw.out.trans (hbv.mono hw.out.size)
    exact ⟨by rw [cpF, List.append_nil]; exact zV hv bw, hrow, bw.mono hLO, KeepN.below bw, hw.out.size⟩)
   have gW := zdX hw.out.size
   clear hrow hbv hz hw
   go_wp2_with fail
   generalize wr.heap.size = g at *
   clear hmk
   go_loopw [0, 10, 30] (fun s0 s10 s30 wr => ∃ (j za : Nat), j <= k /\ s10 = .slice (some ⟨g, 0, none⟩) za z /\ s30 = .int .i64 (j : Int) /\ Hid (za = (zu (L.take j)).length) /\ (∃ A' c', s0 = .slice A' (L0 ++ cpF g base 0 (L.take j)).length c') /\ Hid (CopAt LO W g z L0 base (L.take j) s0 wr)) (fun _ _ s30 _ => k - (intOf s30).toNat)
   case atStart =>
    obtain ⟨A', c', e⟩ := xu CA.out.own
    exact ⟨0, 0, Nat.zero_le _, rfl, rfl, zdX rfl, ⟨A', c', xd CA.out.own e⟩, CA⟩
   case round =>
    obtain ⟨j, za, hj, rfl, rfl, hza, ⟨A', c', rfl⟩, he⟩ := hrel
    clear CA
    by_cases lt : j < k
    ·have kl : j < L.length := by rw [<- HN.out]; exact lt
     have FD := CF.out wr he.out.bel
     obtain ⟨ad, rfl, lb, z1, z2⟩ := FD.at j kl
     have BD := zdX (FD.ok _ (List.getElem_mem kl)).b
     have AT := HA.out _ (List.getElem_mem kl)
     have TS := zdX (kW L j kl)
     have RM := zdX (room_of kl)
     generalize hxx : L[j] = x at *
     obtain ⟨xt, xA, xc, bs⟩ := x
     dsimp only at z1 z2 AT
     have BD : Hid (ByteD wr B ⟨xA, xc, bs⟩) := BD
     have q0 : (0 : Int) <= (j : Int) := by omega
     have q5 : (j : Int) < (k : Int) := by omega
     have tn : (j : Int).toNat = j := by omega
     have wk := zdY ((j : Int) + 1) (by omega)
     have wa := zdY (xt + base) (by omega)
     have room : za + bs.length <= z := by have h1 := RM.out; have h2 := hza.out; have h3 := zN.out; dsimp only at h1; omega
     obtain ⟨Q4, hQ4⟩ : ∃ Q4, Q4 = wr.alloc (.cells #[.int .i64 xt, .slice xA bs.length xc] 47) := ⟨_, rfl⟩
     have hb4 : Below wr.heap.size wr Q4 := by rw [hQ4]; exact (Below.refl _ wr).alloc zdZ _
     have K4 : Bk Q4 wr.heap.size [.int .i64 xt, .slice xA bs.length xc] 47 := by rw [hQ4]; exact Bk.new wr _ _
     have b0 := K4.c 0 _ rfl
     have b1 := K4.c 1 _ rfl
     have E4 := he.out.below hb4 LOW.out
     have BB : Below LO wr Q4 := hb4.mono (Nat.le_trans LOW.out he.out.bel.size)
     have BD4 := (BD.out.below BB hBLO.out)
     obtain ⟨X, RC, hrX, mX⟩ := zcq (bs := bs) E4.row xA xc (fun e => by
      have h1 : xc = 0 := BD4.nil e
      have h2 : bs.length <= xc := BD4.cap
      exact List.eq_nil_of_length_eq_zero (by omega)) (BD4.sees.more (Nat.le_trans hBLO.out (Nat.le_trans LOW.out E4.bel.size))) (by rw [<- hza.out]; exact room)
     rw [<- hza.out] at RC
     have HE4 := zdX E4
     have HX := zdX hrX
     have HM := zdX mX
     have KX : Bk X wr.heap.size [.int .i64 xt, .slice xA bs.length xc] 47 := K4.of_eq (mX.blk _ K4.lt (by have := he.out.row.lt; simp; omega))
     have x0 := KX.c 0 _ rfl
     have x1 := KX.c 1 _ rfl
     have HQ4 := zdX hQ4
     have HZA := zdX hza.out
     clear hxx FD hb4 K4 E4 BB BD4 hrX mX KX hQ4 hza he BD lb
     have NX : Hid (∀ (u w3 : World) (v' : Value), Below X.heap.size X u -> w3.ownsRow LO 47 2 v' ((L0 ++ cpF g base 0 (L.take j)).length + 1) ((L0 ++ cpF g base 0 (L.take j)).flatMap frV ++ [.int .i64 (xt + base), .slice (some ⟨g, if bs.length = 0 then 0 else za, none⟩) bs.length bs.length]) -> u.grownBy w3 (Value.slice A' (L0 ++ cpF g base 0 (L.take j)).length c').ownBlock -> ∃ A4 c4 l4, Hid (l4 = (L0 ++ cpF g base 0 (L.take (j + 1))).length) /\ v' = .slice A4 l4 c4 /\ CopAt LO W g z L0 base (L.take (j + 1)) (.slice A4 l4 c4) w3) := zdX (fun u w3 v' hu ho hg => by
      rw [HZA.out] at ho
      have N := HE4.out.next (x := ⟨xt, ⟨xA, xc, bs⟩⟩) LOW.out HX.out HM.out hu hg ho
      rw [<- TS.out] at N
      obtain ⟨A4, c4, e⟩ := xu N.own
      have e4 := xd N.own e
      rw [e4] at N
      exact ⟨A4, c4, _, zdX rfl, e4, N⟩)
     have lenb : (L0 ++ cpF g base 0 (L.take j)).length <= 1100000 := by rw [List.length_append, kV, List.length_take]; omega
     generalize hlen : (L0 ++ cpF g base 0 (L.take j)).length = len at *
     go_upto_region 11 with fail
     rw [<- HQ4.out]
     clear HQ4
     go_upto_region 13 with (at_builtin; refine xG rfl (.tmp 36) (.tmp 38) 27 27 rfl _ _ _ _ rfl rfl RC ?_)
     obtain ⟨m, hm⟩ : ∃ m, m = bs.length := ⟨_, rfl⟩
     rw [<- hm] at x1 RC room NX ⊢
     have HMM := zdX hm
     clear hm z2 b1
     by_cases m0 : m = 0
     ·subst m0
      have zl2 : za <= z := by omega
      rw [Nat.add_zero]
      have XB : Below X.heap.size X X.drew := (Below.refl _ X).drew
      have OX := HE4.out.bytes LOW.out HX.out HM.out
      have OWD := zV OX.1 XB
      rw [hlen] at OWD
      have ow := zdX (zV OWD ((Below.refl _ X.drew).alloc zdZ (.cells #[.int .i64 (xt + base), .slice (some ⟨g, 0, none⟩) 0 0] 47)))
      have H1 : Hid (∀ u ∈ [Value.int .i64 (xt + base), .slice (some ⟨g, 0, none⟩) 0 0], u.oneCell' = true) := zdX (by intro u hu; simp at hu; rcases hu with rfl | rfl <;> rfl)
      have H2 : Hid (len + 1 <= maxLen) := zdX (by unfold maxLen; omega)
      have H3 : Hid ((len + 1) * 32 <= 140737488355328) := zdX (by omega)
      have H4 : Hid (LO <= (X.drew.alloc (.cells #[.int .i64 (xt + base), .slice (some ⟨g, 0, none⟩) 0 0] 47)).heap.size) := zdX (by have := OX.2.1.size; have := LOW.out; have := XB.size; simp; omega)
      have NW := zdX (jd X.drew [.int .i64 (xt + base), .slice (some ⟨g, 0, none⟩) 0 0] 47)
      clear room RC XB OX OWD
      go_region_law (refine Ja _ rfl (.tmp 40) (.tmp 53) 24 rfl LO 47 i0 z0 2 32 Tryz.underlying24 hi0 hz0 hz1 hz2 hz3 (by decide) (.slice A' len c') len _ rfl ow.out ⟨X.drew.heap.size, 0, none⟩ 1 1 [.int .i64 (xt + base), .slice (some ⟨g, 0, none⟩) 0 0] rfl rfl NW.out H1.out H2.out H3.out H4.out ?_; intro v' w3 hown3 hg3 _)
      obtain ⟨A4, c4, l4, hl4, rfl, P4⟩ := NX.out _ _ _ ((Below.refl _ X).drew.alloc zdZ _) (by rw [if_pos rfl]; exact hown3) hg3
      have P4 := zdX P4
      have ZN := zdX (show za = (zu (L.take (j + 1))).length by rw [TS.out, vK, List.length_append, <- HZA.out]; have q1 := HMM.out; have e : zu [(⟨xt, ⟨xA, xc, bs⟩⟩ : FA)] = bs := (by simp [zu]); rw [e]; omega)
      clear hown3 hg3 NX ow NW HE4 HX HM
      go_simp
      go_wp2_with fail
      go_roundw
      case rel => exact ⟨j + 1, za, by omega, rfl, by go_num, ZN, ⟨A4, c4, by rw [hl4.out]⟩, P4⟩
      case measure => simp [intOf]; omega
     ·obtain ⟨zb, hzb⟩ : ∃ zb, zb = za + m := ⟨_, rfl⟩
      have e1 : zb - za = m := by omega
      have e2 : ¬ zb = za := by omega
      have zl : za <= zb := by omega
      have zl2 : zb <= z := by omega
      rw [<- hzb]
      have XB : Below X.heap.size X X.drew := (Below.refl _ X).drew
      have OX := HE4.out.bytes LOW.out HX.out HM.out
      have OWD := zV OX.1 XB
      rw [hlen] at OWD
      have ow := zdX (zV OWD ((Below.refl _ X.drew).alloc zdZ (.cells #[.int .i64 (xt + base), .slice (some ⟨g, za, none⟩) m m] 47)))
      have H1 : Hid (∀ u ∈ [Value.int .i64 (xt + base), .slice (some ⟨g, za, none⟩) m m], u.oneCell' = true) := zdX (by intro u hu; simp at hu; rcases hu with rfl | rfl <;> rfl)
      have H2 : Hid (len + 1 <= maxLen) := zdX (by unfold maxLen; omega)
      have H3 : Hid ((len + 1) * 32 <= 140737488355328) := zdX (by omega)
      have H4 : Hid (LO <= (X.drew.alloc (.cells #[.int .i64 (xt + base), .slice (some ⟨g, za, none⟩) m m] 47)).heap.size) := zdX (by have := OX.2.1.size; have := LOW.out; have := XB.size; simp; omega)
      have NW := zdX (jd X.drew [.int .i64 (xt + base), .slice (some ⟨g, za, none⟩) m m] 47)
      have HZB := zdX hzb
      clear hzb room RC XB OX OWD
      go_region_law (refine Ja _ rfl (.tmp 40) (.tmp 53) 24 rfl LO 47 i0 z0 2 32 Tryz.underlying24 hi0 hz0 hz1 hz2 hz3 (by decide) (.slice A' len c') len _ rfl ow.out ⟨X.drew.heap.size, 0, none⟩ 1 1 [.int .i64 (xt + base), .slice (some ⟨g, za, none⟩) m m] rfl rfl NW.out H1.out H2.out H3.out H4.out ?_; intro v' w3 hown3 hg3 _)
      obtain ⟨A4, c4, l4, hl4, rfl, P4⟩ := NX.out _ _ _ ((Below.refl _ X).drew.alloc zdZ _) (by rw [if_neg m0]; exact hown3) hg3
      have P4 := zdX P4
      have ZN := zdX (show zb = (zu (L.take (j + 1))).length by rw [TS.out, vK, List.length_append, <- HZA.out]; have q1 := HMM.out; have q2 := HZB.out; simp [zu]; omega)
      clear hown3 hg3 NX ow NW HE4 HX HM
      go_simp
      go_wp2_with fail
      go_roundw
      case rel => exact ⟨j + 1, zb, by omega, rfl, by go_num, ZN, ⟨A4, c4, by rw [hl4.out]⟩, P4⟩
      case measure => simp [intOf]; omega
    ·have e : j = k := by omega
     subst e
     have q5 : ¬ (j : Int) < (j : Int) := by omega
     have FIN : Hid (CopR LO W L0 L base (.returned (.slice A' (L0 ++ cpF g base 0 (L.take j)).length c')) wr) := zdX (by
      have z1 := he.out
      rw [HN.out, List.take_length] at z1 ⊢
      exact ⟨_, g, rfl, by rw [<- zN.out]; exact z1⟩)
     generalize (L0 ++ cpF g base 0 (L.take j)).length = ll at *
     clear he
     go_wp2_with fail
     go_ret
     exact FIN.out
end
end
section
open Go Go.RowKit Go.Sort
section
structure RM where
 at_ : Int
 g : Nat
 c : Nat
 bs : List Int
 ex : List Int
def RM.fa (x : RM) : FA := ⟨x.at_, ⟨some ⟨x.g, 0, none⟩, x.c, x.bs⟩⟩
def rmV (M : List RM) : List Value := M.flatMap fun x => frV x.fa
def OneR (w : World) (LO : Nat) (x : RM) : Prop := w.ownsRow LO 5 1 (.slice (some ⟨x.g, 0, none⟩) (x.bs ++ x.ex).length x.c) (x.bs ++ x.ex).length (bts (x.bs ++ x.ex))
theorem xW {w : World} {LO sz g n c : Nat} {T : TypeId} {xs : List Value} (h : w.ownsRow LO T sz (.slice (some ⟨g, 0, none⟩) n c) n xs) : LO <= g /\ g < w.heap.size /\ n <= c /\ ∃ cur, w.heap[g]? = some (.cells cur T (0, 0)) := by
 rcases h.2 with ⟨z, _⟩ | ⟨g', cap, cur, z, hb, hg, hn, _⟩
 ·cases z
 ·injection z with z1 z2 z3
  injection z1 with z1
  injection z1 with z1
  subst z1
  exact ⟨hb, (Array.getElem?_eq_some_iff.1 hg).1, by rw [z3]; exact hn, cur, hg⟩
theorem kX {w w' : World} {LO sz g n c : Nat} {T : TypeId} {xs : List Value} (h : w.ownsRow LO T sz (.slice (some ⟨g, 0, none⟩) n c) n xs) (e : w'.heap[g]? = w.heap[g]?) : w'.ownsRow LO T sz (.slice (some ⟨g, 0, none⟩) n c) n xs := by
 refine ⟨h.1, ?_⟩
 rcases h.2 with ⟨z, _⟩ | ⟨g', cap, cur, z, hb, hg, rest⟩
 ·cases z
 ·have z' := z
  injection z with z1 z2 z3
  injection z1 with z1
  injection z1 with z1
  subst z1
  exact Or.inr ⟨g, cap, cur, z', hb, e.trans hg, rest⟩
theorem OneR.keep {w w' : World} {LO : Nat} {x : RM} (h : OneR w LO x) (e : w'.heap[x.g]? = w.heap[x.g]?) : OneR w' LO x := kX h e
def z77 (k : Nat) : List Value := (List.replicate k [Value.int .i64 (-77), Value.slice none 0 0]).flatten
theorem z77_len (k : Nat) : (z77 k).length = k * 2 := by unfold z77; simp
theorem z77_succ (k : Nat) : z77 (k + 1) = z77 k ++ [.int .i64 (-77), .slice none 0 0] := by
 unfold z77
 rw [List.replicate_succ', List.flatten_append, List.flatten_singleton]
theorem xv (M : List RM) : (rmV M).length = M.length * 2 := by
 induction M with
 | nil => rfl
 | cons x l ih => unfold rmV at *; rw [List.flatMap_cons, List.length_append, ih, List.length_cons]; show 2 + _ = _; omega
theorem kt (A B : List RM) : rmV (A ++ B) = rmV A ++ rmV B := by unfold rmV; rw [List.flatMap_append]
theorem kY (x : RM) (B : List RM) : rmV (x :: B) = [.int .i64 x.at_, .slice (some ⟨x.g, 0, none⟩) x.bs.length x.c] ++ rmV B := rfl
def rmF (M : List RM) : List Frm := M.map fun x => ⟨x.at_, x.bs⟩
structure RmS (LO : Nat) (w : World) (v : Value) (M : List RM) (k : Nat) : Prop where
 own : w.ownsRow LO 47 2 v (M.length + k) (rmV M ++ z77 k)
 one : ∀ x ∈ M, OneR w LO x
 rng : ∀ x ∈ M, Byt (x.bs ++ x.ex) /\ -9223372036854775808 <= x.at_ /\ x.at_ <= 9223372036854775807
 dis : (M.map (·.g)).Nodup
section
variable {LO : Nat} {w w' : World} {v : Value} {M : List RM} {k : Nat}
theorem RmS.nil (LO : Nat) (w : World) : RmS LO w (.slice none 0 0) [] 0 := ⟨⟨rfl, Or.inl ⟨rfl, rfl⟩⟩, fun x m => (by cases m), fun x m => (by cases m), List.nodup_nil⟩
theorem OneR.lt {x : RM} (h : OneR w LO x) : LO <= x.g /\ x.g < w.heap.size /\ (x.bs ++ x.ex).length <= x.c /\ ∃ cur, w.heap[x.g]? = some (.cells cur 5 (0, 0)) := xW h
theorem RmS.below (h : RmS LO w v M k) (hb : Below w.heap.size w w') : RmS LO w' v M k := ⟨zV h.own hb, fun x m => (h.one x m).keep (hb.block _ (h.one x m).lt.2.1), h.rng, h.dis⟩
theorem RmS.slc (h : RmS LO w v M k) : ∃ A c, v = .slice A (M.length + k) c := xu h.own
theorem RmS.row (h : RmS LO w v M k) (pos : 0 < M.length) : ∃ r c, v = .slice (some ⟨r, 0, none⟩) (M.length + k) c /\ LO <= r /\ r < w.heap.size /\ (∀ x ∈ M, x.g ≠ r) /\ w.frozen? ⟨r, 0, none⟩ = false /\ M.length + k <= c := by
 rcases h.own.2 with ⟨_, z⟩ | ⟨r, c, cur, e, hb, hg, hn, _⟩
 ·omega
 ·refine ⟨r, c, e, hb, (Array.getElem?_eq_some_iff.1 hg).1, fun x m z => ?_, by simp [World.frozen?, hg], hn⟩
  obtain ⟨_, _, _, cu, e2⟩ := (h.one x m).lt
  rw [z, hg] at e2
  cases e2
theorem RmS.push {w1 w2 : World} {x : RM} {v' : Value} (h : RmS LO w v M 0) (hb : Below w.heap.size w w1) (o : OneR w1 w.heap.size x) (hLO : LO <= w.heap.size) (ho : w2.ownsRow LO 47 2 v' (M.length + 1) (rmV M ++ [.int .i64 x.at_, .slice (some ⟨x.g, 0, none⟩) x.bs.length x.c])) (hg : w1.grownBy w2 v.ownBlock)
  (r : Byt (x.bs ++ x.ex) /\ -9223372036854775808 <= x.at_ /\ x.at_ <= 9223372036854775807) : RmS LO w2 v' (M ++ [x]) 0 := by
 have k1 := xq (zV h.own hb) hg
 have kk : ∀ y : RM, ∀ L, OneR w1 L y -> OneR w2 L y := fun y L oy => oy.keep (by
  obtain ⟨_, _, _, cur, e⟩ := xW oy
  exact k1 _ _ _ _ e (by decide))
 refine ⟨?_, fun y m => ?_, fun y m => ?_, ?_⟩
 ·have e : rmV (M ++ [x]) ++ z77 0 = rmV M ++ [.int .i64 x.at_, .slice (some ⟨x.g, 0, none⟩) x.bs.length x.c] := by rw [kt, kY]; simp [z77, rmV]
  rw [e, List.length_append, List.length_singleton, Nat.add_zero]
  exact ho
 ·rcases List.mem_append.1 m with m | m
  ·exact kk y LO ((h.one y m).keep (hb.block _ (h.one y m).lt.2.1))
  ·rw [List.mem_singleton.1 m]; exact kk x LO (qR o hLO)
 ·rcases List.mem_append.1 m with m | m
  ·exact h.rng y m
  ·rw [List.mem_singleton.1 m]; exact r
 ·rw [List.map_append, List.nodup_append]
  refine ⟨h.dis, by simp, fun a ha b hb e => ?_⟩
  simp only [List.map_cons, List.map_nil, List.mem_singleton] at hb
  obtain ⟨y, my, rfl⟩ := List.mem_map.1 ha
  have l1 := (h.one y my).lt.2.1
  have l2 := o.lt.1
  rw [e, hb] at l1
  omega
theorem RmS.more {w1 w2 : World} {v' : Value} (h : RmS LO w v M k) (hb : Below w.heap.size w w1) (ho : w2.ownsRow LO 47 2 v' (M.length + k + 1) ((rmV M ++ z77 k) ++ [.int .i64 (-77), .slice none 0 0])) (hg : w1.grownBy w2 v.ownBlock) : RmS LO w2 v' M (k + 1) := by
 have k1 := xq (zV h.own hb) hg
 refine ⟨?_, fun y m => ?_, h.rng, h.dis⟩
 ·rw [z77_succ, <- List.append_assoc]
  exact ho
 ·have oy := (h.one y m).keep (hb.block _ (h.one y m).lt.2.1)
  obtain ⟨_, _, _, cur, e⟩ := xW oy
  exact oy.keep (k1 _ _ _ _ e (by decide))
end
theorem RmS.put {LO : Nat} {w w1 : World} {A B : List RM} {x y : RM} {r c n : Nat} (h : RmS LO w (.slice (some ⟨r, 0, none⟩) n c) (A ++ x :: B) 0) (hr : w1.heap[r]? = w.heap[r]?) (far : ∀ g, g < w.heap.size -> g ≠ x.g -> w1.heap[g]? = w.heap[g]?) (o : OneR w1 LO y) (ty : y.at_ = x.at_) (gy : y.g = x.g \/ w.heap.size <= y.g) (rg : Byt (y.bs ++ y.ex)) :
  RmS LO (w1.setCell ⟨r, A.length * 2 + 1, none⟩ (.slice (some ⟨y.g, 0, none⟩) y.bs.length y.c)) (.slice (some ⟨r, 0, none⟩) n c) (A ++ y :: B) 0 := by
 obtain ⟨r', c', e, rl, rs, rne, _⟩ := h.row (by rw [List.length_append, List.length_cons]; omega)
 injection e with e1 e2 e3
 injection e1 with e1
 injection e1 with e1
 subst e1
 have mx : x ∈ A ++ x :: B := List.mem_append.2 (Or.inr List.mem_cons_self)
 have lx := (h.one x mx).lt
 have yr : y.g ≠ r := by
  rcases gy with z | z
  ·rw [z]; exact rne x mx
  ·omega
 have nd := h.dis
 rw [List.map_append, List.map_cons, List.nodup_append, List.nodup_cons] at nd
 have other : ∀ z ∈ A ++ B, z.g ≠ x.g /\ z ∈ A ++ x :: B := fun z m => by
  rcases List.mem_append.1 m with m | m
  ·exact ⟨nd.2.2 z.g (List.mem_map_of_mem m) x.g List.mem_cons_self, List.mem_append.2 (Or.inl m)⟩
  ·exact ⟨fun q => nd.2.1.1 (by rw [<- q]; exact List.mem_map_of_mem m), List.mem_append.2 (Or.inr (List.mem_cons_of_mem _ m))⟩
 have yo : ∀ z ∈ A ++ B, z.g ≠ y.g := fun z m q => by
  obtain ⟨q1, q2⟩ := other z m
  have := (h.one z q2).lt.2.1
  rcases gy with g | g
  ·exact q1 (q.trans g)
  ·omega
 have kp : ∀ z : RM, z.g ≠ r -> OneR w1 LO z -> OneR (w1.setCell ⟨r, A.length * 2 + 1, none⟩ (.slice (some ⟨y.g, 0, none⟩) y.bs.length y.c)) LO z := fun z q oz => oz.keep (heap_setCell_other _ _ _ _ q)
 refine ⟨?_, fun z m => ?_, fun z m => ?_, ?_⟩
 ·have o0 := h.own
  rw [e2] at o0
  have o1 := (kX o0 hr).stored (A.length * 2 + 1) (.slice (some ⟨y.g, 0, none⟩) y.bs.length y.c)
  have el : (A ++ y :: B).length = (A ++ x :: B).length := by rw [List.length_append, List.length_append, List.length_cons, List.length_cons]
  have ex : (rmV (A ++ x :: B) ++ z77 0).set (A.length * 2 + 1) (.slice (some ⟨y.g, 0, none⟩) y.bs.length y.c) = rmV (A ++ y :: B) ++ z77 0 := by
   rw [kt, kt, kY, kY]
   simp only [List.append_assoc]
   rw [List.set_append_right _ _ (by rw [xv]; omega), xv, show A.length * 2 + 1 - A.length * 2 = 1 by omega, ty]
   rfl
  rw [el, <- ex, e2]
  exact o1.1
 ·have cs : z = y \/ z ∈ A ++ B := by
   rcases List.mem_append.1 m with m | m
   ·exact Or.inr (List.mem_append.2 (Or.inl m))
   ·rcases List.mem_cons.1 m with m | m
    ·exact Or.inl m
    ·exact Or.inr (List.mem_append.2 (Or.inr m))
  rcases cs with rfl | m
  ·exact kp z yr o
  ·obtain ⟨q1, q2⟩ := other z m
   exact kp z (rne z q2) ((h.one z q2).keep (far z.g (h.one z q2).lt.2.1 q1))
 ·rcases List.mem_append.1 m with m | m
  ·exact h.rng z (List.mem_append.2 (Or.inl m))
  ·rcases List.mem_cons.1 m with rfl | m
   ·exact ⟨rg, by rw [ty]; exact (h.rng x mx).2⟩
   ·exact h.rng z (List.mem_append.2 (Or.inr (List.mem_cons_of_mem _ m)))
 ·rw [List.map_append, List.map_cons, List.nodup_append, List.nodup_cons]
  refine ⟨nd.1, ⟨fun q => ?_, nd.2.1.2⟩, fun a ha b hb q => ?_⟩
  ·obtain ⟨z, mz, ez⟩ := List.mem_map.1 q
   exact yo z (List.mem_append.2 (Or.inr mz)) ez
  ·rcases List.mem_cons.1 hb with hb | hb
   ·obtain ⟨z, mz, rfl⟩ := List.mem_map.1 ha
    exact yo z (List.mem_append.2 (Or.inl mz)) (q.trans hb)
   ·exact nd.2.2 a ha b (List.mem_cons_of_mem _ hb) q
structure RoomD (w : World) (B : Nat) (A : Option Addr) (c : Nat) (M : List RM) : Prop where
 frs : FrsD w B A c (M.map RM.fa)
 cap : M.length + 9 <= c
 row : Sees w B A (rmV M ++ z77 9)
 mks : ∀ x ∈ M, x.bs.length + 9 <= x.c /\ Sees w B (some ⟨x.g, 0, none⟩) (bts (x.bs ++ List.replicate 9 165))
theorem RoomD.below {w w' : World} {B n : Nat} {A : Option Addr} {c : Nat} {M : List RM} (h : RoomD w B A c M) (hb : Below n w w') (hB : B <= n) : RoomD w' B A c M := ⟨h.frs.below hb hB, h.cap, h.row.below hb hB, fun x m => ⟨(h.mks x m).1, (h.mks x m).2.below hb hB⟩⟩
theorem ku {w : World} {LO sz n c : Nat} {T : TypeId} {A : Option Addr} {xs : List Value} (h : w.ownsRow LO T sz (.slice A n c) n xs) : Sees w w.heap.size A xs := fun hne => by
 rcases h.2 with ⟨z, n0⟩ | ⟨g, cap, cur, z, hb, hg, hn, _, hs, ht⟩
 ·exact absurd (List.eq_nil_of_length_eq_zero (by rw [h.1, n0, Nat.zero_mul])) hne
 ·injection z with z1 z2 z3
  subst z1
  exact ⟨_, rfl, (Array.getElem?_eq_some_iff.1 hg).1, fun j u hj => h.cells (g := g) rfl j u hj⟩
theorem fa_flat (M : List RM) : (M.map RM.fa).flatMap frV = rmV M := by unfold rmV; rw [List.flatMap_map]
theorem RmS.frs {LO : Nat} {w : World} {A : Option Addr} {n c k : Nat} {M : List RM} (h : RmS LO w (.slice A n c) M k) (hl : M.length <= 1000000000) (hb : ∀ x ∈ M, x.bs.length <= 140737488355328) : FrsD w w.heap.size A c (M.map RM.fa) := by
 have o := h.own
 obtain ⟨A', c', e⟩ := h.slc
 injection e with e1 e2 e3
 rw [e2] at o
 have S := ku o
 refine ⟨fun z => ?_, ?_, by rw [List.length_map]; omega, fun ne => ?_, fun x m => ?_⟩
 ·rcases o.2 with ⟨q, _⟩ | ⟨g, cap, cur, q, _⟩
  ·injection q with q1 q2 q3
  ·injection q with q1 q2 q3; rw [z] at q1; cases q1
 ·rw [List.length_map]
  rcases o.2 with ⟨q, y⟩ | ⟨g, cap, cur, q, _, _, y, _⟩
  ·omega
  ·injection q with q1 q2 q3; omega
 ·rw [fa_flat] at ne ⊢
  obtain ⟨ad, a1, a2, a3⟩ := S (by intro z; exact ne (List.append_eq_nil_iff.1 z).1)
  exact ⟨ad, a1, a2, fun j u hj => a3 j u (by rw [List.getElem?_append_left (List.getElem?_eq_some_iff.1 hj).1]; exact hj)⟩
 ·obtain ⟨y, my, rfl⟩ := List.mem_map.1 m
  have oy := h.one y my
  have ly := oy.lt
  have ry := h.rng y my
  refine ⟨⟨(fun z => by cases z), (by show y.bs.length <= y.c; have := ly.2.2.1; rw [List.length_append] at this; omega), hb y my, fun ne => ?_, fun b mb => ry.1 b (List.mem_append.2 (Or.inl mb))⟩, ry.2⟩
  obtain ⟨ad, a1, a2, a3⟩ := ku oy (by
   intro z
   unfold bts at z
   rw [List.map_eq_nil_iff] at z
   exact ne (by show y.bs.map (Value.int .u8) = []; rw [(List.append_eq_nil_iff.1 z).1]; rfl))
  refine ⟨ad, a1, a2, fun j u hj => a3 j u ?_⟩
  have hj : (bts y.bs)[j]? = some u := hj
  rw [kT, List.getElem?_append_left (List.getElem?_eq_some_iff.1 hj).1]
  exact hj
theorem RmS.room {LO : Nat} {w : World} {A : Option Addr} {n c : Nat} {M : List RM} (h : RmS LO w (.slice A n c) M 9) (hl : M.length <= 1000000000) (hb : ∀ x ∈ M, x.bs.length <= 140737488355328) (mk : ∀ x ∈ M, x.ex = List.replicate 9 165) : RoomD w w.heap.size A c M := by
 obtain ⟨A', c', e⟩ := h.slc
 injection e with e1 e2 e3
 have o := h.own
 rw [e2] at o
 have cap : M.length + 9 <= c := by
  rcases o.2 with ⟨q, y⟩ | ⟨g, cap, cur, q, _, _, y, _⟩
  ·omega
  ·injection q with q1 q2 q3; omega
 refine ⟨h.frs hl hb, cap, ku o, fun x m => ?_⟩
 have ox := h.one x m
 have lx := ox.lt
 rw [mk x m] at lx
 have S := ku ox
 rw [mk x m] at S
 refine ⟨?_, S⟩
 have := lx.2.2.1
 rw [List.length_append, List.length_replicate] at this
 omega
end
end
section
open Go Go.RowKit Go.Sort
section
theorem Vl {P : Program} {w : World} {ops : Array Oper} {o : Oper} {a : Act} {K : Act -> World -> Prop} {Q : Exit -> Act -> World -> Prop} {E : Prop} (hgd : o.guard = none) (s x : Operand) (t u : TypeId)
  (ho : o.op = .call { callee := .builtin .append, args := #[s, x], argTypes := #[t, u] }) (vs vx v' : Value) (w' : World) (hs : a.eval s = vs) (hx : a.eval x = vx)
  (hrun : (Builtin.append_ #[t, u] o.type #[vs, vx]).run P w = .ok v' w') (h : K (a.put o.dst v') w') : if Region.wanted o (yielded ops a.tmps) = true then Oper.wp P o a w K Q else E := by
 have hw : Region.wanted o (yielded ops a.tmps) = true := by simp [Region.wanted, hgd]
 rw [if_pos hw]
 unfold Oper.wp
 simp [execOp, ho, resolve, invoke, builtin, hs, hx, hrun, Result.andThen]
 exact h
theorem vQ {w : World} {LO sz n : Nat} {T : TypeId} {v : Value} {xs : List Value} (h : w.ownsRow LO T sz v n xs) (ne : v ≠ .slice none 0 0) : ∃ g c, v = .slice (some ⟨g, 0, none⟩) n c := by
 rcases h.2 with ⟨z, _⟩ | ⟨g, c, cur, z, _⟩
 ·exact absurd z ne
 ·exact ⟨g, c, z⟩
theorem zcu (W : World) : (W.alloc (.cells #[] 5)).ownsRow W.heap.size 5 1 (.slice (some ⟨W.heap.size, 0, none⟩) 0 0) 0 [] :=
 ⟨rfl, Or.inr ⟨W.heap.size, 0, #[], rfl, zdZ, World.alloc_heap_new W _, zdZ, by decide, rfl, rfl⟩⟩
theorem Vm {w : World} {LO : Nat} {x : RM} (h : OneR w LO x) (hx : x.ex = []) (b : Int) (hLO : LO <= w.heap.size) (len : x.bs.length <= 1000000000) :
  ∃ g' c' w3, (Builtin.append_ #[27, 27] 27 #[.slice (some ⟨x.g, 0, none⟩) x.bs.length x.c, .slice (some ⟨w.heap.size, 0, none⟩) 1 1]).run Tryz.prog (w.alloc (.cells #[.int .u8 b] 5)) = .ok (.slice (some ⟨g', 0, none⟩) (x.bs.length + 1) c') w3 /\
   OneR w3 LO ⟨x.at_, g', c', x.bs ++ [b], []⟩ /\ (w.alloc (.cells #[.int .u8 b] 5)).grownBy w3 (some x.g) /\ (g' = x.g \/ w.heap.size <= g') := by
 obtain ⟨i0, hi0, hz0, hz1, hz2⟩ := info_parts xR
 have bu : Below w.heap.size w (w.alloc (.cells #[.int .u8 b] 5)) := (Below.refl _ w).alloc zdZ _
 have o := h.keep (bu.block _ h.lt.2.1)
 unfold OneR at o
 rw [hx, List.append_nil] at o
 obtain ⟨v', w3, r1, r2, r3, r4, r5⟩ := run_append_own_at (P := Tryz.prog) (w.alloc (.cells #[.int .u8 b] 5)) LO 27 27 5 i0 (.int .u8 0) 1 1 Tryz.underlying27 hi0 hz0 hz1 hz2 rfl (by decide) _ _ _ o ⟨w.heap.size, 0, none⟩ 1 1 [.int .u8 b] rfl (news1 w _ _) (by intro u hu; rw [List.mem_singleton.1 hu]; rfl) (by unfold maxLen; omega) (by omega) (Nat.le_trans hLO bu.size)
 obtain ⟨g', c', e⟩ := vQ r2 (fun z => by have := (r4.1 z).1; cases this)
 subst e
 refine ⟨g', c', w3, r1, ?_, r3, ?_⟩
 ·unfold OneR
  simp only [List.append_nil]
  rw [kT, List.length_append, List.length_singleton]
  exact r2
 ·rcases r5 with z | z
  ·simp [Value.ownBlock] at z; exact Or.inl z
  ·simp [Value.ownBlock] at z; exact Or.inr (by omega)
theorem app_src {w : World} {B : Nat} {x : BA} (D : ByteD w B x) (hB : B <= w.heap.size) (t : Int) :
  ∃ g' c' w3, (Builtin.append_ #[27, 27] 27 #[.slice (some ⟨w.heap.size, 0, none⟩) 0 0, .slice x.A x.bs.length x.c]).run Tryz.prog (w.alloc (.cells #[] 5)) = .ok (.slice (some ⟨g', 0, none⟩) x.bs.length c') w3 /\
   OneR w3 w.heap.size ⟨t, g', c', x.bs, []⟩ /\ Below w.heap.size w w3 := by
 obtain ⟨i0, hi0, hz0, hz1, hz2⟩ := info_parts xR
 have bu : Below w.heap.size w (w.alloc (.cells #[] 5)) := (Below.refl _ w).alloc zdZ _
 have oe := zcu w
 have D1 := D.below bu hB
 obtain ⟨A, c, bs⟩ := x
 cases A with
 | none =>
  have c0 : c = 0 := D.nil rfl
  have l0 : bs.length <= c := D.cap
  obtain rfl := List.eq_nil_of_length_eq_zero (show bs.length = 0 by omega)
  refine ⟨w.heap.size, 0, _, ?_, oe, bu⟩
  simp [Builtin.append_, run_underlying Tryz.underlying27, sizeOf, typeInfo, hi0, hz1, Builtin.lenOf, Builtin.firstCells, storeCells, Result.andThen]
 | some ad =>
  have hn : ∀ j u, (bts bs)[j]? = some u -> (w.alloc (.cells #[] 5)).cell? (ad.add j) = some u := fun j u hj => by
   obtain ⟨a', e, _, k⟩ := D1.sees (fun z => by have z : bts bs = [] := z; rw [z] at hj; simp at hj)
   cases e
   exact k j u hj
  have sz : bs.length <= 140737488355328 := D.sz
  obtain ⟨v', w3, r1, r2, r3, r4, r5⟩ := run_append_own_at (P := Tryz.prog) (w.alloc (.cells #[] 5)) w.heap.size 27 27 5 i0 (.int .u8 0) 1 1 Tryz.underlying27 hi0 hz0 hz1 hz2 rfl (by decide) _ 0 [] oe ad bs.length c (bts bs) (by rw [xU, Nat.mul_one]) hn (QK bs) (by unfold maxLen; omega) (by omega) bu.size
  obtain ⟨g', c', e⟩ := vQ r2 (fun z => by have := (r4.1 z).1; cases this)
  subst e
  rw [Nat.zero_add] at r1 r2
  refine ⟨g', c', w3, r1, ?_, bu.grown r3 bu.size (fun k hk => by simp [Value.ownBlock] at hk; omega)⟩
  unfold OneR
  simp only [List.append_nil]
  exact r2
theorem app_fr {w : World} {LO n c : Nat} {A : Option Addr} {xs : List Value} (o : w.ownsRow LO 47 2 (.slice A n c) n xs) (a b : Value) (ha : a.oneCell' = true) (hb : b.oneCell' = true) (hLO : LO <= w.heap.size) (len : n <= 1000000000) :
  ∃ A' c' w3, (Builtin.append_ #[24, 24] 24 #[.slice A n c, .slice (some ⟨w.heap.size, 0, none⟩) 1 1]).run Tryz.prog (w.alloc (.cells #[a, b] 47)) = .ok (.slice A' (n + 1) c') w3 /\
   w3.ownsRow LO 47 2 (.slice A' (n + 1) c') (n + 1) (xs ++ [a, b]) /\ (w.alloc (.cells #[a, b] 47)).grownBy w3 (Value.slice A n c).ownBlock := by
 obtain ⟨i0, z0, hi0, hz0, hz1, hz2, hz3⟩ := infoF
 have bu : Below w.heap.size w (w.alloc (.cells #[a, b] 47)) := (Below.refl _ w).alloc zdZ _
 obtain ⟨v', w3, r1, r2, r3, r4⟩ := run_append_own (P := Tryz.prog) (w.alloc (.cells #[a, b] 47)) LO 24 24 47 i0 z0 2 32 Tryz.underlying24 hi0 hz0 hz1 hz2 hz3 (by decide) _ n xs (zV o bu) ⟨w.heap.size, 0, none⟩ 1 1 [a, b] rfl (jd w [a, b] 47) (by intro u hu; simp at hu; rcases hu with rfl | rfl <;> assumption) (by unfold maxLen; omega) (by omega) (Nat.le_trans hLO bu.size)
 obtain ⟨A', c', e⟩ := xu r2
 subst e
 exact ⟨A', c', w3, r1, r2, r3⟩
def CopyR (W : World) (l : List Frm) (e : Ending) (w' : World) : Prop := ∃ v M, e = .returned v /\ RmS W.heap.size w' v M 0 /\ rmF M = l /\ (∀ x ∈ M, x.ex = []) /\ Below W.heap.size W w'
theorem Je (M : List RM) : (rmF M).length = M.length := by unfold rmF; rw [List.length_map]
set_option maxHeartbeats 16000000 in
set_option maxRecDepth 100000 in
theorem Vn (A : Option Addr) (c : Nat) (L : List FA) (B : Nat) (W : World) (D : FrsD W B A c L) (hB : B <= W.heap.size) (hl : L.length <= 134217728) :
  Calls Tryz.prog 37 #[.slice A L.length c] W (CopyR W (frms L)) := by
 have HD := zdX D
 have HBB := zdX hB
 obtain ⟨n, hn⟩ : ∃ n, n = L.length := ⟨_, rfl⟩
 have HN := zdX hn
 rw [<- hn] at hl ⊢
 clear D hB hn
 go_enter Tryz.func37, Tryz.ntmps37
 go_wp2_with fail
 go_loopw [3, 4] (fun s3 s4 wr => ∃ (k : Nat) (A' : Option Addr) (c' : Nat) (M : List RM), k <= n /\ s3 = .slice A' k c' /\ s4 = .int .i64 (k : Int) /\ Hid (M.length = k) /\ Hid (RmS W.heap.size wr (.slice A' k c') M 0) /\ Hid (rmF M = frms (L.take k)) /\ Hid (∀ x ∈ M, x.ex = []) /\ Hid (Below W.heap.size W wr)) (fun _ s4 _ => n - (intOf s4).toNat)
 case atStart => exact ⟨0, none, 0, [], Nat.zero_le _, rfl, rfl, zdX rfl, zdX (RmS.nil _ _), zdX rfl, zdX (fun x m => by cases m), zdX (Below.refl _ _)⟩
 case round =>
  obtain ⟨k, A', c', M, hk, rfl, rfl, hm, hs, hf, hx, hw⟩ := hrel
  by_cases lt : k < n
  ·have kl : k < L.length := by rw [<- HN.out]; exact lt
   have FD := HD.out.below hw.out HBB.out
   obtain ⟨ad, rfl, lb, z1, z2⟩ := FD.at k kl
   have OB := FD.ok _ (List.getElem_mem kl)
   have TK := zdX (kW L k kl)
   have hBw : B <= wr.heap.size := Nat.le_trans HBB.out hw.out.size
   obtain ⟨g', c3, w3, R1, O1, b3⟩ := app_src ((OB.b).below (Below.refl B wr).drew zdZ) (w := wr.drew) hBw (L[k]).at_
   have S3 := hs.out.below ((Below.refl wr.heap.size wr).drew.trans b3)
   have o3 := S3.own
   rw [hm.out, Nat.add_zero, show z77 0 = [] from rfl, List.append_nil] at o3
   have sW : W.heap.size <= w3.heap.size := Nat.le_trans hw.out.size b3.size
   obtain ⟨A4, c4, w4, R2, O2, g4⟩ := app_fr o3 (.int .i64 (L[k]).at_) (.slice (some ⟨g', 0, none⟩) (L[k]).b.bs.length c3) rfl rfl sW (by omega)
   have b4 : Below w3.heap.size w3 (w3.alloc (.cells #[.int .i64 (L[k]).at_, .slice (some ⟨g', 0, none⟩) (L[k]).b.bs.length c3] 47)) := (Below.refl _ w3).alloc zdZ _
   have N4 := hs.out.push (x := ⟨(L[k]).at_, g', c3, (L[k]).b.bs, []⟩) (w1 := w3.alloc (.cells #[.int .i64 (L[k]).at_, .slice (some ⟨g', 0, none⟩) (L[k]).b.bs.length c3] 47)) (w2 := w4) (((Below.refl wr.heap.size wr).drew.trans b3).trans (b4.mono b3.size)) (O1.keep (b4.block _ O1.lt.2.1)) hw.out.size (by rw [hm.out]; exact O2) g4 ⟨by simp only [List.append_nil]; exact OB.b.rng, OB.rng⟩
   have BW4 := (hw.out.trans ((((Below.refl wr.heap.size wr).drew.trans b3).trans (b4.mono b3.size)).mono hw.out.size)).grown g4 (Nat.le_trans sW b4.size) (fun q hq => by
    have := (zV o3 b4).lt q hq
    exact this.1)
   have y1 : ∀ wq, Below W.heap.size W wq -> wq.cell? (ad.add (k * 2)) = some (.int .i64 (L[k]).at_) /\ wq.cell? ⟨(ad.add (k * 2)).block, (ad.add (k * 2)).off + 1, none⟩ = some (.slice (L[k]).b.A (L[k]).b.bs.length (L[k]).b.c) := fun wq hq => by
    obtain ⟨ae, e, _, q1, q2⟩ := (HD.out.below hq HBB.out).at k kl
    cases e
    exact ⟨q1, q2⟩
   have bA := hw.out.trans (((Below.refl wr.heap.size wr).alloc zdZ (.cells #[] 5)).mono hw.out.size)
   have b33 := hw.out.trans (((Below.refl wr.heap.size wr).drew.trans b3).mono hw.out.size)
   obtain ⟨x1, x2⟩ := y1 _ bA
   obtain ⟨x3, x4⟩ := y1 _ b33
   obtain ⟨x5, x6⟩ := y1 _ hw.out
   have R1 : (Builtin.append_ #[27, 27] 27 #[.slice (some ⟨wr.heap.size, 0, none⟩) 0 0, .slice (L[k]).b.A (L[k]).b.bs.length (L[k]).b.c]).run Tryz.prog ((wr.alloc (.cells #[] 5)).drew) = .ok (.slice (some ⟨g', 0, none⟩) (L[k]).b.bs.length c3) w3 := R1
   have FIN := zdX (show ∃ (M2 : List RM), M2.length = k + 1 /\ RmS W.heap.size w4 (.slice A4 (k + 1) c4) M2 0 /\ rmF M2 = frms (L.take (k + 1)) /\ (∀ x ∈ M2, x.ex = []) /\ Below W.heap.size W w4 from ⟨_, by rw [List.length_append, hm.out]; rfl, N4, by
    rw [TK.out]
    unfold rmF frms at *
    rw [List.map_append, List.map_append, hf.out]
    rfl, fun x m => by
    rcases List.mem_append.1 m with m | m
    ·exact hx.out x m
    ·rw [List.mem_singleton.1 m], BW4⟩)
   generalize (L[k]) = x at *
   obtain ⟨xt, xA, xc, bs⟩ := x
   dsimp only at *
   have q0 : (0 : Int) <= (k : Int) := by omega
   have q5 : (k : Int) < (n : Int) := by omega
   have tn : (k : Int).toNat = k := by omega
   have wk := zdY ((k : Int) + 1) (by omega)
   clear FD OB lb TK hBw O1 b3 S3 o3 sW O2 g4 b4 N4 BW4 y1 bA b33 hs hf hx hm hw z1 z2
   go_wp2_with fail
   go_region_law (first
    | (refine Vl rfl (.tmp 17) (.tmp 22) 27 27 rfl _ _ _ _ rfl rfl R1 ?_)
    | (refine Vl rfl (.tmp 11) (.tmp 25) 24 24 rfl _ _ _ _ rfl rfl R2 ?_))
   all_goals (go_simp; go_wp2_with fail)
   all_goals go_roundw
   all_goals first
    | (obtain ⟨M2, f1, f2, f3, f4, f5⟩ := FIN.out; exact ⟨k + 1, A4, c4, M2, by omega, rfl, by go_num, zdX f1, zdX f2, zdX f3, zdX f4, zdX f5⟩)
    | (simp [intOf]; omega)
  ·have e : k = n := by omega
   subst e
   have q5 : ¬ (k : Int) < (k : Int) := by omega
   have FIN : Hid (CopyR W (frms L) (.returned (.slice A' k c')) wr) := zdX ⟨_, M, rfl, hs.out, by rw [hf.out, HN.out, List.take_length], hx.out, hw.out⟩
   clear hs hf hx hw hm
   go_wp2_with fail
   go_ret
   exact FIN.out
end
end
end Go.Proofs.YtmaofighbpnbiaaGreatDoor
