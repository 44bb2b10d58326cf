/- A tape's numbers are written: both sides. -/
import Derived.Test.YtmaofighbpnbiaaGreatDoorYTpU
namespace Go.Proofs.YtmaofighbpnbiaaGreatDoor
open Go Go.RowKit Go.Sort
set_option linter.unusedVariables false
set_option linter.unusedSimpArgs false
section
theorem news1 (w : World) (x : Value) (T : TypeId) : ∀ (j : Nat) (u : Value), [x][j]? = some u → (w.alloc (.cells #[x] T)).cell? ((⟨w.heap.size, 0, none⟩ : Addr).add j) = some u := fun j u h => cells_new w [x] T j u h
def KeepU (W W' : World) : Prop := ∀ (g : Nat) (cur : Array Value) (T : TypeId) (fl : Nat × Nat), W.heap[g]? = some (.cells cur T fl) → T ≠ 5 → W'.heap[g]? = W.heap[g]?
theorem KeepU.refl (W : World) : KeepU W W := fun _ _ _ _ _ _ => rfl
theorem KeepU.trans {a b c : World} (h : KeepU a b) (k : KeepU b c) : KeepU a c := fun g cur T fl e n => (k g cur T fl ((h g cur T fl e n).trans e) n).trans (h g cur T fl e n)
theorem KeepU.below {a b : World} (h : Below a.heap.size a b) : KeepU a b := fun g cur T fl e n => h.block g (Array.getElem?_eq_some_iff.1 e).1
theorem keepU_push {w w3 : World} {LO : Nat} {v : Value} {n : Nat} {xs : List Value} {o : Obj} (hb : w.ownsRow LO 5 1 v n xs) (hg : (w.alloc o).grownBy w3 v.ownBlock) : KeepU w w3 := fun g cur T fl e ne => by
 have lt := (Array.getElem?_eq_some_iff.1 e).1
 have al : (w.alloc o).heap[g]? = w.heap[g]? := ((Below.refl w.heap.size w).alloc (Nat.le_refl _) o).block g lt
 refine (hg.block g (by simp; omega) (fun z => ?_)).trans al
 rcases hb.2 with ⟨rfl, _⟩ | ⟨g', cap, cu, rfl, _, h3, _⟩
 ·simp [Value.ownBlock] at z
 ·simp [Value.ownBlock] at z
  subst z
  rw [e] at h3
  cases h3
  exact ne rfl
def NumR (LO : Nat) (W : World) (ys : List Int) (e : Ending) (w' : World) : Prop := ∃ v', e = .returned v' ∧ w'.ownsRow LO 5 1 v' ys.length (bts ys) ∧ Below LO W w' ∧ KeepU W w'
theorem own_push {w w3 : World} {LO : Nat} {v v' : Value} {xs : List Int} {x : Int} (hb : w.ownsRow LO 5 1 v xs.length (bts xs)) (hLO : LO ≤ w.heap.size) (ho : w3.ownsRow LO 5 1 v' (xs.length + 1) (bts xs ++ [.int .u8 x])) (hg : (w.alloc (.cells #[.int .u8 x] 5)).grownBy w3 v.ownBlock) :
  w3.ownsRow LO 5 1 v' (xs ++ [x]).length (bts (xs ++ [x])) ∧ Below LO w w3 := by
 have e : bts (xs ++ [x]) = bts xs ++ [.int .u8 x] := by unfold bts; simp
 refine ⟨by rw [e, List.length_append]; exact ho, ?_⟩
 exact ((Below.refl LO w).alloc hLO _).grown hg (by simp; omega) (fun g hg2 => (hb.lt g hg2).1)
set_option maxHeartbeats 4000000 in
set_option maxRecDepth 100000 in
theorem t_number (LO : Nat) (v : Value) (xs : List Int) (n0 : Nat) (W : World) (hv : W.ownsRow LO 5 1 v xs.length (bts xs)) (hLO : LO ≤ W.heap.size) (h1 : n0 ≤ 1099511627776) (ub : xs.length ≤ 10000000) :
  Calls Tryz.prog 45 #[v, .int .i64 (n0 : Int)] W (NumR LO W (xs ++ numL (n0 : Int))) := by
 obtain ⟨i0, hi0, hz0, hz1, hz2⟩ := info_parts infoB
 obtain ⟨A, c, rfl⟩ := own_slc hv
 obtain ⟨R, hR⟩ : ∃ R, R = xs ++ numL (n0 : Int) := ⟨_, rfl⟩
 have ST : Hid (W.ownsRow LO 5 1 (.slice A xs.length c) xs.length (bts xs) ∧ Below LO W W ∧ LO ≤ W.heap.size ∧ xs ++ numF 9 (n0 : Int) = R ∧ KeepU W W) := Lib.hid ⟨hv, Below.refl _ _, hLO, hR.symm, KeepU.refl _⟩
 rw [← hR]
 clear hv hLO hR
 go_enter Tryz.func45, Tryz.ntmps45
 go_wp2_with fail
 go_loopw [0, 1] (fun s0 s1 wr => ∃ (zs : List Int) (m f : Nat) (A' : Option Addr) (c' : Nat), s0 = .slice A' zs.length c' ∧ s1 = .int .i64 (m : Int) ∧ zs.length + f ≤ 10000009 ∧ m ≤ 1099511627776 ∧ (m : Int) < 128 ^ (f + 1) ∧ Hid (wr.ownsRow LO 5 1 (.slice A' zs.length c') zs.length (bts zs) ∧ Below LO W wr ∧ LO ≤ wr.heap.size ∧ zs ++ numF f (m : Int) = R ∧ KeepU W wr)) (fun _ s1 _ => (intOf s1).toNat)
 case atStart =>
  refine ⟨xs, n0, 9, A, c, rfl, rfl, by omega, h1, ?_, ST⟩
  have e : (128 : Int) ^ (9 + 1) = 1180591620717411303424 := by decide
  rw [e]; omega
 case round =>
  obtain ⟨zs, m, f, A', c', rfl, rfl, lf, mb, mf, hr⟩ := hrel
  clear ST
  by_cases big : 128 ≤ m
  ·have bi : (128 : Int) ≤ (m : Int) := by omega
   obtain ⟨X, hX⟩ : ∃ X : Nat, X = 128 + m % 128 := ⟨_, rfl⟩
   obtain ⟨f', rfl⟩ : ∃ f', f = f' + 1 := by
    cases f with
    | zero => simp at mf; omega
    | succ f' => exact ⟨f', rfl⟩
   have mf' : ((m / 128 : Nat) : Int) < 128 ^ (f' + 1) := by
    have e : (128 : Int) ^ (f' + 1 + 1) = 128 ^ (f' + 1) * 128 := Int.pow_succ _ _
    rw [e] at mf
    have := Int.ediv_lt_of_lt_mul (show (0 : Int) < 128 by decide) mf
    omega
   have HO := Lib.hid (hr.out.1.alloc (.cells #[.int .u8 (X : Int)] 5))
   have O1 : Hid (∀ u ∈ [Value.int .u8 (X : Int)], u.oneCell' = true) := Lib.hid (by intro u hu; simp at hu; subst hu; rfl)
   have H2 : zs.length + 1 ≤ maxLen := by unfold maxLen; omega
   have H3 : (zs.length + 1) * 1 ≤ 140737488355328 := by omega
   have H4 : LO ≤ (wr.alloc (.cells #[.int .u8 (X : Int)] 5)).heap.size := by have := hr.out.2.2.1; simp; omega
   have NX : Hid (∀ (w3 : World) (v' : Value), w3.ownsRow LO 5 1 v' (zs.length + 1) (bts zs ++ [.int .u8 (X : Int)]) → (wr.alloc (.cells #[.int .u8 (X : Int)] 5)).grownBy w3 (Value.slice A' zs.length c').ownBlock → ∃ A4 c4, v' = .slice A4 (zs ++ [(X : Int)]).length c4 ∧ (w3.ownsRow LO 5 1 (.slice A4 (zs ++ [(X : Int)]).length c4) (zs ++ [(X : Int)]).length (bts (zs ++ [(X : Int)])) ∧ Below LO W w3 ∧ LO ≤ w3.heap.size ∧ (zs ++ [(X : Int)]) ++ numF f' ((m / 128 : Nat) : Int) = R ∧ KeepU W w3)) := Lib.hid (fun w3 v' ho hg => by
    obtain ⟨q1, q2⟩ := own_push hr.out.1 hr.out.2.2.1 ho hg
    obtain ⟨A4, c4, rfl⟩ := own_slc q1
    refine ⟨A4, c4, rfl, q1, hr.out.2.1.trans q2, Nat.le_trans hr.out.2.2.1 q2.size, ?_, hr.out.2.2.2.2.trans (keepU_push hr.out.1 hg)⟩
    have z := hr.out.2.2.2.1
    rw [numF_step f' (m : Int) bi] at z
    rw [List.append_assoc, ← z, hX]
    simp)
   have mlt : m / 128 < m := by omega
   have mle : m / 128 ≤ 1099511627776 := by omega
   have zl : (zs ++ [(X : Int)]).length = zs.length + 1 := by simp
   have or1 : bits .or .u8 ((m : Int) % 256) 128 = (X : Int) := by
    have := or_128 m
    rw [show ((m % 256 : Nat) : Int) = (m : Int) % 256 by omega, ← hX] at this
    exact this
   generalize hd1 : m / 128 = d1 at *
   have sh1 : (m : Int) / 128 = (d1 : Int) := by omega
   clear hr hX hd1
   go_wp2_with (at_builtin; refine wpList_append_own _ rfl (.tmp 9) (.tmp 13) 27 rfl LO 5 i0 (.int .u8 0) 1 1 Tryz.underlying27 hi0 hz0 hz1 hz2 rfl (by decide) _ _ _ rfl HO.out ⟨wr.heap.size, 0, none⟩ 1 1 [.int .u8 (X : Int)] rfl rfl (news1 _ _ _) O1.out H2 H3 H4 ?_; intro v' w3 hown3 hg3 _; obtain ⟨A4, c4, rfl, P4⟩ := NX.out w3 v' hown3 hg3; have P4 := Lib.hid P4; clear hown3 hg3 NX HO)
   go_roundw
   case rel => exact ⟨zs ++ [(X : Int)], d1, f', A4, c4, by rw [zl], by go_num, by rw [zl]; omega, mle, mf', P4⟩
   case measure => simp [intOf]; omega
  ·have bi : ¬ (128 : Int) ≤ (m : Int) := by omega
   have w3 : IntKind.u8.wrap (m : Int) = (m : Int) := by rw [IntKind.wrap_u8]; omega
   have w3' : (m : Int) % 256 = (m : Int) := by omega
   have HO := Lib.hid (hr.out.1.alloc (.cells #[.int .u8 (m : Int)] 5))
   have O1 : Hid (∀ u ∈ [Value.int .u8 (m : Int)], u.oneCell' = true) := Lib.hid (by intro u hu; simp at hu; subst hu; rfl)
   have H2 : zs.length + 1 ≤ maxLen := by unfold maxLen; omega
   have H3 : (zs.length + 1) * 1 ≤ 140737488355328 := by omega
   have H4 : LO ≤ (wr.alloc (.cells #[.int .u8 (m : Int)] 5)).heap.size := by have := hr.out.2.2.1; simp; omega
   have NX : Hid (∀ (w3 : World) (v' : Value), w3.ownsRow LO 5 1 v' (zs.length + 1) (bts zs ++ [.int .u8 (m : Int)]) → (wr.alloc (.cells #[.int .u8 (m : Int)] 5)).grownBy w3 (Value.slice A' zs.length c').ownBlock → w3.ownsRow LO 5 1 v' R.length (bts R) ∧ Below LO W w3 ∧ KeepU W w3) := Lib.hid (fun w3 v' ho hg => by
    obtain ⟨q1, q2⟩ := own_push hr.out.1 hr.out.2.2.1 ho hg
    have z := hr.out.2.2.2.1
    rw [numF_small f (m : Int) (by omega)] at z
    rw [z] at q1
    exact ⟨q1, hr.out.2.1.trans q2, hr.out.2.2.2.2.trans (keepU_push hr.out.1 hg)⟩)
   clear hr
   go_wp2_with (at_builtin; refine wpList_append_own _ rfl (.tmp 15) (.tmp 18) 27 rfl LO 5 i0 (.int .u8 0) 1 1 Tryz.underlying27 hi0 hz0 hz1 hz2 rfl (by decide) _ _ _ rfl HO.out ⟨wr.heap.size, 0, none⟩ 1 1 [.int .u8 (m : Int)] rfl rfl (news1 _ _ _) O1.out H2 H3 H4 ?_; intro v' w3 hown3 hg3 _; have P4 := Lib.hid (NX.out w3 v' hown3 hg3); clear hown3 hg3 NX HO)
   go_ret
   exact ⟨_, rfl, P4.out.1, P4.out.2.1, P4.out.2.2⟩
end
end Go.Proofs.YtmaofighbpnbiaaGreatDoor
