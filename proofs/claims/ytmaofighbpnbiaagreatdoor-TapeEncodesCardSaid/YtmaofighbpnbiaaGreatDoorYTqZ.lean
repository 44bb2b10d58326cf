/- The law's kept, walked. -/
import Derived.Test.YtmaofighbpnbiaaGreatDoorYTqY
import Derived.Test.YtmaofighbpnbiaaGreatDoorYTqT
namespace Go.Proofs.YtmaofighbpnbiaaGreatDoor
open Go Go.RowKit Go.Sort
set_option linter.unusedVariables false
set_option linter.unusedSimpArgs false
section
theorem fa_frms (M : List RM) : frms (M.map RM.fa) = rmF M := by unfold frms rmF; rw [List.map_map]; rfl
theorem RoomD.mark {w : World} {B : Nat} {A : Option Addr} {c : Nat} {M : List RM} (h : RoomD w B A c M) {x : RM} (hx : x ∈ M) (j : Nat) (h1 : x.bs.length ≤ j) (h2 : j < x.bs.length + 9) : w.cell? ⟨x.g, j, none⟩ = some (.int .u8 165) := by
 have u : (bts (x.bs ++ List.replicate 9 165))[j]? = some (.int .u8 165) := by
  unfold bts
  rw [List.getElem?_map, List.getElem?_append_right h1, List.getElem?_replicate, if_pos (by omega)]
  rfl
 obtain ⟨ad, e, _, k⟩ := (h.mks x hx).2 (fun z => by rw [z] at u; simp at u)
 cases e
 have := k j _ u
 rw [Addr.add_lit, Nat.zero_add] at this
 exact this
theorem z77_at : ∀ (k j i : Nat), j < k → i < 2 → (z77 k)[j * 2 + i]? = ([Value.int .i64 (-77), Value.slice none 0 0])[i]?
 | k + 1, 0, i, _, hi => by
  have e : z77 (k + 1) = [Value.int .i64 (-77), Value.slice none 0 0] ++ z77 k := rfl
  rw [e, Nat.zero_mul, Nat.zero_add, List.getElem?_append_left (by simpa using hi)]
 | k + 1, j + 1, i, hj, hi => by
  have e : z77 (k + 1) = [Value.int .i64 (-77), Value.slice none 0 0] ++ z77 k := rfl
  rw [e, List.getElem?_append_right (by show 2 ≤ _; omega)]
  have := z77_at k j i (by omega) hi
  rw [← this]
  congr 1
  show (j + 1) * 2 + i - 2 = _
  omega
theorem RoomD.behind {w : World} {B : Nat} {A : Option Addr} {c : Nat} {M : List RM} (h : RoomD w B A c M) (j : Nat) (hj : j < 9) : ∃ ad, A = some ad ∧ w.cell? (ad.add ((M.length + j) * 2)) = some (.int .i64 (-77)) ∧ w.cell? ⟨(ad.add ((M.length + j) * 2)).block, (ad.add ((M.length + j) * 2)).off + 1, none⟩ = some (.slice none 0 0) := by
 have g : ∀ i, i < 2 → (rmV M ++ z77 9)[(M.length + j) * 2 + i]? = ([Value.int .i64 (-77), Value.slice none 0 0])[i]? := fun i hi => by
  rw [List.getElem?_append_right (by rw [rmV_len]; omega), rmV_len, show (M.length + j) * 2 + i - M.length * 2 = j * 2 + i by omega]
  exact z77_at 9 j i hj hi
 obtain ⟨ad, e, _, k⟩ := h.row (fun z => by have := congrArg List.length z; rw [List.length_append, rmV_len, z77_len] at this; simp at this)
 refine ⟨ad, e, k _ _ (g 0 (by decide)), ?_⟩
 rw [add_ltt (ad.add ((M.length + j) * 2)) 1 (by decide), add_plus]
 exact k _ _ (g 1 (by decide))
set_option maxHeartbeats 16000000 in
set_option maxRecDepth 100000 in
theorem law_kept (A : Option Addr) (c : Nat) (M : List RM) (B : Nat) (A2 : Option Addr) (c2 : Nat) (L : List FA) (B2 : Nat) (W : World) (R : RoomD W B A c M) (D : FrsD W B2 A2 c2 L) (hB : B ≤ W.heap.size) (hB2 : B2 ≤ W.heap.size) (e : rmF M = frms L) (hl : M.length ≤ 134217728) (hb : ∀ x ∈ M, x.bs.length ≤ 134217728) :
  Calls Tryz.prog 17 #[.slice A M.length c, .slice A2 L.length c2] W fun e w' => e = .returned (.bool true) ∧ Below W.heap.size W w' := by
 have SM := r_SameF A A2 c c2 (M.map RM.fa) L B B2 W R.frs D hB hB2
 rw [fa_frms, List.length_map] at SM
 have SM : Hid (Calls Tryz.prog 21 #[.slice A M.length c, .slice A2 L.length c2] W fun e w' => e = .returned (.bool true) ∧ Below W.heap.size W w') := Lib.hid (SM.mono (fun e' w' ⟨b, e1, e2, e3⟩ => ⟨by rw [e1, e2.2 e], e3⟩))
 have HR := Lib.hid R
 have HB := Lib.hid hB
 have HBS := Lib.hid hb
 obtain ⟨n, hn⟩ : ∃ n, n = M.length := ⟨_, rfl⟩
 have HN := Lib.hid hn
 have cp : n + 9 ≤ c := by have := R.cap; omega
 rw [← hn] at SM hl ⊢
 generalize L.length = m at *
 clear R D hB hB2 e hb hn
 go_enter Tryz.func17, Tryz.ntmps17
 go_wp2_with fail
 refine SM.out.mono ?_; rintro e w1 ⟨rfl, hb1⟩
 have B1 := Lib.hid hb1
 clear SM hb1
 go_wp2_with fail
 go_loopw [6] (fun s6 wr => ∃ (i : Nat), i ≤ n ∧ s6 = .int .i64 (i : Int) ∧ Hid (Below W.heap.size W wr)) (fun s6 _ => n - (intOf s6).toNat)
 case atStart => exact ⟨0, Nat.zero_le _, rfl, B1⟩
 case round =>
  obtain ⟨i, hi, rfl, hw⟩ := hrel
  by_cases lt : i < n
  ·have il : i < M.length := by rw [← HN.out]; exact lt
   have RD := HR.out.below hw.out HB.out
   obtain ⟨ad, rfl, lb, z1, z2⟩ := RD.frs.at i (by rw [List.length_map]; exact il)
   simp only [List.getElem_map] at z1 z2
   have mx := List.getElem_mem il
   have mc := (RD.mks _ mx).1
   have MK := Lib.hid (fun (wr : World) (hw : Below W.heap.size W wr) j h1 h2 => (HR.out.below hw HB.out).mark mx j h1 h2)
   have bl := HBS.out _ mx
   generalize M[i] = x at *
   change wr.cell? ⟨(ad.add (i * 2)).block, (ad.add (i * 2)).off + 1, none⟩ = some (.slice (some ⟨x.g, 0, none⟩) x.bs.length x.c) at z2
   obtain ⟨xn, hxn⟩ : ∃ xn, xn = x.bs.length := ⟨_, rfl⟩
   rw [← hxn] at z2 mc MK bl
   generalize x.g = g at *
   generalize x.c = xc at *
   have q0 : (0 : Int) ≤ (i : Int) := by omega
   have q5 : (i : Int) < (n : Int) := by omega
   have tn : (i : Int).toNat = i := by omega
   have wk : IntKind.i64.wrap ((i : Int) + 1) = (i : Int) + 1 := IntWalk.i64_in _ (by omega)
   have w9 : IntKind.i64.wrap ((xn : Int) + 9) = (xn : Int) + 9 := IntWalk.i64_in _ (by omega)
   have x0 : (0 : Int) ≤ (xn : Int) + 9 := by omega
   have x1 : (xn : Int) + 9 ≤ (xc : Int) := by omega
   have xt : ((xn : Int) + 9).toNat = xn + 9 := by omega
   clear RD lb z1 mx hxn
   go_wp2_with fail
   go_loopw [9] (fun s9 wr => ∃ (k : Nat), xn ≤ k ∧ k ≤ xn + 9 ∧ s9 = .int .i64 (k : Int) ∧ Hid (Below W.heap.size W wr)) (fun s9 _ => xn + 9 - (intOf s9).toNat)
   case atStart => exact ⟨xn, Nat.le_refl _, by omega, rfl, hw⟩
   case round =>
    obtain ⟨k, k0, k1, rfl, hq⟩ := hrel
    by_cases lk : k < xn + 9
    ·have cm := MK.out wr hq.out k k0 lk
     have p0 : (0 : Int) ≤ (k : Int) := by omega
     have p5 : (k : Int) < (xn : Int) + 9 := by omega
     have p6 : (k : Int) < ((xn + 9 : Nat) : Int) := by omega
     have pn : (k : Int).toNat = k := by omega
     have wj : IntKind.i64.wrap ((k : Int) + 1) = (k : Int) + 1 := IntWalk.i64_in _ (by omega)
     go_wp2_with fail
     go_roundw
     case rel => exact ⟨k + 1, by omega, by omega, by go_num, hq⟩
     case measure => simp [intOf]; omega
    ·have e : k = xn + 9 := by omega
     subst e
     have p5 : ¬ ((xn + 9 : Nat) : Int) < (xn : Int) + 9 := by omega
     clear k0 k1
     go_wp2_with fail
     go_roundw
     case rel => exact ⟨i + 1, by omega, by go_num, hq⟩
     case measure => simp [intOf]; omega
  ·have e : i = n := by omega
   subst e
   have q5 : ¬ (i : Int) < (i : Int) := by omega
   obtain ⟨ad, rfl, _⟩ := HR.out.behind 0 (by decide)
   have w9 : IntKind.i64.wrap ((i : Int) + 9) = (i : Int) + 9 := IntWalk.i64_in _ (by omega)
   have x0 : (0 : Int) ≤ (i : Int) + 9 := by omega
   have x1 : (i : Int) + 9 ≤ (c : Int) := by omega
   have xt : ((i : Int) + 9).toNat = i + 9 := by omega
   go_wp2_with fail
   go_loopw [11] (fun s11 wr => ∃ (k : Nat), i ≤ k ∧ k ≤ i + 9 ∧ s11 = .int .i64 (k : Int) ∧ Hid (Below W.heap.size W wr)) (fun s11 _ => i + 9 - (intOf s11).toNat)
   case atStart => exact ⟨i, Nat.le_refl _, by omega, rfl, hw⟩
   case round =>
    obtain ⟨k, k0, k1, rfl, hq⟩ := hrel
    by_cases lk : k < i + 9
    ·obtain ⟨ae, e, z1, z2⟩ := (HR.out.below hq.out HB.out).behind (k - i) (by omega)
     cases e
     rw [show M.length + (k - i) = k by have := HN.out; omega] at z1 z2
     have p0 : (0 : Int) ≤ (k : Int) := by omega
     have p6 : (k : Int) < ((i + 9 : Nat) : Int) := by omega
     have p7 : (k : Int) < (i : Int) + 9 := by omega
     have pn : (k : Int).toNat = k := by omega
     have wj : IntKind.i64.wrap ((k : Int) + 1) = (k : Int) + 1 := IntWalk.i64_in _ (by omega)
     go_wp2_with fail
     go_roundw
     case rel => exact ⟨k + 1, by omega, by omega, by go_num, hq⟩
     case measure => simp [intOf]; omega
    ·have e : k = i + 9 := by omega
     subst e
     have p5 : ¬ ((i + 9 : Nat) : Int) < ((i + 9 : Nat) : Int) := by omega
     have p7 : ¬ (i : Int) + 9 < (i : Int) + 9 := by omega
     clear k0 k1
     go_wp2_with fail
     go_ret
     exact ⟨rfl, hq.out⟩
end
end Go.Proofs.YtmaofighbpnbiaaGreatDoor
