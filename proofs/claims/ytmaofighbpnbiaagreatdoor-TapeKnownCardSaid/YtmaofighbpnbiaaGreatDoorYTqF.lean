/- A tape is read: Decode. -/
import Derived.Test.YtmaofighbpnbiaaGreatDoorYTqD
import Derived.Test.YtmaofighbpnbiaaGreatDoorYTqE
namespace Go.Proofs.YtmaofighbpnbiaaGreatDoor
open Go Go.RowKit Go.Sort
set_option linter.unusedVariables false
set_option linter.unusedSimpArgs false
section
theorem results_c3 {fn : Func} {p t u s : Tmp} {ty : TypeId} (h : fn.results = #[.cell p ty, .tmp t, .tmp u, .tmp s]) (tmps : Array Value) (P : Program) (w : World) :
  (results fn tmps).run P w = ((asAddr (tmps.getD p undef)).run P w).andThen fun a w₁ => ((loadVar ty a).run P w₁).andThen fun v w₂ => .ok (.tuple #[v, tmps.getD t undef, tmps.getD u undef, tmps.getD s undef]) w₂ := by
 simp only [results, h]
 simp [Sem.run_bind, Result.andThen]
def CpyR (W w' : World) (v : Value) (l : List Frm) : Prop := Below W.heap.size W w' ∧ ((v = .slice none 0 0 ∧ l = []) ∨ ∃ g L', W.heap.size ≤ g ∧ w'.ownsRow W.heap.size 47 2 v (cpF g 0 0 L').length ((cpF g 0 0 L').flatMap frV) ∧ BRow w' g (flatB L').length (flatB L') ∧ frms L' = l ∧ ∀ x ∈ L', Byt x.b.bs ∧ x.b.bs.length ≤ 1048576 ∧ 0 ≤ x.at_ ∧ x.at_ ≤ 1099511627776)
def DecR (W : World) (D : List Int) (e : Ending) (w' : World) : Prop := ∃ v, e = .returned (.tuple #[.agg #[.int .i64 (decT D).w, .int .i64 (decT D).h], v, .int .i64 (decT D).code, .int .i64 (decT D).spot]) ∧ CpyR W w' v (decT D).l
def lit3 (i : Nat) : Int := if i = 0 then 70 else if i = 1 then 77 else 1
def stR (D : List Int) : Nat → RdT
 | 0 => ⟨0, 0, 0⟩
 | i + 1 => headS D (stR D i) i (lit3 i)
theorem headS_bad {D : List Int} {r : RdT} (i c : Int) (h : (takeR D r 1).1 = []) : headS D r i c = (takeR D r 1).2 := by unfold headS; rw [if_neg (fun z => z.1 h)]
theorem headS_good {D : List Int} {r : RdT} (i c : Int) (c0 : r.code = 0) (lt : r.at_ < D.length) : headS D r i c = if D.getD r.at_ 0 ≠ c then failR ⟨r.at_ + 1, 0, r.spot⟩ 300 i else ⟨r.at_ + 1, 0, r.spot⟩ := by
 have e := takeR_some (n := 1) c0 (show r.at_ + 1 ≤ D.length by omega)
 rw [show ((1 : Nat) : Int) = 1 from rfl, take_one lt] at e
 unfold headS
 rw [e]
 by_cases z : D.getD r.at_ 0 = c
 ·rw [if_neg (fun q => q.2 z), if_neg (fun q => q z)]
 ·rw [if_pos ⟨by simp, z⟩, if_pos z]
theorem takeV_nil {A : Option Addr} {c : Nat} {D : List Int} {r : RdT} {n : Nat} (h : r.code ≠ 0 ∨ D.length < r.at_ + n) (ha : r.at_ ≤ D.length) : takeV A D r n = .slice none 0 0 ∧ (takeR D r n).1 = [] := by
 refine ⟨takeV_bad h, ?_⟩
 by_cases z : r.code = 0
 ·have lt : D.length < r.at_ + n := by
   rcases h with h | h
   ·exact absurd z h
   ·exact h
  rw [takeR_short z (by omega)]
 ·rw [takeR_no _ z]
def HeadAt (Q2 : World) (g : Nat) (A : Option Addr) (c : Nat) (D : List Int) (i : Nat) (wr : World) : Prop := RdS wr g A c D (stR D i) 88 ∧ Mv [g] Q2 wr
theorem take_dat {W : World} {g : Nat} {A : Option Addr} {c : Nat} {D : List Int} {r : RdT} {T : TypeId} (h : RdS W g A c D r T) (n : Nat) : ∃ (XA : Option Addr), takeV A D r n = .slice XA (takeR D r n).1.length (takeR D r n).1.length ∧ (takeR D r n).1.length ≤ D.length ∧ ∀ w', ByteD w' g ⟨A, c, D⟩ → ByteD w' g ⟨XA, (takeR D r n).1.length, (takeR D r n).1⟩ := by
 by_cases bad : r.code ≠ 0 ∨ D.length < r.at_ + n
 ·obtain ⟨e1, e2⟩ := takeV_nil (A := A) (c := c) bad h.at_
  rw [e1, e2]
  exact ⟨none, rfl, Nat.zero_le _, fun w' _ => ⟨fun _ => rfl, Nat.le_refl _, Nat.zero_le _, fun ne => absurd rfl ne, fun b m => by cases m⟩⟩
 ·have c0 : r.code = 0 := by
   by_cases q : r.code = 0
   ·exact q
   ·exact absurd (Or.inl q) bad
  have l2 : r.at_ + n ≤ D.length := by
   by_cases q : D.length < r.at_ + n
   ·exact absurd (Or.inr q) bad
   ·omega
  have e := takeR_some c0 l2
  have ln := take_len l2
  rw [e]
  dsimp only
  rw [ln]
  unfold takeV
  rw [if_neg bad]
  cases A with
  | none =>
   have z := h.dat.nil rfl
   have z2 := h.dat.cap
   dsimp only at z z2
   obtain rfl : n = 0 := by omega
   exact ⟨none, rfl, Nat.zero_le _, fun w' _ => ⟨fun _ => rfl, by simp, by simp, fun ne => absurd (by simp) ne, fun b m => by simp at m⟩⟩
  | some ad =>
   refine ⟨_, rfl, by omega, fun w' q => ⟨(fun z => by cases z), by rw [ln]; exact Nat.le_refl _, by have := q.sz; dsimp only at this ⊢; rw [ln]; omega, fun ne => ?_, take_byt q.rng r.at_ n⟩⟩
   have n0 : n ≠ 0 := fun z => ne (by rw [z]; simp)
   have dn : D.map (Value.int .u8) ≠ [] := fun z => by
    have := congrArg List.length z
    simp at this
    subst this
    simp at l2
    omega
   obtain ⟨a2, e2, hb, hc⟩ := q.sees dn
   cases e2
   refine ⟨_, rfl, by rw [if_neg n0, add_blk]; exact hb, fun j u hj => ?_⟩
   rw [if_neg n0, add_plus]
   refine hc _ _ ?_
   have lt := (List.getElem?_eq_some_iff.1 hj).1
   simp only [List.length_map, ln] at lt
   rw [List.getElem?_map] at hj ⊢
   rw [List.getElem?_take, if_pos lt, List.getElem?_drop] at hj
   exact hj
theorem good_of {r : RdT} {D : List Int} {n : Nat} (bad : ¬ (r.code ≠ 0 ∨ D.length < r.at_ + n)) : r.code = 0 ∧ r.at_ + n ≤ D.length := by
 refine ⟨?_, ?_⟩
 ·by_cases q : r.code = 0
  ·exact q
  ·exact absurd (Or.inl q) bad
 ·by_cases q : D.length < r.at_ + n
  ·exact absurd (Or.inr q) bad
  ·omega
theorem takeV_some {W : World} {g : Nat} {A : Option Addr} {c : Nat} {D : List Int} {r : RdT} {T : TypeId} {n : Nat} (h : RdS W g A c D r T) (c0 : r.code = 0) (lt : r.at_ + (n + 1) ≤ D.length) : ∃ ad, A = some ad ∧ takeV A D r (n + 1) = .slice (some (ad.add r.at_)) (n + 1) (n + 1) ∧ ad.block < g ∧ ∀ w', ByteD w' g ⟨A, c, D⟩ → ∀ j, r.at_ + j < D.length → w'.cell? (ad.add (r.at_ + j)) = some (.int .u8 (D.getD (r.at_ + j) 0)) := by
 obtain ⟨ad, e, hb, hc⟩ := sees_byte h.dat.sees r.at_ (show r.at_ < D.length by omega)
 have nf : ¬ (r.code ≠ 0 ∨ D.length < r.at_ + (n + 1)) := by
  rintro (q | q)
  ·exact q c0
  ·omega
 have e : A = some ad := e
 subst e
 refine ⟨ad, rfl, ?_, hb, fun w' q j hj => ?_⟩
 ·unfold takeV
  rw [if_neg nf]
  dsimp only
  rw [if_neg (Nat.succ_ne_zero n)]
 ·obtain ⟨a2, e2, _, hc⟩ := sees_byte q.sees (r.at_ + j) hj
  cases e2
  exact hc
theorem take_four {D : List Int} {a : Nat} (h : a + 4 ≤ D.length) : (D.drop a).take 4 = [D.getD a 0, D.getD (a + 1) 0, D.getD (a + 2) 0, D.getD (a + 3) 0] := by
 have g : ∀ j, j < D.length → D.drop j = D.getD j 0 :: D.drop (j + 1) := fun j hj => by
  rw [List.drop_eq_getElem_cons hj, List.getD_eq_getElem?_getD, List.getElem?_eq_getElem hj]
  rfl
 rw [g a (by omega), g (a + 1) (by omega), g (a + 1 + 1) (by omega), g (a + 1 + 1 + 1) (by omega)]
 rfl
theorem sees_take {W : World} {B : Nat} {A : Option Addr} {D : List Int} (S : Sees W B A (D.map (.int .u8))) (n : Nat) : Sees W B A ((D.take n).map (.int .u8)) := fun ne => by
 obtain ⟨ad, e, hb, hc⟩ := S (fun z => ne (by have := congrArg (List.take n) z; rw [List.map_take] at *; rw [z]; simp))
 refine ⟨ad, e, hb, fun j u hj => hc j u ?_⟩
 rw [List.map_take, List.getElem?_take] at hj
 split at hj
 ·exact hj
 ·cases hj
structure FrsSo (Q2 : World) (lo g : Nat) (A : Option Addr) (c : Nat) (D : List Int) (F : List Frm × RdT) (k last : Nat) (r : RdT) (L : List FA) (v : Value) (wr : World) : Prop where
 rd : RdS wr g A c D r 88
 mv : Mv [g] Q2 wr
 own : wr.ownsRow lo 47 2 v L.length (L.flatMap frV)
 q2 : Q2.heap.size ≤ lo
 gl : g < Q2.heap.size
 le : lo ≤ wr.heap.size
 ok : ∀ x ∈ L, ByteD wr g x.b ∧ x.b.bs.length ≤ 1048576 ∧ 0 ≤ x.at_ ∧ x.at_ ≤ 1099511627776
 eq : frms L ++ (frsR D k last r).1 = F.1 ∧ (frsR D k last r).2 = F.2
theorem own_mvg {T0 T : TypeId} {w w' : World} {LO sz g : Nat} {v : Value} {n : Nat} {xs vs : List Value} (h : w.ownsRow LO T0 sz v n xs) (m : Mv [g] w w') (K : Bk w g vs T) (ne : T ≠ T0) : w'.ownsRow LO T0 sz v n xs := own_keepN h (fun k cu e => m.blk k (Array.getElem?_eq_some_iff.1 e).1 (fun z => by
 rw [List.mem_singleton] at z
 subst z
 unfold Bk at K
 rw [K] at e
 cases e
 exact ne rfl))
theorem FrsSo.next {Q2 wr w7 u w8 : World} {lo g : Nat} {A : Option Addr} {c : Nat} {D : List Int} {F : List Frm × RdT} {k last p1 q1 : Nat} {r r5 r6 r7 : RdT} {L : List FA} {v v' : Value} {XA : Option Addr} {tl : List Int} (h : FrsSo Q2 lo g A c D F (k + 1) last r L v wr) (c0 : r.code = 0)
  (hp : numR D r (1099511627776 - (last : Int)) = ((p1 : Int), r5)) (hq : numR D r5 1099511627776 = ((q1 : Int), r6)) (ht : takeR D r6 q1 = (tl, r7)) (R7 : RdS w7 g A c D r7 88) (m7 : Mv [g] wr w7) (bd : ByteD w7 g ⟨XA, tl.length, tl⟩) (bl : tl.length ≤ 1048576) (pl : last + p1 ≤ 1099511627776)
  (hu : Below w7.heap.size w7 u) (hg : u.grownBy w8 v.ownBlock) (ho : w8.ownsRow lo 47 2 v' (L.length + 1) (L.flatMap frV ++ [.int .i64 ((last : Int) + (p1 : Int)), .slice XA tl.length tl.length])) :
  FrsSo Q2 lo g A c D F k (last + p1) r7 (L ++ [⟨((last + p1 : Nat) : Int), ⟨XA, tl.length, tl⟩⟩]) v' w8 := by
 have o7 := own_mvg h.own m7 h.rd.box (by decide)
 have ou := own_callF o7 hu
 have su : lo ≤ u.heap.size := Nat.le_trans h.le (Nat.le_trans m7.size hu.size)
 have fr : ∀ z, v.ownBlock = some z → lo ≤ z := fun z e => (ou.lt z e).1
 have B8 : ∀ j, j < w7.heap.size → j < lo → w8.heap[j]? = w7.heap[j]? := fun j h1 h2 => (hg.block j (Nat.lt_of_lt_of_le h1 hu.size) (fun e => by have := fr j e.symm; omega)).trans (hu.block j h1)
 have b7 : Below lo w7 w8 := ⟨hg.os.trans hu.os, hg.tape.trans hu.tape, hg.output.trans hu.output, Nat.le_trans hu.size hg.size, fun j lt => B8 j (by have := h.le; have := m7.size; omega) lt⟩
 have gl2 := h.gl
 have ql := h.q2
 have m27 := h.mv.then m7
 have gw : g ≤ wr.heap.size := Nat.le_of_lt h.rd.box.lt
 refine ⟨⟨R7.box.of_eq (b7.block g (by omega)), R7.dat.below b7 (by omega), R7.at_⟩, ⟨b7.os.trans m27.os, b7.tape.trans m27.tape, b7.output.trans m27.output, Nat.le_trans m27.size b7.size, fun j hj hne => (b7.block j (by omega)).trans (m27.blk j hj hne)⟩, ?_, h.q2, h.gl, Nat.le_trans su hg.size, fun x m => ?_, ?_⟩
 ·rw [List.length_append, List.flatMap_append, flat_one2]
  rw [show ((last : Int) + (p1 : Int)) = ((last + p1 : Nat) : Int) by simp] at ho
  exact ho
 ·rcases List.mem_append.1 m with m | m
  ·obtain ⟨q1, q2⟩ := h.ok x m
   exact ⟨(q1.below (m7.under gw) (Nat.le_refl _)).below b7 (by omega), q2⟩
  ·rw [List.mem_singleton] at m
   subst m
   exact ⟨bd.below b7 (by omega), bl, by show (0 : Int) ≤ ((last + p1 : Nat) : Int); omega, by show ((last + p1 : Nat) : Int) ≤ _; omega⟩
 ·have e := h.eq
  rw [frsR_step k last c0, hp, hq] at e
  dsimp only at e
  rw [ht, show ((last : Int) + (p1 : Int)) = ((last + p1 : Nat) : Int) by simp] at e
  dsimp only at e
  refine ⟨?_, e.2⟩
  rw [← e.1]
  unfold frms
  rw [List.map_append, List.append_assoc]
  rfl
theorem own_frsD {w : World} {lo n c : Nat} {A : Option Addr} {L : List FA} (h : w.ownsRow lo 47 2 (.slice A n c) L.length (L.flatMap frV)) (hl : L.length ≤ 1000000) (ok : ∀ x ∈ L, FrD w w.heap.size x) : FrsD w w.heap.size A c L := by
 refine ⟨fun e => ?_, ?_, by omega, fun ne => ?_, ok⟩
 ·rcases h.2 with ⟨z, _⟩ | ⟨g, cap, cur, z, _⟩
  ·cases z; rfl
  ·cases z; cases e
 ·rcases h.2 with ⟨z, y⟩ | ⟨g, cap, cur, z, _, _, y, _⟩
  ·omega
  ·cases z; exact y
 ·rcases h.2 with ⟨z, y⟩ | ⟨g, cap, cur, z, _, e, y, _⟩
  ·exact absurd (List.eq_nil_of_length_eq_zero (by rw [h.1, y])) ne
  ·cases z
   refine ⟨_, rfl, (Array.getElem?_eq_some_iff.1 e).1, fun j u hj => h.cells (g := g) rfl j u hj⟩
theorem own_farB {w w' : World} {b lo n : Nat} {v : Value} {xs : List Value} (h : w.ownsRow lo 47 2 v n xs) (lt : b < lo) (far : ∀ j, j ≠ b → w'.heap[j]? = w.heap[j]?) : w'.ownsRow lo 47 2 v n xs := by
 refine ⟨h.1, ?_⟩
 rcases h.2 with hn | ⟨g, cap, cur, rfl, hb, hg, rest⟩
 ·exact .inl hn
 ·exact .inr ⟨g, cap, cur, rfl, hb, (far g (by omega)).trans hg, rest⟩
theorem stR_three (D : List Int) : stR D 3 = startR D := rfl
set_option maxHeartbeats 32000000 in
set_option maxRecDepth 100000 in
theorem t_Decode (A : Option Addr) (c : Nat) (D : List Int) (B : Nat) (W : World) (BD : ByteD W B ⟨A, c, D⟩) (hB : B ≤ W.heap.size) : Calls Tryz.prog 20 #[.slice A D.length c] W (DecR W D) := by
  obtain ⟨i0, z0, hi0, hz0, hz1, hz2, hz3⟩ := infoF
  obtain ⟨Q0, hQ0⟩ : ∃ Q0, Q0 = W.alloc (.cells #[.int .i64 0, .int .i64 0] 23) := ⟨_, rfl⟩
  have B0 : Below W.heap.size W Q0 := by rw [hQ0]; exact (Below.refl _ W).alloc (Nat.le_refl _) _
  have K0 : Bk Q0 W.heap.size [.int .i64 0, .int .i64 0] 23 := by rw [hQ0]; exact Bk.new W _ _
  have sz0 : Q0.heap.size = W.heap.size + 1 := by rw [hQ0]; simp
  have H0 := Lib.hid hQ0
  by_cases big : 1048576 < D.length
  · have big' : (1048576 : Int) < (D.length : Int) := by omega
    have e0 : decT D = ⟨0, 0, [], 3, 0⟩ := by unfold decT; rw [if_pos big]
    have k0 := K0.c 0 _ rfl
    have k1 := K0.c 1 _ rfl
    have f0 := K0.f 0
    have f1 := K0.f 1
    have EN : Hid (∀ w', Below W.heap.size W w' → DecR W D (.returned (.tuple #[.agg #[.int .i64 0, .int .i64 0], .slice none 0 0, .int .i64 3, .int .i64 0])) w') := Lib.hid (fun w' b => by
      refine ⟨.slice none 0 0, by rw [e0], b, Or.inl ⟨rfl, by rw [e0]⟩⟩)
    clear hQ0 e0 K0
    go_enter Tryz.func20, Tryz.ntmps20
    go_upto_region 1 with fail
    rw [← H0.out]
    go_wp2_with fail
    refine bodyPost_ret (v := .tuple #[.agg #[.int .i64 0, .int .i64 0], .slice none 0 0, .int .i64 3, .int .i64 0]) (by rw [results_c3 rfl]; go_simp) rfl ?_
    exact EN.out _ ((B0.setCell (p := ⟨W.heap.size, 0, none⟩) (Nat.le_refl _) _).setCell (p := ⟨W.heap.size, 1, none⟩) (Nat.le_refl _) _)
  · have big' : ¬ (1048576 : Int) < (D.length : Int) := by omega
    have dl : D.length ≤ 1048576 := by omega
    obtain ⟨g, hg⟩ : ∃ g, g = Q0.heap.size := ⟨_, rfl⟩
    obtain ⟨Q1, hQ1⟩ : ∃ Q1, Q1 = Q0.alloc (.cells #[.slice A D.length c, .int .i64 0, .int .i64 0, .int .i64 0] 88) := ⟨_, rfl⟩
    have B1 : Below Q0.heap.size Q0 Q1 := by rw [hQ1]; exact (Below.refl _ Q0).alloc (Nat.le_refl _) _
    have R1 : RdS Q1 g A c D ⟨0, 0, 0⟩ 88 := ⟨by rw [hQ1, hg]; exact Bk.new Q0 _ _, (BD.below (B0.trans (B1.mono B0.size)) hB).more (by rw [hg]; exact Nat.le_trans hB B0.size), Nat.zero_le _⟩
    obtain ⟨Q2, hQ2⟩ : ∃ Q2, Q2 = Q1.alloc (.cells #[.int .u8 70, .int .u8 77, .int .u8 1] 5) := ⟨_, rfl⟩
    have B2 : Below Q1.heap.size Q1 Q2 := by rw [hQ2]; exact (Below.refl _ Q1).alloc (Nat.le_refl _) _
    have LT : Bk Q2 Q1.heap.size [.int .u8 70, .int .u8 77, .int .u8 1] 5 := by rw [hQ2]; exact Bk.new Q1 _ _
    have R2 : RdS Q2 g A c D ⟨0, 0, 0⟩ 88 := R1.nx (Mv.below B2) (R1.box.of_eq (B2.block _ R1.box.lt)) (Nat.zero_le _)
    have g1 : g < Q1.heap.size := R1.box.lt
    have H1 := Lib.hid hQ1
    have H2 := Lib.hid hQ2
    have HLT := Lib.hid LT
    have HR2 := Lib.hid R2
    have HG := Lib.hid (show Q0.heap.size = g ∧ W.heap.size < g ∧ Below W.heap.size W Q2 from ⟨hg.symm, by omega, (B0.trans (B1.mono B0.size)).trans (B2.mono (Nat.le_trans B0.size B1.size))⟩)
    have K2 := Lib.hid (K0.of_eq ((B1.trans (B2.mono B1.size)).block _ K0.lt))
    have RNG := Lib.hid BD.rng
    have HGL := Lib.hid (Nat.lt_of_lt_of_le g1 B2.size)
    generalize hlb : Q1.heap.size = lb at *
    clear hQ0 hQ1 hQ2 B0 K0 B1 R1 B2 LT R2 sz0 big BD hg
    go_enter Tryz.func20, Tryz.ntmps20
    go_upto_region 1 with fail
    rw [← H0.out]
    go_upto_region 4 with fail
    rw [← H1.out, HG.out.1]
    go_upto_region 5 with fail
    rw [← H2.out]
    have HH : Hid (HeadAt Q2 g A c D 0 Q2) := Lib.hid ⟨HR2.out, Mv.refl _ _⟩
    clear H0 H1 H2 hlb
    go_loopw [28] (fun s28 wr => ∃ (i : Nat), i ≤ 3 ∧ s28 = .int .i64 (i : Int) ∧ Hid (HeadAt Q2 g A c D i wr)) (fun s28 _ => 3 - (intOf s28).toNat)
    case atStart => exact ⟨0, by decide, rfl, HH⟩
    case round =>
      obtain ⟨i, hi, rfl, he⟩ := hrel
      clear HH
      by_cases lt : i < 3
      · have q0 : (0 : Int) ≤ (i : Int) := by omega
        have q5 : (i : Int) < 3 := by omega
        have tn : (i : Int).toNat = i := by omega
        have wk : IntKind.i64.wrap ((i : Int) + 1) = (i : Int) + 1 := IntWalk.i64_in _ (by omega)
        have LB : Bk wr lb [.int .u8 70, .int .u8 77, .int .u8 1] 5 := HLT.out.of_eq (he.out.2.blk _ HLT.out.lt (by simp; omega))
        have cl : wr.cell? ⟨lb, i, none⟩ = some (.int .u8 (lit3 i)) := by
          obtain rfl | rfl | rfl : i = 0 ∨ i = 1 ∨ i = 2 := by omega
          · exact LB.c 0 _ rfl
          · exact LB.c 1 _ rfl
          · exact LB.c 2 _ rfl
        have TK := Lib.hid (tp_take g A c D (stR D i) 1 wr he.out.1 (by decide))
        have NS := Lib.hid (show stR D (i + 1) = headS D (stR D i) i (lit3 i) from rfl)
        generalize lit3 i = l3 at *
        have HM := Lib.hid he.out.2
        by_cases bad : (stR D i).code ≠ 0 ∨ D.length < (stR D i).at_ + 1
        · have TN := Lib.hid (takeV_nil (A := A) (c := c) bad he.out.1.at_)
          have NX : Hid (∀ w1, TakR wr g A c D (stR D i) 1 88 (.returned (takeV A D (stR D i) 1)) w1 → HeadAt Q2 g A c D (i + 1) w1) := Lib.hid (fun w1 h => ⟨by rw [NS.out, headS_bad _ _ TN.out.2]; exact h.2.1, HM.out.then h.2.2⟩)
          clear LB he bad
          go_wp2_with fail
          refine TK.out.mono ?_; intro e w1 hT
          obtain rfl := hT.1
          have NX := Lib.hid (NX.out w1 hT)
          rw [TN.out.1]
          have sn := sl_noN 0 0 w1
          clear TK hT TN
          go_wp2_with fail
          go_roundw
          case rel => exact ⟨i + 1, by omega, by go_num, NX⟩
          case measure => simp [intOf]; omega
        · obtain ⟨c0, l2⟩ : (stR D i).code = 0 ∧ (stR D i).at_ < D.length := by
            refine ⟨?_, ?_⟩
            · by_cases q : (stR D i).code = 0
              · exact q
              · exact absurd (Or.inl q) bad
            · by_cases q : D.length < (stR D i).at_ + 1
              · exact absurd (Or.inr q) bad
              · omega
          obtain ⟨ad, hA, tv, hb, _⟩ := takeV_one he.out.1 c0 l2
          have HTV := Lib.hid tv
          have HCELL := Lib.hid (fun (w1 : World) (h : RdS w1 g A c D (takeR D (stR D i) 1).2 88) => show w1.cell? (ad.add (stR D i).at_) = some (.int .u8 (D.getD (stR D i).at_ 0)) by
            obtain ⟨a2, e2, _, hc⟩ := sees_byte h.dat.sees (stR D i).at_ l2
            have e2 : A = some a2 := e2
            rw [hA] at e2
            cases e2
            exact hc)
          have TR := Lib.hid (show (takeR D (stR D i) 1).2 = ⟨(stR D i).at_ + 1, 0, (stR D i).spot⟩ by have := takeR_some (n := 1) c0 (show (stR D i).at_ + 1 ≤ D.length by omega); rw [show ((1 : Nat) : Int) = 1 from rfl] at this; rw [this])
          have ZZ := Lib.hid (NS.out.trans (headS_good (i : Int) l3 c0 l2))
          have L1 := Lib.hid (show (stR D i).at_ + 1 ≤ D.length by omega)
          generalize ad.add (stR D i).at_ = aa at *
          generalize D.getD (stR D i).at_ 0 = dd at *
          generalize stR D i = ri at *
          clear LB he bad hA tv hb c0 l2
          by_cases ne : dd = l3
          · subst ne
            have NX : Hid (∀ w1, RdS w1 g A c D (takeR D ri 1).2 88 → Mv [g] wr w1 → HeadAt Q2 g A c D (i + 1) w1) := Lib.hid (fun w1 a b => ⟨by rw [ZZ.out, if_neg (fun q => q rfl), ← TR.out]; exact a, HM.out.then b⟩)
            go_wp2_with fail
            refine TK.out.mono ?_; rintro e w1 ⟨rfl, R1, M1⟩
            rw [HTV.out]
            have ss := sl_soN aa 1 1 w1
            have cc := HCELL.out w1 R1
            have NX := Lib.hid (NX.out w1 R1 M1)
            clear TK R1 M1 HCELL HTV HM TR
            go_wp2_with fail
            go_roundw
            case rel => exact ⟨i + 1, by omega, by go_num, NX⟩
            case measure => simp [intOf]; omega
          · have NX : Hid (∀ w1 w2, RdS w1 g A c D (takeR D ri 1).2 88 → Mv [g] wr w1 → Bk w2 g (rdV A D.length c (failR ⟨ri.at_ + 1, 0, ri.spot⟩ 300 i)) 88 → Mv [g] w1 w2 → HeadAt Q2 g A c D (i + 1) w2) := Lib.hid (fun w1 w2 a b b2 m2 => ⟨by rw [ZZ.out, if_pos ne]; exact a.nx m2 b2 (by rw [fail_at]; exact L1.out), (HM.out.then b).then m2⟩)
            have FL := Lib.hid (fun (w1 : World) (a : RdS w1 g A c D (takeR D ri 1).2 88) => t_fail g A D.length c ⟨ri.at_ + 1, 0, ri.spot⟩ 300 i w1 (by rw [← TR.out]; exact a.box))
            go_wp2_with fail
            refine TK.out.mono ?_; rintro e w1 ⟨rfl, R1, M1⟩
            rw [HTV.out]
            have ss := sl_soN aa 1 1 w1
            have cc := HCELL.out w1 R1
            have NX := Lib.hid (NX.out w1 · R1 M1)
            have FL := Lib.hid (FL.out w1 R1)
            clear TK R1 M1 HCELL HTV HM TR
            go_wp2_with fail
            refine FL.out.mono ?_; rintro e w2 ⟨rfl, b2, m2⟩
            have NX := Lib.hid (NX.out w2 b2 m2)
            clear FL b2 m2
            go_wp2_with fail
            go_roundw
            case rel => exact ⟨i + 1, by omega, by go_num, NX⟩
            case measure => simp [intOf]; omega
      · have e3 : i = 3 := by omega
        subst e3
        have q5 : ¬ (3 : Int) < 3 := by omega
        obtain ⟨r0, hr0⟩ : ∃ r0, r0 = stR D 3 := ⟨_, rfl⟩
        have S0 := Lib.hid (show RdS wr g A c D r0 88 ∧ Mv [g] Q2 wr by rw [hr0]; exact he.out)
        have N1 := Lib.hid (t_numR g A c D r0 4096 wr S0.out.1)
        have PR1 := Lib.hid (numR_rng RNG.out r0 (most := 4096) (by decide))
        have HR0 := Lib.hid hr0
        clear he hr0
        go_wp2_with fail
        refine N1.out.mono ?_; rintro e w1 ⟨rfl, R1, M1⟩
        have S1 := Lib.hid (And.intro R1 (S0.out.2.then M1))
        obtain ⟨wn, hwn⟩ : ∃ wn : Nat, (numR D r0 4096).1 = (wn : Int) := ⟨(numR D r0 4096).1.toNat, by have := PR1.out; omega⟩
        obtain ⟨r1, hr1⟩ : ∃ r1, (numR D r0 4096).2 = r1 := ⟨_, rfl⟩
        have wl : wn ≤ 4096 := by have := PR1.out; omega
        rw [hwn]
        rw [hr1] at S1
        have E1 := Lib.hid (And.intro hwn hr1)
        have a1 : w1.cell? ⟨g, 1, none⟩ = some (.int .i64 (r1.at_ : Int)) := S1.out.1.box.c 1 _ rfl
        have N2 := Lib.hid (t_numR g A c D r1 4096 w1 S1.out.1)
        have PR2 := Lib.hid (numR_rng RNG.out r1 (most := 4096) (by decide))
        clear N1 PR1 R1 M1 S0 hwn hr1
        go_wp2_with fail
        refine N2.out.mono ?_; rintro e w2 ⟨rfl, R2, M2⟩
        have S2 := Lib.hid (And.intro R2 (S1.out.2.then M2))
        obtain ⟨hn, hhn⟩ : ∃ hn : Nat, (numR D r1 4096).1 = (hn : Int) := ⟨(numR D r1 4096).1.toNat, by have := PR2.out; omega⟩
        obtain ⟨r2, hr2⟩ : ∃ r2, (numR D r1 4096).2 = r2 := ⟨_, rfl⟩
        have hl : hn ≤ 4096 := by have := PR2.out; omega
        rw [hhn]
        rw [hr2] at S2
        have E2 := Lib.hid (And.intro hhn hr2)
        obtain ⟨r3, hr3⟩ : ∃ r3, r3 = sizeR r2 r1.at_ wn hn := ⟨_, rfl⟩
        have E3 := Lib.hid hr3
        obtain ⟨P, hP⟩ : ∃ P : Nat, (wn : Int) * (hn : Int) = (P : Int) := ⟨wn * hn, by simp⟩
        have pb : P ≤ 4096 * 4096 := by have : wn * hn ≤ 4096 * 4096 := Nat.mul_le_mul wl hl; have e : ((wn * hn : Nat) : Int) = (P : Int) := by rw [← hP]; simp
                                        omega
        have wP : IntKind.i64.wrap ((wn : Int) * (hn : Int)) = (P : Int) := by rw [hP]; exact IntWalk.i64_in _ (by omega)
        have HP := Lib.hid hP
        clear N2 PR2 R2 M2 S1 hhn hr2 hr3 hP a1
        go_upto_if 59 with fail
        go_cut [] from 56 to 62 (fun wx => Hid (RdS wx g A c D r3 88 ∧ Mv [g] Q2 wx))
        case first =>
          by_cases big2 : 1048576 < P
          · have b2 : (1048576 : Int) < (P : Int) := by omega
            have FL := Lib.hid (t_fail g A D.length c r2 300 r1.at_ w2 S2.out.1.box)
            have NX : Hid (∀ w3, Bk w3 g (rdV A D.length c (failR r2 300 r1.at_)) 88 → Mv [g] w2 w3 → RdS w3 g A c D r3 88 ∧ Mv [g] Q2 w3) := Lib.hid (fun w3 b m => by
              have e : r3 = failR r2 300 r1.at_ := by rw [E3.out]; unfold sizeR; rw [if_pos (by rw [HP.out]; exact b2)]
              rw [e]
              exact ⟨S2.out.1.nx m b (by rw [fail_at]; exact S2.out.1.at_), S2.out.2.then m⟩)
            clear big2
            go_wp2_with fail
            refine FL.out.mono ?_; rintro e w3 ⟨rfl, b3, m3⟩
            have NX := Lib.hid (NX.out w3 b3 m3)
            clear FL b3 m3
            go_wp2_with fail
            go_meet
            exact NX
          · have b2 : ¬ (1048576 : Int) < (P : Int) := by omega
            have NX : Hid (RdS w2 g A c D r3 88 ∧ Mv [g] Q2 w2) := Lib.hid (by
              have e : r3 = r2 := by rw [E3.out]; unfold sizeR; rw [if_neg (by rw [HP.out]; exact b2)]
              rw [e]
              exact S2.out)
            clear big2
            go_wp2_with fail
            go_meet
            exact NX
        case rest =>
          obtain ⟨w3, hw3⟩ : ∃ w3, w3 = wc := ⟨_, rfl⟩
          rw [← hw3] at hcut ⊢
          have S3 := Lib.hid hcut.out
          clear hw3 hcut S2 HP wP pb
          have N3 := Lib.hid (t_numR g A c D r3 16384 w3 S3.out.1)
          have PR3 := Lib.hid (numR_rng RNG.out r3 (most := 16384) (by decide))
          go_wp2_with fail
          refine N3.out.mono ?_; rintro e w4 ⟨rfl, R4, M4⟩
          have S4 := Lib.hid (And.intro R4 (S3.out.2.then M4))
          obtain ⟨kn, hkn⟩ : ∃ kn : Nat, (numR D r3 16384).1 = (kn : Int) := ⟨(numR D r3 16384).1.toNat, by have := PR3.out; omega⟩
          obtain ⟨r4, hr4⟩ : ∃ r4, (numR D r3 16384).2 = r4 := ⟨_, rfl⟩
          have kl : kn ≤ 16384 := by have := PR3.out; omega
          rw [hkn]
          rw [hr4] at S4
          have E4 := Lib.hid (And.intro hkn hr4)
          obtain ⟨F, hF⟩ : ∃ F, F = frsR D kn 0 r4 := ⟨_, rfl⟩
          have EF := Lib.hid hF
          have FS : Hid (FrsSo Q2 w4.heap.size g A c D F kn 0 r4 [] (.slice none 0 0) w4) := Lib.hid ⟨S4.out.1, S4.out.2, ⟨rfl, Or.inl ⟨rfl, rfl⟩⟩, S4.out.2.size, HGL.out, Nat.le_refl _, (fun x m => by cases m), by rw [hF]; exact ⟨rfl, rfl⟩⟩
          obtain ⟨lo, hlo⟩ : ∃ lo, lo = w4.heap.size := ⟨_, rfl⟩
          rw [← hlo] at FS
          clear N3 PR3 R4 M4 S3 hkn hr4 hF S4 hlo
          go_wp2_with fail
          go_loopw [13, 14, 15] (fun s13 s14 s15 wr => ∃ (k last ll : Nat) (r : RdT) (L : List FA) (A' : Option Addr) (c' : Nat), k + ll ≤ 16384 ∧ ll = L.length ∧ s13 = .int .i64 (k : Int) ∧ s15 = .int .i64 (last : Int) ∧ s14 = .slice A' ll c' ∧ last ≤ 1099511627776 ∧ Hid (FrsSo Q2 lo g A c D F k last r L (.slice A' ll c') wr)) (fun s13 _ _ _ => (intOf s13).toNat)
          case atStart => exact ⟨kn, 0, 0, r4, [], none, 0, by omega, rfl, rfl, rfl, rfl, by omega, FS⟩
          case round =>
            obtain ⟨k, last, ll, r, L, A', c', hk, hll, rfl, rfl, rfl, lb, he⟩ := hrel
            clear FS
            have HLL := Lib.hid hll
            clear hll
            have j2 := he.out.rd.box.c 2 _ rfl
            by_cases go : 0 < k ∧ r.code = 0
            · obtain ⟨k0, rc⟩ := go
              obtain ⟨k', rfl⟩ : ∃ k', k = k' + 1 := ⟨k - 1, by omega⟩
              obtain ⟨kk, hkk⟩ : ∃ kk, kk = k' + 1 := ⟨_, rfl⟩
              rw [← hkk] at hk
              have q5 : (0 : Int) < (kk : Int) := by omega
              rw [rc] at j2
              have wk : IntKind.i64.wrap ((kk : Int) - 1) = (k' : Int) := by rw [IntWalk.i64_in _ (by omega)]; omega
              have wl : IntKind.i64.wrap (1099511627776 - (last : Int)) = 1099511627776 - (last : Int) := IntWalk.i64_in _ (by omega)
              have N5 := Lib.hid (t_numR g A c D r (1099511627776 - (last : Int)) wr he.out.rd)
              have PR5 := numR_rng RNG.out r (most := 1099511627776 - (last : Int)) (by omega)
              obtain ⟨p1, hp1⟩ : ∃ p1 : Nat, (numR D r (1099511627776 - (last : Int))).1 = (p1 : Int) := ⟨(numR D r (1099511627776 - (last : Int))).1.toNat, by omega⟩
              obtain ⟨r5, hr5⟩ : ∃ r5, (numR D r (1099511627776 - (last : Int))).2 = r5 := ⟨_, rfl⟩
              have pl : last + p1 ≤ 1099511627776 := by omega
              have E5 := Lib.hid (show numR D r (1099511627776 - (last : Int)) = ((p1 : Int), r5) by rw [← hp1, ← hr5])
              have wp : IntKind.i64.wrap ((last : Int) + (p1 : Int)) = (last : Int) + (p1 : Int) := IntWalk.i64_in _ (by omega)
              have HKK := Lib.hid hkk
              have RC := Lib.hid rc
              clear PR5 hp1 hr5 hkk rc k0
              rw [show ((k' + 1 : Nat) : Int) = (kk : Int) by rw [HKK.out]]
              go_wp2_with fail
              refine N5.out.mono ?_; rintro e w5 ⟨rfl, R5, M5⟩
              rw [E5.out] at R5 ⊢
              dsimp only at R5 ⊢
              have S5 := Lib.hid R5
              have HM5 := Lib.hid M5
              have N6 := Lib.hid (t_numR g A c D r5 1099511627776 w5 R5)
              have PR6 := numR_rng RNG.out r5 (most := 1099511627776) (by decide)
              obtain ⟨q1, hq1⟩ : ∃ q1 : Nat, (numR D r5 1099511627776).1 = (q1 : Int) := ⟨(numR D r5 1099511627776).1.toNat, by omega⟩
              obtain ⟨r6, hr6⟩ : ∃ r6, (numR D r5 1099511627776).2 = r6 := ⟨_, rfl⟩
              have E6 := Lib.hid (show numR D r5 1099511627776 = ((q1 : Int), r6) by rw [← hq1, ← hr6])
              have ql : q1 ≤ 1099511627776 := by omega
              clear N5 R5 M5 PR6 hq1 hr6
              go_wp2_with fail
              refine N6.out.mono ?_; rintro e w6 ⟨rfl, R6, M6⟩
              rw [E6.out] at R6 ⊢
              dsimp only at R6 ⊢
              obtain ⟨XA, tv, tle, tdat⟩ := take_dat R6 q1
              obtain ⟨tl, htl⟩ : ∃ tl, (takeR D r6 q1).1 = tl := ⟨_, rfl⟩
              obtain ⟨r7, hr7⟩ : ∃ r7, (takeR D r6 q1).2 = r7 := ⟨_, rfl⟩
              have E7 := Lib.hid (show takeR D r6 q1 = (tl, r7) by rw [← htl, ← hr7])
              rw [htl] at tv tle tdat
              have T7 := tp_take g A c D r6 q1 w6 R6 ql
              have TV := Lib.hid tv
              have TD := Lib.hid tdat
              have HM6 := Lib.hid (HM5.out.then M6)
              have T7 := Lib.hid T7
              have HTL := Lib.hid tle
              clear N6 R6 M6 htl hr7 tv tle tdat HM5 S5
              go_wp2_with fail
              refine T7.out.mono ?_; intro e w7 hT
              obtain rfl := hT.1
              rw [TV.out]
              have S7 := Lib.hid (show RdS w7 g A c D r7 88 by have := hT.2.1; rw [E7.out] at this; exact this)
              have HM7 := Lib.hid (HM6.out.then hT.2.2)
              have ow := Lib.hid (own_callF (own_mvg he.out.own HM7.out he.out.rd.box (by decide)) ((Below.refl _ w7).alloc (Nat.le_refl _) (.cells #[.int .i64 ((last : Int) + (p1 : Int)), .slice XA tl.length tl.length] 47)))
              rw [← HLL.out] at ow
              have NX : Hid (∀ (w8 : World) (v' : Value), w8.ownsRow lo 47 2 v' (ll + 1) (L.flatMap frV ++ [.int .i64 ((last : Int) + (p1 : Int)), .slice XA tl.length tl.length]) → (w7.alloc (.cells #[.int .i64 ((last : Int) + (p1 : Int)), .slice XA tl.length tl.length] 47)).grownBy w8 (Value.slice A' ll c').ownBlock → ∃ A4 c4 l4 L4, Hid (l4 = L4.length ∧ l4 = ll + 1) ∧ v' = .slice A4 l4 c4 ∧ FrsSo Q2 lo g A c D F k' (last + p1) r7 L4 (.slice A4 l4 c4) w8) := Lib.hid (fun w8 v' ho hg => by
                have N := FrsSo.next he.out RC.out E5.out E6.out E7.out S7.out HM7.out (TD.out w7 S7.out.dat) (Nat.le_trans HTL.out dl) pl ((Below.refl _ w7).alloc (Nat.le_refl _) _) hg (by rw [← HLL.out]; exact ho)
                obtain ⟨A4, c4, e⟩ := own_slcF N.own
                have e4 := own_len N.own e
                rw [e4] at N
                exact ⟨A4, c4, _, _, Lib.hid ⟨rfl, by rw [List.length_append, ← HLL.out]; rfl⟩, e4, N⟩)
              generalize hm : tl.length = m at *
              have H1 : Hid (∀ u ∈ [Value.int .i64 ((last : Int) + (p1 : Int)), .slice XA m m], u.oneCell' = true) := Lib.hid (by intro u hu; simp at hu; rcases hu with rfl | rfl <;> rfl)
              have H2 : Hid (ll + 1 ≤ maxLen) := Lib.hid (by unfold maxLen; omega)
              have H3 : Hid ((ll + 1) * 32 ≤ 140737488355328) := Lib.hid (by omega)
              have H4 : Hid (lo ≤ (w7.alloc (.cells #[.int .i64 ((last : Int) + (p1 : Int)), .slice XA m m] 47)).heap.size) := Lib.hid (by have := he.out.le; have := HM7.out.size; simp; omega)
              have NW := Lib.hid (cells_new w7 [.int .i64 ((last : Int) + (p1 : Int)), .slice XA m m] 47)
              clear T7 hT TV TD HM6 HM7 S7 HTL hm he
              go_wp2_with (at_builtin; refine wpList_append_own _ rfl (.tmp 82) (.tmp 89) 24 rfl lo 47 i0 z0 2 32 Tryz.underlying24 hi0 hz0 hz1 hz2 hz3 (by decide) (.slice A' ll c') ll _ rfl ow.out ⟨w7.heap.size, 0, none⟩ 1 1 _ rfl rfl NW.out H1.out H2.out H3.out H4.out ?_; intro v' w8 hown3 hg3 _; obtain ⟨A4, c4, l4, L4, hl4, rfl, P4⟩ := NX.out w8 v' hown3 hg3; have P4 := Lib.hid P4; clear hown3 hg3 NX ow NW)
              go_roundw
              case rel => exact ⟨k', last + p1, l4, r7, L4, A4, c4, by have := hl4.out.2; have := HKK.out; omega, hl4.out.1, by go_num, by go_num, rfl, pl, P4⟩
              case measure => simp [intOf]; have := HKK.out; omega
            · have EQ : Hid (F = (frms L, r)) := Lib.hid (by
                have e := he.out.eq
                have z : frsR D k last r = ([], r) := by
                  by_cases k0 : k = 0
                  · subst k0; rfl
                  · exact frsR_no k last (fun z => go ⟨by omega, z⟩)
                rw [z] at e
                dsimp only at e
                rw [List.append_nil] at e
                obtain ⟨f1, f2⟩ := F
                dsimp only at e
                rw [e.1, e.2])
              go_upto_region 19 with fail
              go_cut [73] from 65 to 73 (fun s73 wx => s73 = .bool false ∧ wx = wr)
              case first =>
                by_cases k0 : k = 0
                · subst k0
                  clear he EQ go
                  go_wp2_with fail
                  go_meet
                  exact ⟨rfl, rfl⟩
                · have q5 : (0 : Int) < (k : Int) := by omega
                  have c0 : ¬ r.code = 0 := fun z => go ⟨by omega, z⟩
                  have c1 : (r.code == 0) = false := by simpa using c0
                  clear he EQ go
                  go_wp2_with fail
                  go_meet
                  exact ⟨by first | rfl | rw [c1], rfl⟩
              case rest =>
                obtain ⟨rfl, hwx⟩ := hcut
                rw [hwx]
                have llb : ll ≤ 16384 := by omega
                clear hwx go hk lb
                have a1 := he.out.rd.box.c 1 _ rfl
                have T4 := Lib.hid (tp_take g A c D r 4 wr he.out.rd (by decide))
                go_upto_region 24 with fail
                go_wp2_with fail
                refine T4.out.mono ?_; intro e w7 hT
                obtain rfl := hT.1
                have S7 := Lib.hid (And.intro hT.2.1 hT.2.2)
                obtain ⟨tv, htv⟩ : ∃ tv, takeV A D r 4 = tv := ⟨_, rfl⟩
                obtain ⟨β, hβ⟩ : ∃ β : Bool, β = !decide (r.code ≠ 0 ∨ D.length < r.at_ + 4) := ⟨_, rfl⟩
                have HB := Lib.hid hβ
                have HTV := Lib.hid htv
                obtain ⟨r9, hr9⟩ : ∃ r9, r9 = sumR D r := ⟨_, rfl⟩
                have E9 := Lib.hid hr9
                have HAT := Lib.hid he.out.rd.at_
                rw [htv]
                clear T4 hT htv hβ hr9 a1
                go_upto_region 25 with fail
                go_cut [98] from 97 to 98 (fun s98 wx => s98 = .bool β ∧ wx = w7)
                case first =>
                  by_cases bad : r.code ≠ 0 ∨ D.length < r.at_ + 4
                  · obtain ⟨e1, e2⟩ := takeV_nil (A := A) (c := c) bad HAT.out
                    have eb : β = false := by rw [HB.out, decide_eq_true bad]; rfl
                    have et : tv = .slice none 0 0 := HTV.out.symm.trans e1
                    have sn := sl_noN 0 0 w7
                    subst et
                    subst eb
                    clear bad e1 e2
                    go_wp2_with fail
                    go_meet
                    exact ⟨rfl, rfl⟩
                  · have eb : β = true := by rw [HB.out, decide_eq_false bad]; rfl
                    obtain ⟨ad, et⟩ : ∃ ad, tv = .slice (some ad) 4 4 := by
                      obtain ⟨c0, l4⟩ := good_of bad
                      obtain ⟨ad, _, h2, _⟩ := takeV_some (n := 3) he.out.rd c0 l4
                      exact ⟨_, HTV.out.symm.trans h2⟩
                    have sn := sl_soN ad 4 4 w7
                    subst et
                    subst eb
                    clear bad
                    go_wp2_with fail
                    go_meet
                    exact ⟨rfl, rfl⟩
                case rest =>
                  obtain ⟨rfl, hwx⟩ := hcut
                  rw [hwx]
                  clear hwx
                  go_upto_if 98 with fail
                  go_cut [18] from 99 to 151 (fun s18 wx => Hid (RdS wx g A c D r9 88 ∧ Mv [g] wr wx))
                  case first =>
                    cases β with
                    | false =>
                      have NX : Hid (RdS w7 g A c D r9 88 ∧ Mv [g] wr w7) := Lib.hid (by
                        have bad : r.code ≠ 0 ∨ D.length < r.at_ + 4 := by
                          have := HB.out
                          by_cases q : r.code ≠ 0 ∨ D.length < r.at_ + 4
                          · exact q
                          · rw [decide_eq_false q] at this; cases this
                        obtain ⟨_, e2⟩ := takeV_nil (A := A) (c := c) bad HAT.out
                        have e2 : (takeR D r 4).1 = [] := e2
                        have e : r9 = (takeR D r 4).2 := by rw [E9.out]; unfold sumR; dsimp only; rw [if_pos e2]
                        rw [e]
                        exact S7.out)
                      clear he EQ
                      go_wp2_with fail
                      go_meet
                      exact NX
                    | true =>
                      obtain ⟨c0, l4⟩ := good_of (n := 4) (fun q => by have := HB.out; rw [decide_eq_true q] at this; cases this)
                      obtain ⟨ad, hA, h2, hb, hc⟩ := takeV_some (n := 3) he.out.rd c0 l4
                      have et : tv = .slice (some (ad.add r.at_)) 4 4 := HTV.out.symm.trans h2
                      have TE := takeR_some (n := 4) c0 l4
                      have T4e : (D.drop r.at_).take 4 = [D.getD r.at_ 0, D.getD (r.at_ + 1) 0, D.getD (r.at_ + 2) 0, D.getD (r.at_ + 3) 0] := take_four l4
                      have CC := hc w7 S7.out.1.dat
                      have cc0 := CC 0 (by omega)
                      have cc1 := CC 1 (by omega)
                      have cc2 := CC 2 (by omega)
                      have cc3 := CC 3 (by omega)
                      rw [Nat.add_zero] at cc0
                      rw [← add_plus, ← add_lit _ 1 (by decide)] at cc1
                      rw [← add_plus, ← add_lit _ 2 (by decide)] at cc2
                      rw [← add_plus, ← add_lit _ 3 (by decide)] at cc3
                      obtain ⟨s, hs⟩ : ∃ s : Nat, sumL (D.take r.at_) = (s : Int) := ⟨(sumL (D.take r.at_)).toNat, by have := sumL_rng (D.take r.at_); omega⟩
                      have s0 : s < 4294967296 := by have := sumL_rng (D.take r.at_); omega
                      have SM := t_sum A c (D.take r.at_) g w7 (sees_take S7.out.1.dat.sees r.at_) (fun b m => RNG.out b (List.mem_of_mem_take m)) (by rw [List.length_take]; omega)
                      rw [hs, List.length_take, Nat.min_eq_left (by omega)] at SM
                      have SM := Lib.hid SM
                      obtain ⟨r8, hr8⟩ : ∃ r8 : RdT, r8 = ⟨r.at_ + 4, 0, r.spot⟩ := ⟨_, rfl⟩
                      have S8 := Lib.hid (show RdS w7 g A c D r8 88 ∧ Mv [g] wr w7 by
                        have := S7.out
                        rw [show ((4 : Nat) : Int) = 4 from rfl] at this TE
                        rw [TE] at this
                        rw [hr8]
                        exact this)
                      have k1 : w7.cell? ⟨g, 1, none⟩ = some (.int .i64 ((r.at_ + 4 : Nat) : Int)) := by have := S8.out.1.box.c 1 _ rfl; rw [hr8] at this; exact this
                      have EQN : Hid (r9 = if [D.getD r.at_ 0, D.getD (r.at_ + 1) 0, D.getD (r.at_ + 2) 0, D.getD (r.at_ + 3) 0] ≠ tail4 (s : Int) then failR r8 300 ((r.at_ : Nat) : Int) else if r.at_ + 4 < D.length then failR r8 300 ((r.at_ + 4 : Nat) : Int) else r8) := Lib.hid (by
                        rw [E9.out, ← hs, hr8]
                        unfold sumR
                        rw [show ((4 : Nat) : Int) = 4 from rfl] at TE
                        rw [TE, T4e]
                        dsimp only
                        rw [if_neg (by simp)])
                      have cap : D.length ≤ c := he.out.rd.dat.cap
                      generalize ad.add r.at_ = aa at *
                      generalize D.getD r.at_ 0 = d0 at *
                      generalize D.getD (r.at_ + 1) 0 = d1 at *
                      generalize D.getD (r.at_ + 2) 0 = d2 at *
                      generalize D.getD (r.at_ + 3) 0 = d3 at *
                      obtain ⟨p4, hp4⟩ : ∃ p4, p4 = r.at_ + 4 := ⟨_, rfl⟩
                      rw [← hp4] at k1 EQN
                      have pl4 : p4 ≤ D.length := by omega
                      have pp4 : p4 = r.at_ + 4 := hp4
                      generalize r.at_ = p at *
                      have FL1 := Lib.hid (t_fail g A D.length c r8 300 p w7 S8.out.1.box)
                      have FL2 := Lib.hid (t_fail g A D.length c r8 300 p4 w7 S8.out.1.box)
                      have pc : p ≤ c := by omega
                      have HPP := Lib.hid pp4
                      subst et
                      clear he EQ hA h2 hb hc TE T4e CC hs hr8 hp4 pp4 l4 c0 S7 HTV HAT HB E9
                      by_cases n0 : d0 = (s : Int) % 256
                      case neg =>
                        have NX : Hid (∀ w9, Bk w9 g (rdV A D.length c (failR r8 300 p)) 88 → Mv [g] w7 w9 → RdS w9 g A c D r9 88 ∧ Mv [g] wr w9) := Lib.hid (fun w9 b m => by
                          have e : r9 = failR r8 300 p := by rw [EQN.out]; exact if_pos (fun z => n0 (by unfold tail4 at z; simp only [List.cons.injEq] at z; exact z.1))
                          rw [e]
                          exact ⟨S8.out.1.nx m b (by rw [fail_at]; exact S8.out.1.at_), S8.out.2.then m⟩)
                        go_wp2_with fail
                        refine SM.out.mono ?_; rintro e w8 ⟨rfl, hw8⟩; subst hw8
                        clear SM
                        go_wp2_with fail
                        refine FL1.out.mono ?_; rintro e w9 ⟨rfl, b9, m9⟩
                        have NX := Lib.hid (NX.out w9 b9 m9)
                        clear FL1 FL2 b9 m9
                        go_wp2_with fail
                        go_meet
                        exact NX
                      by_cases n1 : d1 = (s : Int) / 256 % 256
                      case neg =>
                        have NX : Hid (∀ w9, Bk w9 g (rdV A D.length c (failR r8 300 p)) 88 → Mv [g] w7 w9 → RdS w9 g A c D r9 88 ∧ Mv [g] wr w9) := Lib.hid (fun w9 b m => by
                          have e : r9 = failR r8 300 p := by rw [EQN.out]; exact if_pos (fun z => n1 (by unfold tail4 at z; simp only [List.cons.injEq] at z; exact z.2.1))
                          rw [e]
                          exact ⟨S8.out.1.nx m b (by rw [fail_at]; exact S8.out.1.at_), S8.out.2.then m⟩)
                        go_wp2_with fail
                        refine SM.out.mono ?_; rintro e w8 ⟨rfl, hw8⟩; subst hw8
                        clear SM
                        go_wp2_with fail
                        refine FL1.out.mono ?_; rintro e w9 ⟨rfl, b9, m9⟩
                        have NX := Lib.hid (NX.out w9 b9 m9)
                        clear FL1 FL2 b9 m9
                        go_wp2_with fail
                        go_meet
                        exact NX
                      by_cases n2 : d2 = (s : Int) / 65536 % 256
                      case neg =>
                        have NX : Hid (∀ w9, Bk w9 g (rdV A D.length c (failR r8 300 p)) 88 → Mv [g] w7 w9 → RdS w9 g A c D r9 88 ∧ Mv [g] wr w9) := Lib.hid (fun w9 b m => by
                          have e : r9 = failR r8 300 p := by rw [EQN.out]; exact if_pos (fun z => n2 (by unfold tail4 at z; simp only [List.cons.injEq] at z; exact z.2.2.1))
                          rw [e]
                          exact ⟨S8.out.1.nx m b (by rw [fail_at]; exact S8.out.1.at_), S8.out.2.then m⟩)
                        go_wp2_with fail
                        refine SM.out.mono ?_; rintro e w8 ⟨rfl, hw8⟩; subst hw8
                        clear SM
                        go_wp2_with fail
                        refine FL1.out.mono ?_; rintro e w9 ⟨rfl, b9, m9⟩
                        have NX := Lib.hid (NX.out w9 b9 m9)
                        clear FL1 FL2 b9 m9
                        go_wp2_with fail
                        go_meet
                        exact NX
                      by_cases n3 : d3 = (s : Int) / 16777216
                      case neg =>
                        have NX : Hid (∀ w9, Bk w9 g (rdV A D.length c (failR r8 300 p)) 88 → Mv [g] w7 w9 → RdS w9 g A c D r9 88 ∧ Mv [g] wr w9) := Lib.hid (fun w9 b m => by
                          have e : r9 = failR r8 300 p := by rw [EQN.out]; exact if_pos (fun z => n3 (by unfold tail4 at z; simp only [List.cons.injEq] at z; exact z.2.2.2.1))
                          rw [e]
                          exact ⟨S8.out.1.nx m b (by rw [fail_at]; exact S8.out.1.at_), S8.out.2.then m⟩)
                        go_wp2_with fail
                        refine SM.out.mono ?_; rintro e w8 ⟨rfl, hw8⟩; subst hw8
                        clear SM
                        go_wp2_with fail
                        refine FL1.out.mono ?_; rintro e w9 ⟨rfl, b9, m9⟩
                        have NX := Lib.hid (NX.out w9 b9 m9)
                        clear FL1 FL2 b9 m9
                        go_wp2_with fail
                        go_meet
                        exact NX
                      have TT : [d0, d1, d2, d3] = tail4 (s : Int) := by unfold tail4; rw [← n0, ← n1, ← n2, ← n3]
                      have EQ2 := Lib.hid (EQN.out.trans (if_neg (fun z => z TT)))
                      clear TT EQN
                      by_cases more : p4 < D.length
                      · have more' : (p4 : Int) < (D.length : Int) := by omega
                        have NX : Hid (∀ w9, Bk w9 g (rdV A D.length c (failR r8 300 p4)) 88 → Mv [g] w7 w9 → RdS w9 g A c D r9 88 ∧ Mv [g] wr w9) := Lib.hid (fun w9 b m => by
                          have e : r9 = failR r8 300 p4 := by rw [EQ2.out]; exact if_pos more
                          rw [e]
                          exact ⟨S8.out.1.nx m b (by rw [fail_at]; exact S8.out.1.at_), S8.out.2.then m⟩)
                        clear more
                        go_wp2_with fail
                        refine SM.out.mono ?_; rintro e w8 ⟨rfl, hw8⟩; subst hw8
                        clear SM
                        go_wp2_with fail
                        refine FL2.out.mono ?_; rintro e w9 ⟨rfl, b9, m9⟩
                        have NX := Lib.hid (NX.out w9 b9 m9)
                        clear FL1 FL2 b9 m9
                        go_wp2_with fail
                        go_meet
                        exact NX
                      · have more' : ¬ (p4 : Int) < (D.length : Int) := by omega
                        have NX : Hid (RdS w7 g A c D r9 88 ∧ Mv [g] wr w7) := Lib.hid (by
                          have e : r9 = r8 := by rw [EQ2.out]; exact if_neg more
                          rw [e]
                          exact S8.out)
                        clear more
                        go_wp2_with fail
                        refine SM.out.mono ?_; rintro e w8 ⟨rfl, hw8⟩; subst hw8
                        clear SM
                        go_wp2_with fail
                        go_meet
                        exact NX
                  case rest =>
                    obtain ⟨w8, hw8⟩ : ∃ w8, w8 = wc := ⟨_, rfl⟩
                    rw [← hw8] at hcut ⊢
                    have S9 := Lib.hid hcut.out
                    clear hw8 hcut S7 HTV HAT HB
                    have DE : Hid (decT D = endR wn hn F.1 r9) := Lib.hid (by
                      unfold decT
                      rw [if_neg (by omega)]
                      dsimp only
                      rw [← stR_three, ← HR0.out, E1.out.1, E1.out.2, E2.out.1, E2.out.2, ← E3.out, E4.out.1, E4.out.2, Int.toNat_natCast, ← EF.out, EQ.out]
                      dsimp only
                      rw [← E9.out])
                    have K8 : Bk w8 W.heap.size [.int .i64 0, .int .i64 0] 23 := K2.out.of_eq ((S9.out.2.blk _ (Nat.lt_of_lt_of_le K2.out.lt he.out.mv.size) (by have := HG.out.2.1; simp; omega)).trans (he.out.mv.blk _ K2.out.lt (by have := HG.out.2.1; simp; omega)))
                    have f0 := K8.f 0
                    have f1 := K8.f 1
                    have s0 := K8.c 0 _ rfl
                    have s1 := K8.c 1 _ rfl
                    have BW : Below W.heap.size W w8 := HG.out.2.2.trans (⟨(he.out.mv.then S9.out.2).os, (he.out.mv.then S9.out.2).tape, (he.out.mv.then S9.out.2).output, (he.out.mv.then S9.out.2).size, fun j hj => (he.out.mv.then S9.out.2).blk j (by have := HG.out.2.2.size; omega) (by have := HG.out.2.1; simp; omega)⟩)
                    have HBW := Lib.hid BW
                    have j2 : w8.cell? ⟨g, 2, none⟩ = some (.int .i64 r9.code) := S9.out.1.box.c 2 _ rfl
                    have j3 : w8.cell? ⟨g, 3, none⟩ = some (.int .i64 r9.spot) := S9.out.1.box.c 3 _ rfl
                    by_cases c9 : r9.code = 0
                    case neg =>
                      have b9 : (r9.code == 0) = false := by simpa using c9
                      have EN : Hid (∀ w', Below W.heap.size W w' → DecR W D (.returned (.tuple #[.agg #[.int .i64 0, .int .i64 0], .slice none 0 0, .int .i64 r9.code, .int .i64 r9.spot])) w') := Lib.hid (fun w' b => by
                        have e : decT D = ⟨0, 0, [], r9.code, r9.spot⟩ := by rw [DE.out]; unfold endR; rw [if_pos c9]
                        exact ⟨.slice none 0 0, by rw [e], b, Or.inl ⟨rfl, by rw [e]⟩⟩)
                      clear he EQ K8 BW DE
                      go_upto_region 32 with fail
                      go_region
                      go_wp2_with fail
                      refine bodyPost_ret (v := .tuple #[.agg #[.int .i64 0, .int .i64 0], .slice none 0 0, .int .i64 r9.code, .int .i64 r9.spot]) (by rw [results_c3 rfl]; go_simp) rfl ?_
                      exact EN.out _ (((HBW.out.setCell (p := ⟨W.heap.size, 0, none⟩) (Nat.le_refl _) _).setCell (p := ⟨W.heap.size, 1, none⟩) (Nat.le_refl _) _).drew)
                    case pos =>
                      have b9 : (r9.code == 0) = true := by simpa using c9
                      rw [c9] at j2
                      have OW := own_mvg he.out.own S9.out.2 he.out.rd.box (by decide)
                      have FD : FrsD w8 w8.heap.size A' c' L := own_frsD (by rw [HLL.out] at OW; exact OW) (by have := HLL.out; omega) (fun x m => by
                        obtain ⟨q1, q2, q3, q4⟩ := he.out.ok x m
                        exact ⟨(q1.below (S9.out.2.under (Nat.le_of_lt he.out.rd.box.lt)) (Nat.le_refl _)).more (Nat.le_of_lt S9.out.1.box.lt), by omega, by omega⟩)
                      have OKL := fun x m => (he.out.ok x m).2
                      have CP := t_copied w8.heap.size (.slice none 0 0) [] A' c' L w8.heap.size 0 w8 ⟨rfl, Or.inl ⟨rfl, rfl⟩⟩ (Nat.le_refl _) FD (Nat.le_refl _) (by rw [← HLL.out]; omega) (fun x m => (OKL x m).1) (fun x m => (OKL x m).2) ⟨by decide, by decide⟩ (by decide)
                      rw [← HLL.out] at CP
                      have CP := Lib.hid CP
                      have EN : Hid (∀ (v' : Value) (g' : Nat) (w9 : World), CopAt w8.heap.size w8 g' (flatB L).length [] 0 L v' w9 → DecR W D (.returned (.tuple #[.agg #[.int .i64 (wn : Int), .int .i64 (hn : Int)], v', .int .i64 0, .int .i64 0])) ((w9.setCell ⟨W.heap.size, 0, none⟩ (.int .i64 (wn : Int))).setCell ⟨W.heap.size, 1, none⟩ (.int .i64 (hn : Int)))) := Lib.hid (fun v' g' w9 C => by
                        have e : decT D = ⟨wn, hn, frms L, 0, 0⟩ := by rw [DE.out, EQ.out]; unfold endR; rw [if_neg (by simp [c9])]
                        have lt8 : W.heap.size < w8.heap.size := K8.lt
                        have far : ∀ j, j ≠ W.heap.size → ((w9.setCell ⟨W.heap.size, 0, none⟩ (.int .i64 (wn : Int))).setCell ⟨W.heap.size, 1, none⟩ (.int .i64 (hn : Int))).heap[j]? = w9.heap[j]? := fun j ne => (heap_setCell_other _ _ _ _ ne).trans (heap_setCell_other _ _ _ _ ne)
                        refine ⟨v', by rw [e], ((HBW.out.trans (C.bel.mono (Nat.le_of_lt lt8))).setCell (p := ⟨W.heap.size, 0, none⟩) (Nat.le_refl _) _).setCell (p := ⟨W.heap.size, 1, none⟩) (Nat.le_refl _) _, Or.inr ⟨g', L, by have := C.gn; omega, ?_, C.row.keep (far g' (by have := C.gn; omega)), by rw [e], fun x m => ⟨(he.out.ok x m).1.rng, OKL x m⟩⟩⟩
                        have o := C.own
                        rw [List.nil_append] at o
                        exact own_low (own_farB o lt8 far) (Nat.le_of_lt lt8))
                      have FZ : Hid (∀ w9 : World, Below w8.heap.size w8 w9 → Bk w9 W.heap.size [.int .i64 0, .int .i64 0] 23) := Lib.hid (fun w9 b => K8.of_eq (b.block _ K8.lt))
                      clear he EQ K8 BW DE OW FD OKL
                      go_wp2_with fail
                      refine CP.out.mono ?_; rintro e w9 ⟨v', g', rfl, C⟩
                      have K9 := FZ.out w9 C.bel
                      have f0 := K9.f 0
                      have f1 := K9.f 1
                      have s0 := K9.c 0 _ rfl
                      have s1 := K9.c 1 _ rfl
                      have EN := Lib.hid (EN.out v' g' w9 C)
                      clear CP C K9
                      go_wp2_with fail
                      refine bodyPost_ret (v := .tuple #[.agg #[.int .i64 (wn : Int), .int .i64 (hn : Int)], v', .int .i64 0, .int .i64 0]) (by rw [results_c3 rfl]; go_simp) rfl ?_
                      exact EN.out
end
end Go.Proofs.YtmaofighbpnbiaaGreatDoor
