/- The document's writer between two units of a frame (memory and plain law). -/
import Derived.Test.YtifoijbpbigaaaaGreatDoorFRcC
import Derived.Test.YtifoijbpbigaaaaGreatDoorDaFH
import Derived.Test.YtifoijbpbigaaaaGreatDoorDaFI
set_option linter.unusedVariables false
set_option linter.unusedSimpArgs false
namespace Go.Proofs.YtifoijbpbigaaaaGreatDoor
section
open Go Go.RowKit Go.Sort
section
def TR0 (W : World) (A : Option Addr) (L : List Cel) : Prop := L ≠ [] -> TRow W A L
theorem TR0.stay {W W' : World} {A : Option Addr} {L : List Cel} (h : TR0 W A L) (k : KeepT W W') : TR0 W' A L := fun ne => (h ne).stay k
theorem TR0.below {W W' : World} {A : Option Addr} {L : List Cel} (h : TR0 W A L) (hb : Below W.heap.size W W') : TR0 W' A L := h.stay (KeepT.below hb)
theorem TR0.sees {W : World} {A : Option Addr} {L : List Cel} (h : TR0 W A L) : Sees W W.heap.size A (zc L) := fun ne => (h (fun z => ne (by rw [z]; rfl))).sees ne
theorem TR0.of_own {W : World} {base n c : Nat} {A : Option Addr} {L : List Cel} (h : W.ownsRow base 58 5 (.slice A n c) n (zc L)) : TR0 W A L := fun ne => by
 have hl := h.1
 rw [jo] at hl
 rcases h.2 with ⟨e, z⟩ | ⟨g, cap, cur, e, _, hg, _⟩
 ·rw [z] at hl
  exact absurd (List.eq_nil_of_length_eq_zero (by omega)) ne
 ·injection e with e1
  subst e1
  refine ⟨g, cur, (0, 0), rfl, hg, fun _ => ⟨_, rfl, (Array.getElem?_eq_some_iff.1 hg).1, fun j u hj => h.cells (g := g) rfl j u hj⟩⟩
theorem Zc {W W' : World} {b : Nat} {vs : List Value} {T : TypeId} (o : Own1 W b vs T) (ne : T ≠ 58) (g : W.grownBy W' (some b)) : KeepT W W' :=
 KeepT.grown g (fun b' e arr fl hk => by
  cases e
  unfold Own1 at o
  rw [o] at hk
  cases hk
  exact ne rfl)
def rfx (x : Wri) (LA : Option Addr) (Lc : Nat) : Rfx := ⟨x.depth, x.told, x.last.w, x.last.h, LA, x.last.cells.length, Lc, x.last.x, x.last.y, x.last.shown⟩
structure RfAt (w : World) (b : Nat) (x : Wri) (LA : Option Addr) (Lc : Nat) : Prop where
 own : Own1 w b (refV (rfx x LA Lc) x.tel x.shown) 93
 last : x.told = true -> zi x.last = true /\ TR0 w LA x.last.cells
 col : zh x.tel.st.fg /\ zh x.tel.st.bg
 tx : 0 <= x.tel.x /\ x.tel.x <= 5000
 tt : x.tel.text.size <= 400000000000
structure RSt (P : Rfx) (b r : Nat) (R : Scr) (A : Option Addr) (cp : Nat) (K : List Cel) (old : Bool) (W0 : World) (t : Tel) (sh : Bool) (W : World) : Prop where
 wr : Own1 W b (refV P t sh) 93
 sc : Own1 W r [.int .i64 R.w, .int .i64 R.h, .slice A R.cells.length cp, .int .i64 R.x, .int .i64 R.y, .bool R.shown] 24
 row : TR0 W A R.cells
 kr : old = true -> TR0 W P.LA K
 gr : W0.grownBy W (some b)
 ne : r ≠ b
theorem RSt.turn {P : Rfx} {b r : Nat} {R : Scr} {A : Option Addr} {cp : Nat} {K : List Cel} {old : Bool} {W0 W W' : World} {t t' : Tel} {sh sh' : Bool} (h : RSt P b r R A cp K old W0 t sh W) (o : Own1 W' b (refV P t' sh') 93) (g : W.grownBy W' (some b)) : RSt P b r R A cp K old W0 t' sh' W' :=
 ⟨o, h.sc.of_grown g (fun e => by injection e with e; exact h.ne e), h.row.stay (Zc h.wr (by decide) g), fun z => (h.kr z).stay (Zc h.wr (by decide) g), qn h.gr g, h.ne⟩
theorem RSt.step {P : Rfx} {b r : Nat} {R : Scr} {A : Option Addr} {cp : Nat} {K : List Cel} {old : Bool} {W0 W : World} {t : Tel} (t' : Tel) {sh : Bool} (sh' : Bool) (h : RSt P b r R A cp K old W0 t sh W) (k : Nat) (v : Value) (e : (refV P t sh).set k v = refV P t' sh') : RSt P b r R A cp K old W0 t' sh' (W.setCell ⟨b, k, none⟩ v) :=
 h.turn (by rw [<- e]; exact h.wr.set k v) (zA W ⟨b, k, none⟩ v)
theorem RSt.below {P : Rfx} {b r : Nat} {R : Scr} {A : Option Addr} {cp : Nat} {K : List Cel} {old : Bool} {W0 W W' : World} {t : Tel} {sh : Bool} (h : RSt P b r R A cp K old W0 t sh W) (hb : Below W.heap.size W W') : RSt P b r R A cp K old W0 t sh W' :=
 h.turn (h.wr.below hb) (qU hb _)
theorem RSt.tell {P : Rfx} {b r : Nat} {R : Scr} {A : Option Addr} {cp : Nat} {K : List Cel} {old : Bool} {W0 W : World} {t : Tel} {sh : Bool} (h : RSt P b r R A cp K old W0 t sh W) (s : ByteArray) (hs : t.out.size + s.size <= 100000000000000) :
  Calls Tryz.prog 52 #[.pointer (some ⟨b, 0, none⟩), .string s] W fun e w' => (∃ v, e = .returned v) /\ RSt P b r R A cp K old W0 (qo t s) sh w' :=
 (Zb P t sh b s W h.wr hs).mono fun e w' ⟨a, o, g⟩ => ⟨a, h.turn o g⟩
theorem Js {c : Int} (h : qm c) : zh c := by
 unfold qm at h
 unfold zh
 omega
theorem Jt (s : Sty) (d : Int) : zh (zL s d).fg /\ zh (zL s d).bg := by
 have e := vk s d
 have e1 : plC (zL s d).fg = (zL s d).fg := congrArg Sty.fg e
 have e2 : plC (zL s d).bg = (zL s d).bg := congrArg Sty.bg e
 rw [<- e1, <- e2]
 exact ⟨Js (qA _), Js (qA _)⟩
theorem red_ok {L : List Cel} (h : ∀ x ∈ L, okR x) (d : Int) : ∀ x ∈ redL L d, okR x := fun x hx => by
 obtain ⟨y, hy, rfl⟩ := List.mem_map.1 hx
 have o := h y hy
 exact ⟨o.sz, o.w0, o.w1, (Jt y.st d).1, (Jt y.st d).2⟩
structure Bnd (L : List Cel) (i : Nat) (t : Tel) : Prop where
 out : t.out.size + 700 * (L.length - i) + totS (L.drop i) <= 3000000000
 tt : t.text.size <= 400000000000
 col : zh t.st.fg /\ zh t.st.bg
 tx : 0 <= t.x /\ t.x <= 5000
theorem Ju (L : List Cel) (i n : Nat) : totS (L.drop (i + n)) <= totS (L.drop i) := by
 rw [<- List.drop_drop]
 generalize L.drop i = M
 induction n generalizing M with
 | zero => exact Vf
 | succ n ih =>
  cases M with
  | nil => simp [totS]
  | cons a M =>
   rw [List.drop_succ_cons, xw]
   have := ih M
   omega
theorem Bnd.skip {L : List Cel} {i : Nat} {t : Tel} (h : Bnd L i t) (n : Nat) : Bnd L (i + n) t := by
 refine ⟨?_, h.tt, h.col, h.tx⟩
 have := Ju L i n
 have := h.out
 omega
theorem Bnd.unit {L : List Cel} {i : Nat} {t : Tel} (h : Bnd L i t) (hi : i < L.length) (n : Nat) (n1 : 1 <= n) (n2 : n <= 2) (W : Int) (w0 : 1 <= W) (w1 : W <= 4096) (hN : i <= 2000000) (ok : okR L[i]) (hs : totS L <= 1000000000) : Bnd L (i + n) (zN W t i n L[i]) := by
 have o := QV W t i n L[i] w0 w1 hN
 have e1 : totS (L.drop i) = L[i].text.size + totS (L.drop (i + 1)) := by rw [List.drop_eq_getElem_cons hi, xw]
 have e2 : totS (L.drop (i + n)) <= totS (L.drop (i + 1)) := by
  have := Ju L (i + 1) (n - 1)
  rw [show i + 1 + (n - 1) = i + n by omega] at this
  exact this
 have e3 := h.out
 have m := vK (List.getElem_mem hi)
 refine ⟨by omega, ?_, ⟨ok.fg, ok.bg⟩, ?_⟩
 ·show L[i].text.size <= _
  omega
 ·rw [QU]
  have a := Int.emod_nonneg (i : Int) (show W ≠ 0 by omega)
  have b := Int.emod_lt_of_pos (i : Int) (show 0 < W by omega)
  omega
theorem KD {W : Int} {K L : List Cel} {t M : Tel} {i : Nat} (h : zV W L t (zg i (K.drop i) (L.drop i)) = M) (hl : K.length = L.length) (hi : i < L.length) (hr : rowR (L.drop i) = true) :
  ((L[i]).wide = 2 /\ ∃ h2 : i + 1 < L.length, rowR (L.drop (i + 2)) = true /\
   zV W L (if K[i]'(by omega) = L[i] /\ K[i + 1]'(by omega) = L[i + 1] then t else zN W t i 2 L[i]) (zg (i + 2) (K.drop (i + 2)) (L.drop (i + 2))) = M) \/
  ((L[i]).wide = 1 /\ rowR (L.drop (i + 1)) = true /\ zV W L (if K[i]'(by omega) = L[i] then t else zN W t i 1 L[i]) (zg (i + 1) (K.drop (i + 1)) (L.drop (i + 1))) = M) := by
 have gd : L.getD i celD = L[i] := by rw [List.getD_eq_getElem?_getD, List.getElem?_eq_getElem hi]; rfl
 rcases Kc hl hi hr with ⟨e, h2, a, c⟩ | ⟨e, a, c⟩
 ·refine Or.inl ⟨e, h2, c, ?_⟩
  rw [a] at h
  by_cases z : K[i]'(by omega) = L[i] /\ K[i + 1]'(by omega) = L[i + 1]
  ·rw [if_pos z] at h ⊢
   exact h
  ·rw [if_neg z] at h ⊢
   rw [List.cons_append, List.nil_append, vN, gd] at h
   exact h
 ·refine Or.inr ⟨e, c, ?_⟩
  rw [a] at h
  by_cases z : K[i]'(by omega) = L[i]
  ·rw [if_pos z] at h ⊢
   exact h
  ·rw [if_neg z] at h ⊢
   rw [List.cons_append, List.nil_append, vN, gd] at h
   exact h
theorem row_in {s : Scr} (h : zi s = true) {y x : Nat} (hy : y < s.h.toNat) (hx : x < s.w.toNat) (hr : rowR ((zG s y).drop x) = true) : ∃ hi : y * s.w.toNat + x < s.cells.length,
  ((s.cells[y * s.w.toNat + x]).wide = 2 /\ x + 2 <= s.w.toNat /\ rowR ((zG s y).drop (x + 2)) = true) \/ ((s.cells[y * s.w.toNat + x]).wide = 1 /\ rowR ((zG s y).drop (x + 1)) = true) := by
 obtain ⟨r1, r2, r3, r4⟩ := z7 h
 have sz := qZ r1
 have hh : s.cells.length = s.h.toNat * s.w.toNat := by
  have e1 : ((s.h.toNat : Nat) : Int) = s.h := by omega
  have e2 : ((s.w.toNat : Nat) : Int) = s.w := by omega
  have : (s.cells.length : Int) = ((s.h.toNat * s.w.toNat : Nat) : Int) := by rw [r2, Int.natCast_mul, e1, e2, Int.mul_comm]
  exact Int.ofNat.inj this
 have le : (y + 1) * s.w.toNat <= s.h.toNat * s.w.toNat := Nat.mul_le_mul_right _ (by omega)
 rw [Nat.add_mul, Nat.one_mul] at le
 have hi : y * s.w.toNat + x < s.cells.length := by omega
 refine ⟨hi, ?_⟩
 have rl : (zG s y).length = s.w.toNat := by
  unfold zG
  rw [List.length_take, List.length_drop]
  omega
 have xr : x < (zG s y).length := by omega
 have ge : (zG s y)[x] = s.cells[y * s.w.toNat + x] := by
  simp [zG, List.getElem_take, List.getElem_drop]
 rw [List.drop_eq_getElem_cons xr] at hr
 rcases vj hr with ⟨e, b, r, eb, _, hr2⟩ | ⟨e, hr2⟩
 ·have h2 : x + 1 < (zG s y).length := by
   have := congrArg List.length eb
   rw [List.length_drop, List.length_cons] at this
   omega
  rw [List.drop_eq_getElem_cons h2] at eb
  injection eb with eb1 eb2
  exact Or.inl ⟨by rw [<- ge]; exact e, by omega, by rw [show x + 2 = x + 1 + 1 from rfl, eb2]; exact hr2⟩
 ·exact Or.inr ⟨by rw [<- ge]; exact e, hr2⟩
end
end
end Go.Proofs.YtifoijbpbigaaaaGreatDoor
