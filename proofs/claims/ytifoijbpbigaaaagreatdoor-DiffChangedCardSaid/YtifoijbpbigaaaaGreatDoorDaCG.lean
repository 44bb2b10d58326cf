/- What lies below tapes (kept of earlier texts: DgTn, DgUc, RaO, RaQ, RaR, RaS, RaT, RaU, RaV). -/
import Derived.Test.YtifoijbpbigaaaaGreatDoorDaCF
import Derived.Lib.ItoaLen
import Derived.LoopTactic
import Derived.RangeFuncBox
set_option linter.unusedVariables false
set_option linter.unusedSimpArgs false
namespace Go.Proofs.YtifoijbpbigaaaaGreatDoor
section
open Go.RowKit Go.Sort
structure EnvD (w : World) : Prop where
 st : EnvS w
 tab : Lib.TabIs Tryz.prog w "internal/strconv.uint64pow10" .u64 Lib.pow10Tab
 pg : 2 < w.heap.size
theorem EnvD.of_below {B : Nat} {w w' : World} (h : EnvD w) (hb : Below B w w') (hB : w.heap.size <= B) : EnvD w' where
 st := h.st.of_below hb hB
 tab := var?_below (g := 2) hb (by kernel_rfl) (Nat.lt_of_lt_of_le h.pg hB) h.tab
 pg := Nat.lt_of_lt_of_le h.pg hb.size
theorem kJ (n : Int) (h0 : -1000000000 <= n) (h1 : n <= 1000000000) (w : World) (E : EnvD w) : Calls Tryz.prog 47 #[.int .i64 n] w fun e w' => e = .returned (.string (itB n)) /\ Below w.heap.size w w' := by
 refine (Tryz.strconv_Itoa n (by omega) (by omega) w E.tab).mono ?_
 rintro e w' ⟨rfl, k, os, rfl⟩
 exact ⟨rfl, Lib.below_grow _ _ Xm _ _⟩
theorem jX (n : Int) (h0 : -1000000000 <= n) (h1 : n <= 1000000000) : (itB n).size <= 21 := by
 have := Lib.itoa_length_le n (by omega) (by omega)
 show (Lib.itoa n).toArray.size <= 21
 rwa [List.size_toArray]
theorem kK (f t : Sty) : ∀ n ∈ qn f t, 0 <= n /\ n < 1000 := by
 intro n hn
 unfold qn at hn
 split at hn
 ·cases hn
 ·have a := jh t.fg
  have b := jh t.bg
  try simp only at hn
  split at hn
  ·exact vV _ a b n hn
  ·exact vU _ _ a b n hn
theorem ZO (l : List Int) (n : Int) : qc (l ++ [n]) = (if qc l = zB then qc l else qc l ++ ⟨#[59]⟩) ++ itB n := by
 unfold qc
 rw [List.foldl_append]
 rfl
theorem ZP (L : List Int) (h : ∀ n ∈ L, 0 <= n /\ n < 1000) : ∀ k, k <= L.length -> (qc (L.take k)).size <= 22 * k := by
 intro k
 induction k with
 | zero => intro _; simp [qc, zB, ByteArray.size]
 | succ k ih =>
  intro hk
  rw [List.take_succ_eq_append_getElem (show k < L.length by omega), ZO]
  have b := h L[k] (List.getElem_mem _)
  have i := jX L[k] (by omega) (by omega)
  have ih := ih (by omega)
  rw [ByteArray.size_append]
  split
  ·omega
  ·rw [ByteArray.size_append]
   have : (⟨#[59]⟩ : ByteArray).size = 1 := rfl
   omega
theorem ZQ (s : ByteArray) : s.toList = [] ↔ s = zB := by
 rw [ByteArray.toList_eq]
 constructor
 ·intro h
  apply ByteArray.ext
  rw [<- Array.toList_inj, h]
  rfl
 ·intro h; rw [h]; rfl
theorem xk {s : ByteArray} (h : s = zB) : s.toList.isEmpty = true := by rw [(ZQ s).2 h]; rfl
theorem xm {s : ByteArray} (h : ¬ s = zB) : s.toList.isEmpty = false := by
 cases e : s.toList.isEmpty with
 | false => rfl
 | true => exact absurd ((ZQ s).1 (List.isEmpty_iff.1 e)) h
set_option maxHeartbeats 16000000 in
set_option maxRecDepth 100000 in
theorem d_turned (f t : Sty) (w : World) (E : EnvD w) : Calls Tryz.prog 50 #[styV f.fg f.bg f.at_, styV t.fg t.bg t.at_] w fun e w' => e = .returned (.string (qw f t)) /\ Below w.heap.size w w' := by
 have PR := Xk (kK f t)
 have SL := Xk (ZP (qn f t) (kK f t))
 have PL := vT f t
 have TB : Hid (qw f t = if qc (qn f t) = zB then zB else (⟨#[27, 91]⟩ ++ qc (qn f t)) ++ ⟨#[109]⟩) := Xk rfl
 have PA := Xk (fun W hE => Jv f t W hE)
 have EH := Xk E
 generalize qw f t = R at *
 generalize qn f t = L at *
 clear E
 go_enter Tryz.func50, Tryz.ntmps50
 go_wp2_with fail
 have E2 := Xk (EH.out.of_below (show Below w.heap.size w ((w.alloc (.cells #[.int .i32 f.fg, .int .i32 f.bg, .int .u8 (bI f.at_)] 56)).alloc (.cells #[.int .i32 t.fg, .int .i32 t.bg, .int .u8 (bI t.at_)] 56)) from ((Below.refl _ _).alloc Xm _).alloc (by simp) _) Xm)
 refine (PA.out _ E2.out.st).mono ?_; rintro e w1 ⟨v, rfl, ho, hb⟩
 obtain ⟨A, c, rfl⟩ := jb ho
 have S1 := Xk (Sees.of_own ho)
 have B1 := Xk (show Below w.heap.size w w1 from zk (by go_grown) (by simp; omega) hb)
 have E3 := Xk (E2.out.of_below hb Xm)
 obtain ⟨n, hn⟩ : ∃ n, n = L.length := ⟨_, rfl⟩
 rw [<- hn] at PL ⊢
 have HN := Xk hn
 clear ho hb hn E2
 go_wp2_with fail
 go_loopw [5, 12] (fun s i wr => ∃ (k : Nat) (S : ByteArray), k <= n /\ i = .int .i64 k /\ s = .string S /\ Hid (S = qc (L.take k)) /\ S.size <= 22 * k /\ Hid (Below w1.heap.size w1 wr)) (fun _ i _ => n - (intOf i).toNat)
 case atStart => exact ⟨0, zB, Nat.zero_le _, rfl, rfl, Xk rfl, by decide, Xk (Below.refl _ _)⟩
 case round =>
  obtain ⟨k, S, hk, rfl, rfl, hS, hsz, hb⟩ := hrel
  by_cases lt : k < n
  ·have kl : k < L.length := by rw [<- HN.out]; exact lt
   obtain ⟨ad, rfl, ab, ac⟩ := S1.out.at (k := k) (by simpa [ints] using kl)
   have ac : w1.cell? (ad.add k) = some (.int .i64 L[k]) := by simpa [ints] using ac
   have ac := (hb.out.cell (p := ad.add k) (by rw [zg]; exact ab)).trans ac
   have rg := PR.out L[k] (List.getElem_mem _)
   have NX : Hid (qc (L.take (k + 1)) = (if S = zB then S else S ++ ⟨#[59]⟩) ++ itB L[k]) := Xk (by
    rw [List.take_succ_eq_append_getElem kl, ZO, <- hS.out])
   have IS := jX L[k] (by omega) (by omega)
   have NS : Hid ((qc (L.take (k + 1))).size <= 22 * (k + 1)) := Xk (SL.out (k + 1) (by omega))
   have IT := Xk (fun W hW => kJ L[k] (by omega) (by omega) W hW)
   generalize L[k] = x at *
   by_cases z : S = zB
   ·have NX : Hid (qc (L.take (k + 1)) = S ++ itB x) := Xk (by rw [NX.out, if_pos z])
    have z1 := xk z
    have HZ := Xk z
    clear z
    have nov : (9223372036854775807 < S.size + (itB x).size) = False := eq_false (by omega)
    go_wp2_with fail
    refine (IT.out _ (E3.out.of_below hb.out Xm)).mono ?_; rintro e w2 ⟨rfl, hb2⟩
    have B2 := Xk (zk hb.out hb.out.size hb2)
    clear hb2 hb
    go_wp2_with fail
    go_roundw
    case rel => exact ⟨k + 1, _, by omega, by go_num, rfl, Xk NX.out.symm, by rw [<- NX.out]; exact NS.out, B2⟩
    case measure => simp [intOf]; omega
   ·have NX : Hid (qc (L.take (k + 1)) = (S ++ ⟨#[59]⟩) ++ itB x) := Xk (by rw [NX.out, if_neg z])
    have z1 := xm z
    have HZ := Xk z
    clear z
    have s1 : (⟨#[59]⟩ : ByteArray).size = 1 := rfl
    have nov : (9223372036854775807 < S.size + (⟨#[59]⟩ : ByteArray).size) = False := eq_false (by omega)
    have nov2 : (9223372036854775807 < (S ++ ⟨#[59]⟩).size + (itB x).size) = False := eq_false (by rw [ByteArray.size_append]; omega)
    clear s1
    go_wp2_with fail
    refine (IT.out _ (E3.out.of_below hb.out Xm)).mono ?_; rintro e w2 ⟨rfl, hb2⟩
    have B2 := Xk (zk hb.out hb.out.size hb2)
    clear hb2 hb
    go_wp2_with fail
    go_roundw
    case rel => exact ⟨k + 1, _, by omega, by go_num, rfl, Xk NX.out.symm, by rw [<- NX.out]; exact NS.out, B2⟩
    case measure => simp [intOf]; omega
  ·have e : k = n := by omega
   subst e
   have e2 : L.take k = L := List.take_of_length_le (by rw [<- HN.out]; exact Xm)
   rw [e2] at hS
   have BB := Xk (B1.out.trans (hb.out.mono B1.out.size))
   by_cases z : S = zB
   ·have R1 : Hid (R = S) := Xk (by rw [TB.out, <- hS.out, if_pos z]; exact z.symm)
    have z1 := xk z
    have HZ := Xk z
    clear z hS hb e2
    go_wp2_with fail
    go_ret
    exact ⟨by rw [R1.out, HZ.out]; rfl, BB.out⟩
   ·have R1 : Hid (R = (⟨#[27, 91]⟩ ++ S) ++ ⟨#[109]⟩) := Xk (by rw [TB.out, <- hS.out, if_neg z])
    have z1 := xm z
    have HZ := Xk z
    clear z hS hb e2
    have s1 : (⟨#[27, 91]⟩ : ByteArray).size = 2 := rfl
    have s2 : (⟨#[109]⟩ : ByteArray).size = 1 := rfl
    have nov : (9223372036854775807 < (⟨#[27, 91]⟩ : ByteArray).size + S.size) = False := eq_false (by omega)
    have nov2 : (9223372036854775807 < (⟨#[27, 91]⟩ ++ S).size + (⟨#[109]⟩ : ByteArray).size) = False := eq_false (by rw [ByteArray.size_append]; omega)
    clear s1 s2
    go_wp2_with fail
    go_ret
    exact ⟨by rw [R1.out]; rfl, BB.out⟩
end
section
open Go.RowKit Go.Sort
structure Blk (w : World) (b : Nat) (vs : List Value) : Prop where
 c : ∀ i v, vs[i]? = some v -> w.cell? ⟨b, i, none⟩ = some v
 f : ∀ i v, vs[i]? = some v -> w.frozen? ⟨b, i, none⟩ = false
theorem Blk.lt {w : World} {b : Nat} {v : Value} {vs : List Value} (h : Blk w b (v :: vs)) : b < w.heap.size := block_lt_of_cell (h.c 0 v rfl)
theorem Blk.keep {w w' : World} {B b : Nat} {vs : List Value} (h : Blk w b vs) (hb : Below B w w') (hB : b < B) : Blk w' b vs :=
 ⟨fun i v hv => (hb.cell (p := ⟨b, i, none⟩) hB).trans (h.c i v hv), fun i v hv => (hb.frozen (p := ⟨b, i, none⟩) hB).trans (h.f i v hv)⟩
theorem Blk.new (w : World) (vs : List Value) (T : TypeId) : Blk (w.alloc (.cells vs.toArray T)) w.heap.size vs :=
 ⟨fun i v hv => (z7 w vs T i v hv).1, fun i v hv => (z7 w vs T i v hv).2⟩
theorem Blk.far {w : World} {b b' o : Nat} {vs : List Value} {y : Value} (h : Blk w b vs) (n : b ≠ b') : Blk (w.setCell ⟨b', o, none⟩ y) b vs :=
 ⟨fun i v hv => by have := h.c i v hv; simp [go_sem, *], fun i v hv => by have := h.f i v hv; simp [go_sem, *]⟩
theorem Blk.set {w : World} {b : Nat} {vs : List Value} (h : Blk w b vs) (i : Nat) (y x : Value) (hi : vs[i]? = some x) : Blk (w.setCell ⟨b, i, none⟩ y) b (vs.set i y) := by
 have ci := h.c i x hi
 have fi := h.f i x hi
 refine ⟨fun j v hv => ?_, fun j v hv => ?_⟩
 ·rw [List.getElem?_set] at hv
  by_cases e : i = j
  ·subst e
   rw [if_pos rfl] at hv
   split at hv
   ·cases hv; simp [go_sem, *]
   ·cases hv
  ·rw [if_neg e] at hv
   have := h.c j v hv
   have e2 : j ≠ i := fun z => e z.symm
   simp [go_sem, *]
 ·rw [List.getElem?_set] at hv
  by_cases e : i = j
  ·subst e
   simp [go_sem, *]
  ·rw [if_neg e] at hv
   have := h.f j v hv
   simp [go_sem, *]
theorem Blk.alloc {w : World} {b : Nat} {v : Value} {vs : List Value} (h : Blk w b (v :: vs)) (o : Obj) : Blk (w.alloc o) b (v :: vs) := h.keep ((Below.refl w.heap.size w).alloc Xm o) h.lt
theorem Blk.regrown {w : World} {b : Nat} {v : Value} {vs : List Value} (h : Blk w b (v :: vs)) (d : Nat) (os : Array Obj) : Blk (grow (redrawn w d) os) b (v :: vs) := h.keep (below_regrown w d os) h.lt
theorem qe (w : World) (a : Addr) (u : Value) : w.grownBy (w.setCell a u) (some a.block) :=
 ⟨rfl, rfl, rfl, by simp, fun k _ hk => heap_setCell_other w a k u (fun e => hk (by simp [e]))⟩
end
section
open Go.RowKit Go.Sort
def wriV (d : Int) (told : Bool) (W H : Int) (A : Option Addr) (n c : Nat) (X Y : Int) (sh : Bool) (t : Tel) (shn : Bool) : List Value :=
 [.int .i64 d, .bool told, .int .i64 W, .int .i64 H, .slice A n c, .int .i64 X, .int .i64 Y, .bool sh, .bool t.place, .int .i64 t.x, .int .i64 t.y, .int .i32 t.st.fg, .int .i32 t.st.bg, .int .u8 (bI t.st.at_), .bool shn, .string t.text]
def tel0 : Tel := ⟨false, 0, 0, z8, zB, zB⟩
def okD (d : Int) : Bool := decide (0 <= d) && decide (d <= 3)
set_option maxHeartbeats 4000000 in
theorem d_New (d : Int) (h : okD d = true) (w : World) : Calls Tryz.prog 26 #[.int .i64 d] w fun e w' => e = .returned (.tuple #[.pointer (some ⟨w.heap.size, 0, none⟩), .int .i64 0]) /\ w' = w.alloc (.cells (wriV d false 0 0 none 0 0 0 0 false tel0 false).toArray 86) := by
 have h : 0 <= d /\ d <= 3 := by
  unfold okD at h
  simp only [Bool.and_eq_true, decide_eq_true_eq] at h
  exact h
 obtain ⟨h0, h1⟩ := h
 go_enter Tryz.func26, Tryz.ntmps26
 go_wp2_with fail
 go_ret2
 exact ⟨rfl, rfl⟩
theorem infoL : (Tryz.prog.info? 58).map (fun i => (i.zero, i.size, i.bytes)) = some (some (.agg #[.string ⟨#[]⟩, .int .i8 0, .int .i32 0, .int .i32 0, .int .u8 0]), 5, 32) := by kernel_rfl
theorem set5 (xs : List Value) (p : Nat) (v0 v1 v2 v3 v4 : Value) (h : p + 5 <= xs.length) : (((((xs.set p v0).set (p + 1) v1).set (p + 2) v2).set (p + 3) v3).set (p + 4) v4).take (p + 5) = xs.take p ++ [v0, v1, v2, v3, v4] := by
 refine List.ext_getElem (by simp; omega) fun i h1 h2 => ?_
 simp only [List.length_take, List.length_set] at h1
 rw [List.getElem_take]
 simp only [List.getElem_set]
 by_cases c : i < p
 ·rw [List.getElem_append_left (by simp; omega), List.getElem_take]
  repeat rw [if_neg (by omega)]
 ·rw [List.getElem_append_right (by simp; omega)]
  have l : (xs.take p).length = p := by simp; omega
  have : i = p \/ i = p + 1 \/ i = p + 2 \/ i = p + 3 \/ i = p + 4 := by omega
  simp only [l]
  rcases this with rfl | rfl | rfl | rfl | rfl
  ·simp
  ·simp
  ·simp
  ·simp
  ·simp
theorem jc {w : World} {B : Nat} {A : Option Addr} {L : List Cel} (h : Sees w B A (zc L)) (k : Nat) (hk : k < L.length) : ∃ ad, A = some ad /\ ad.block < B /\ w.cell? (ad.add (k * 5)) = some (.string (L[k]).text) /\ w.cell? ⟨(ad.add (k * 5)).block, (ad.add (k * 5)).off + 1, none⟩ = some (.int .i8 (L[k]).wide) /\ w.cell? ⟨(ad.add (k * 5)).block, (ad.add (k * 5)).off + 2, none⟩ = some (.int .i32 (L[k]).st.fg) /\ w.cell? ⟨(ad.add (k * 5)).block, (ad.add (k * 5)).off + 3, none⟩ = some (.int .i32 (L[k]).st.bg) /\ w.cell? ⟨(ad.add (k * 5)).block, (ad.add (k * 5)).off + 4, none⟩ = some (.int .u8 (bI (L[k]).st.at_)) := by
 obtain ⟨ad, e, hb, _⟩ := h (fun e => by have := qL L; rw [e] at this; simp at this; omega)
 subst e
 have S := h.dropV (k * 5)
 rw [<- xI, List.drop_eq_getElem_cons hk] at S
 obtain ⟨ad', e, h1, h2, h3, h4, h5, h6⟩ := kE S
 cases e
 exact ⟨ad, rfl, hb, h2, h3, h4, h5, h6⟩
def zS : List Value := [.int .i64 0, .int .i64 0, .slice none 0 0, .int .i64 0, .int .i64 0, .bool false]
theorem ZR {w w' : World} {base sz : Nat} {T : TypeId} {v : Value} {n : Nat} {xs : List Value} (h : w.ownsRow base T sz v n xs) (hb : Below w.heap.size w w') : w'.ownsRow base T sz v n xs :=
 h.kept (row := none) ⟨hb.os, hb.tape, hb.output, hb.size, fun k hk _ => hb.block k hk⟩ (by cases v.ownBlock <;> simp)
theorem xQ {w : World} {base sz : Nat} {T : TypeId} {g n c b o : Nat} {xs : List Value} {y : Value} (h : w.ownsRow base T sz (.slice (some ⟨g, 0, none⟩) n c) n xs) (ne : g ≠ b) : (w.setCell ⟨b, o, none⟩ y).ownsRow base T sz (.slice (some ⟨g, 0, none⟩) n c) n xs :=
 h.kept (qe w ⟨b, o, none⟩ y) (Or.inr (fun e => ne (Option.some.inj e)))
set_option maxHeartbeats 8000000 in
set_option maxRecDepth 100000 in
theorem Jz (s : Scr) (d : Int) (A : Option Addr) (c : Nat) (hcp : s.cells.length <= c) (hA : A = none -> c = 0) (hl : s.cells.length <= 1000000000000) (ho : ∀ x ∈ s.cells, okC x) (h : zh s = false) (w : World) (S : Sees w w.heap.size A (zc s.cells)) :
  Calls Tryz.prog 9 #[scrV s A c, .int .i64 d] w fun e w' => e = .returned (.tuple #[.agg zS.toArray, .int .i64 180]) /\ Below w.heap.size w w' := by
 obtain ⟨Q, hQ⟩ : ∃ Q, Q = (w.alloc (.cells #[.int .i64 s.w, .int .i64 s.h, .slice A s.cells.length c, .int .i64 s.x, .int .i64 s.y, .bool s.shown] 24)).alloc (.cells #[.int .i64 0, .int .i64 0, .slice none 0 0, .int .i64 0, .int .i64 0, .bool false] 24) := ⟨_, rfl⟩
 have BQ : Below w.heap.size w Q := by rw [hQ]; exact ((Below.refl _ w).alloc Xm _).alloc (by simp) _
 have RG := Xk (kG s A c hcp hA hl ho Q ((S.below BQ Xm).more BQ.size))
 rw [h] at RG
 have HB := Xk BQ
 have KQ : Hid (Blk Q (w.heap.size + 1) zS) := Xk (by
  have := Blk.new (w.alloc (.cells #[.int .i64 s.w, .int .i64 s.h, .slice A s.cells.length c, .int .i64 s.x, .int .i64 s.y, .bool s.shown] 24)) zS 24
  rw [hQ]
  have e : (w.alloc (.cells #[.int .i64 s.w, .int .i64 s.h, .slice A s.cells.length c, .int .i64 s.x, .int .i64 s.y, .bool s.shown] 24)).heap.size = w.heap.size + 1 := by simp
  rw [e] at this
  exact this)
 simp only [scrV] at RG ⊢
 clear S ho BQ h
 generalize s.cells.length = n at *
 go_enter Tryz.func9, Tryz.ntmps9
 go_wp2_with fail
 rw [<- hQ]
 clear hQ
 refine RG.out.mono ?_; rintro e w1 ⟨rfl, hb1⟩
 have K := KQ.out.keep hb1 KQ.out.lt
 have BB := Xk (HB.out.trans (hb1.mono HB.out.size))
 have k0 := K.c 0 _ rfl
 have k1 := K.c 1 _ rfl
 have k2 := K.c 2 _ rfl
 have k3 := K.c 3 _ rfl
 have k4 := K.c 4 _ rfl
 have k5 := K.c 5 _ rfl
 have f0 := K.f 0 _ rfl
 have f1 := K.f 1 _ rfl
 have f2 := K.f 2 _ rfl
 have f3 := K.f 3 _ rfl
 have f4 := K.f 4 _ rfl
 have f5 := K.f 5 _ rfl
 clear K hb1
 go_wp2_with fail
 refine bodyPost_ret (v := .tuple #[.agg zS.toArray, .int .i64 180]) (by simp [zS, results, Tryz.results9, go_sem, k0, k1, k2, k3, k4, k5]) rfl ⟨rfl, ?_⟩
 repeat (first | with_reducible exact BB.out | refine Below.setCell ?_ (by first | exact Xm | exact Nat.le_succ _) _)
set_option maxHeartbeats 16000000 in
set_option maxRecDepth 100000 in
theorem ZT (s : Scr) (d : Int) (A : Option Addr) (c : Nat) (hcp : s.cells.length <= c) (hA : A = none -> c = 0) (hl : s.cells.length <= 1000000000000) (ho : ∀ x ∈ s.cells, okC x) (h : zh s = true) (w : World) (S : Sees w w.heap.size A (zc s.cells)) :
  Calls Tryz.prog 9 #[scrV s A c, .int .i64 d] w fun e w' => ∃ g, e = .returned (.tuple #[scrV (redS s d) (some ⟨g, 0, none⟩) s.cells.length, .int .i64 0]) /\ w'.ownsRow w.heap.size 58 5 (.slice (some ⟨g, 0, none⟩) s.cells.length s.cells.length) s.cells.length (zc (redL s.cells d)) /\ Below w.heap.size w w' := by
 obtain ⟨L, hL⟩ : ∃ L, L = s.cells := ⟨_, rfl⟩
 obtain ⟨N, hN⟩ : ∃ N, N = s.cells.length := ⟨_, rfl⟩
 have RN : redS s d = ⟨s.w, s.h, redL L d, s.x, s.y, s.shown⟩ := by rw [hL]; rfl
 have RL : (redL L d).length = N := by rw [hN, <- hL]; simp [redL]
 obtain ⟨Q, hQ⟩ : ∃ Q, Q = (w.alloc (.cells #[.int .i64 s.w, .int .i64 s.h, .slice A s.cells.length c, .int .i64 s.x, .int .i64 s.y, .bool s.shown] 24)).alloc (.cells #[.int .i64 0, .int .i64 0, .slice none 0 0, .int .i64 0, .int .i64 0, .bool false] 24) := ⟨_, rfl⟩
 have BQ : Below w.heap.size w Q := by rw [hQ]; exact ((Below.refl _ w).alloc Xm _).alloc (by simp) _
 have QS : Q.heap.size = w.heap.size + 2 := by rw [hQ]; simp
 have RG := Xk (kG s A c hcp hA hl ho Q ((S.below BQ Xm).more BQ.size))
 rw [h] at RG
 obtain ⟨i0, hi0, hz0, hz1, hz2⟩ := info_parts infoL
 have N20 : N <= 1048576 := by
  obtain ⟨r1, r2, _⟩ := zQ h
  have := (qS r1).2.2.2.2
  omega
 have SA : Hid (∀ w', Below w.heap.size w w' -> Sees w' w.heap.size A (zc L)) := Xk (fun w' hb => by rw [hL]; exact S.below hb Xm)
 have HB := Xk BQ
 have KQ : Hid (Blk Q (w.heap.size + 1) zS) := Xk (by
  have := Blk.new (w.alloc (.cells #[.int .i64 s.w, .int .i64 s.h, .slice A s.cells.length c, .int .i64 s.x, .int .i64 s.y, .bool s.shown] 24)) zS 24
  rw [hQ]
  have e : (w.alloc (.cells #[.int .i64 s.w, .int .i64 s.h, .slice A s.cells.length c, .int .i64 s.x, .int .i64 s.y, .bool s.shown] 24)).heap.size = w.heap.size + 1 := by simp
  rw [e] at this
  exact this)
 have KB : Hid (Blk Q w.heap.size [.int .i64 s.w, .int .i64 s.h, .slice A N c, .int .i64 s.x, .int .i64 s.y, .bool s.shown]) := Xk (by
  rw [hQ, hN]
  exact (Blk.new w [.int .i64 s.w, .int .i64 s.h, .slice A s.cells.length c, .int .i64 s.x, .int .i64 s.y, .bool s.shown] 24).alloc _)
 have HLN : Hid (N = L.length) := Xk (by rw [hN, hL])
 rw [RN]
 simp only [scrV] at RG ⊢
 rw [RL]
 rw [<- hN] at RG hcp hl ⊢
 rw [<- hN] at hQ
 rw [<- hL]
 have QSH := Xk QS
 clear S ho BQ h hL hN RN RL QS
 have hmk1 : i0.bytes * N <= 281474976710656 := by rw [hz2]; omega
 have hmk2 : N <= maxLen := by unfold maxLen; omega
 go_enter Tryz.func9, Tryz.ntmps9
 go_wp2_with fail
 rw [<- hQ]
 clear hQ
 refine RG.out.mono ?_; rintro e w1 ⟨rfl, hb1⟩
 have qs := QSH.out
 have x2 := (hb1.cell (p := ⟨w.heap.size, 2, none⟩) KB.out.lt).trans (KB.out.c 2 _ rfl)
 have lb := hb1.size
 have HB1 := Xk hb1
 clear hb1
 go_wp2_with (at_make; refine wpList_make_full _ rfl _ _ _ rfl (w.heap.size + 2) 58 i0 (.agg #[.string ⟨#[]⟩, .int .i8 0, .int .i32 0, .int .i32 0, .int .u8 0]) 5 Tryz.underlying22 hi0 hz0 hz1 .i64 .i64 N N N rfl rfl rfl rfl hmk1 hmk2 (by omega) ?_; intro w2 hown hg2; have x2 := ((hg2.block w.heap.size (by omega) (by simp)) |> fun e => World.cell?_of_block (a := ⟨w.heap.size, 2, none⟩) e).trans x2)
 have R0 : Hid (∃ xs, w2.ownsRow (w.heap.size + 2) 58 5 (.slice (some ⟨w1.heap.size, 0, none⟩) N N) N xs /\ xs.take (0 * 5) = zc (redL (L.take 0) d) /\ Below (w.heap.size + 2) Q w2) := Xk ⟨_, hown, by simp [redL, zc], (HB1.out.mono (by omega)).grown hg2 (by omega) (by simp)⟩
 obtain ⟨g, hg⟩ : ∃ g, g = w1.heap.size := ⟨_, rfl⟩
 rw [<- hg] at R0 ⊢
 have hgb : w.heap.size + 2 <= g := by omega
 clear hown hg2 x2 lb hg
 go_loopw [20] (fun i wr => ∃ k : Nat, k <= N /\ i = .int .i64 k /\ Hid (∃ xs, wr.ownsRow (w.heap.size + 2) 58 5 (.slice (some ⟨g, 0, none⟩) N N) N xs /\ xs.take (k * 5) = zc (redL (L.take k) d) /\ Below (w.heap.size + 2) Q wr)) (fun i _ => N - (intOf i).toNat)
 case atStart => exact ⟨0, Nat.zero_le _, rfl, R0⟩
 case round =>
  obtain ⟨k, hk, rfl, hr⟩ := hrel
  clear R0
  by_cases lt : k < N
  ·have kl : k < L.length := by rw [<- HLN.out]; exact lt
   obtain ⟨xs, own, tk, bq⟩ := hr.out
   obtain ⟨ad, rfl, ab, z0, z1, z2, z3, z4⟩ := jc (SA.out wr (HB.out.trans (bq.mono (by omega)))) k kl
   have OW := Xk own
   have TK := Xk tk
   have BQ := Xk bq
   have NL : Hid (redL (L.take (k + 1)) d = redL (L.take k) d ++ [redC d L[k]]) := Xk (by rw [List.take_succ_eq_append_getElem kl]; unfold redL; rw [List.map_append]; rfl)
   have SR := Xk (fun W => Jy (L[k]).st d W)
   generalize L[k] = a at *
   obtain ⟨t, wd, ⟨fg, bg, at_⟩⟩ := a
   simp only at z0 z1 z2 z3 z4 SR
   clear own tk bq hr
   go_wp2_with fail
   refine (SR.out _).mono ?_; rintro e w3 ⟨rfl, hb3⟩
   obtain ⟨rr, hrr⟩ : ∃ rr, rr = zK ⟨fg, bg, at_⟩ d := ⟨_, rfl⟩
   rw [<- hrr]
   have RC : Hid (celV (redC d ⟨t, wd, ⟨fg, bg, at_⟩⟩) = [.string t, .int .i8 wd, .int .i32 rr.fg, .int .i32 rr.bg, .int .u8 (bI rr.at_)]) := Xk (by rw [hrr]; rfl)
   clear hrr
   have ws : w.heap.size + 2 <= wr.heap.size := by have := BQ.out.size; omega
   have K8 : Blk w3 wr.heap.size [.string t, .int .i8 wd, .int .i32 fg, .int .i32 bg, .int .u8 (bI at_)] := (Blk.new wr [.string t, .int .i8 wd, .int .i32 fg, .int .i32 bg, .int .u8 (bI at_)] 58).keep hb3 (by simp)
   have O3 := ZR (OW.out.alloc (.cells #[.string t, .int .i8 wd, .int .i32 fg, .int .i32 bg, .int .u8 (bI at_)] 58)) hb3
   have B3 := Xk ((BQ.out.alloc ws (.cells #[.string t, .int .i8 wd, .int .i32 fg, .int .i32 bg, .int .u8 (bI at_)] 58)).trans (hb3.mono (by simp; omega)))
   have xl : xs.length = N * 5 := O3.1
   have rc : ∀ j, j < 5 -> ∃ v, xs[k * 5 + j]? = some v := fun j hj => ⟨_, List.getElem?_eq_getElem (by omega)⟩
   obtain ⟨v0, hv0⟩ := rc 0 (by decide)
   obtain ⟨v1, hv1⟩ := rc 1 (by decide)
   obtain ⟨v2, hv2⟩ := rc 2 (by decide)
   obtain ⟨v3, hv3⟩ := rc 3 (by decide)
   obtain ⟨v4, hv4⟩ := rc 4 (by decide)
   have y0 : w3.cell? ⟨g, k * 5, none⟩ = some v0 := (O3.cellAt (k * 5) (by omega)).trans hv0
   have y1 : w3.cell? ⟨g, k * 5 + 1, none⟩ = some v1 := (O3.cellAt (k * 5 + 1) (by omega)).trans hv1
   have y2 : w3.cell? ⟨g, k * 5 + 2, none⟩ = some v2 := (O3.cellAt (k * 5 + 2) (by omega)).trans hv2
   have y3 : w3.cell? ⟨g, k * 5 + 3, none⟩ = some v3 := (O3.cellAt (k * 5 + 3) (by omega)).trans hv3
   have y4 : w3.cell? ⟨g, k * 5 + 4, none⟩ = some v4 := (O3.cellAt (k * 5 + 4) (by omega)).trans hv4
   have p0 := O3.frozenAt (k * 5)
   have p1 := O3.frozenAt (k * 5 + 1)
   have p2 := O3.frozenAt (k * 5 + 2)
   have p3 := O3.frozenAt (k * 5 + 3)
   have p4 := O3.frozenAt (k * 5 + 4)
   have ne : g ≠ wr.heap.size := by
    have h1 := (OW.out.cellAt (k * 5) (by omega)).trans hv0
    have := block_lt_of_cell h1
    simp only at this
    omega
   have k0 := K8.c 0 _ rfl
   have k1 := K8.c 1 _ rfl
   have k2 := K8.c 2 _ rfl
   have k3 := K8.c 3 _ rfl
   have k4 := K8.c 4 _ rfl
   have f2 := K8.f 2 _ rfl
   have f3 := K8.f 3 _ rfl
   have f4 := K8.f 4 _ rfl
   have NO : Hid (∃ xs, ((((((((w3.setCell ⟨wr.heap.size, 2, none⟩ (.int .i32 rr.fg)).setCell ⟨wr.heap.size, 3, none⟩ (.int .i32 rr.bg)).setCell ⟨wr.heap.size, 4, none⟩ (.int .u8 (bI rr.at_))).setCell ⟨g, k * 5, none⟩ (.string t)).setCell ⟨g, k * 5 + 1, none⟩ (.int .i8 wd)).setCell ⟨g, k * 5 + 2, none⟩ (.int .i32 rr.fg)).setCell ⟨g, k * 5 + 3, none⟩ (.int .i32 rr.bg)).setCell ⟨g, k * 5 + 4, none⟩ (.int .u8 (bI rr.at_))).ownsRow (w.heap.size + 2) 58 5 (.slice (some ⟨g, 0, none⟩) N N) N xs /\ xs.take ((k + 1) * 5) = zc (redL (L.take (k + 1)) d) /\ Below (w.heap.size + 2) Q ((((((((w3.setCell ⟨wr.heap.size, 2, none⟩ (.int .i32 rr.fg)).setCell ⟨wr.heap.size, 3, none⟩ (.int .i32 rr.bg)).setCell ⟨wr.heap.size, 4, none⟩ (.int .u8 (bI rr.at_))).setCell ⟨g, k * 5, none⟩ (.string t)).setCell ⟨g, k * 5 + 1, none⟩ (.int .i8 wd)).setCell ⟨g, k * 5 + 2, none⟩ (.int .i32 rr.fg)).setCell ⟨g, k * 5 + 3, none⟩ (.int .i32 rr.bg)).setCell ⟨g, k * 5 + 4, none⟩ (.int .u8 (bI rr.at_)))) := Xk (by
    refine ⟨_, (((((((((xQ (xQ (xQ O3 ne) ne) ne).stored (k * 5) (.string t)).1).stored (k * 5 + 1) (.int .i8 wd)).1).stored (k * 5 + 2) (.int .i32 rr.fg)).1).stored (k * 5 + 3) (.int .i32 rr.bg)).1.stored (k * 5 + 4) (.int .u8 (bI rr.at_))).1, ?_, ?_⟩
    ·rw [show (k + 1) * 5 = k * 5 + 5 by omega, set5 _ _ _ _ _ _ _ (by omega), TK.out, NL.out, jP, <- RC.out]
     rw [show zc [redC d ⟨t, wd, ⟨fg, bg, at_⟩⟩] = celV (redC d ⟨t, wd, ⟨fg, bg, at_⟩⟩) by simp [zc]]
    ·exact (((((((B3.out.setCell (p := ⟨wr.heap.size, 2, none⟩) ws _).setCell (p := ⟨wr.heap.size, 3, none⟩) ws _).setCell (p := ⟨wr.heap.size, 4, none⟩) ws _).setCell (p := ⟨g, k * 5, none⟩) hgb _).setCell (p := ⟨g, k * 5 + 1, none⟩) hgb _).setCell (p := ⟨g, k * 5 + 2, none⟩) hgb _).setCell (p := ⟨g, k * 5 + 3, none⟩) hgb _).setCell (p := ⟨g, k * 5 + 4, none⟩) hgb _)
   clear K8 O3 rc hv0 hv1 hv2 hv3 hv4 hb3 xl z0 z1 z2 z3 z4
   go_wp2_with fail
   go_roundw
   case rel => exact ⟨k + 1, by omega, by go_num, NO⟩
   case measure => simp [intOf]; omega
  ·have e : k = N := by omega
   subst e
   obtain ⟨xs, own, tk, bq⟩ := hr.out
   have xl : xs.length = k * 5 := own.1
   rw [List.take_of_length_le (by omega), List.take_of_length_le (by rw [<- HLN.out]; exact Xm)] at tk
   subst tk
   have KB := KB.out.keep bq (by omega)
   have KR := KQ.out.keep bq (by omega)
   have OW := Xk own
   have BB := Xk (HB.out.trans (bq.mono (by omega)))
   have b0 := KB.c 0 _ rfl
   have b1 := KB.c 1 _ rfl
   have b2 := KB.c 2 _ rfl
   have b3 := KB.c 3 _ rfl
   have b4 := KB.c 4 _ rfl
   have b5 := KB.c 5 _ rfl
   have g2 := KB.f 2 _ rfl
   have k0 := KR.c 0 _ rfl
   have k1 := KR.c 1 _ rfl
   have k2 := KR.c 2 _ rfl
   have k3 := KR.c 3 _ rfl
   have k4 := KR.c 4 _ rfl
   have k5 := KR.c 5 _ rfl
   have f0 := KR.f 0 _ rfl
   have f1 := KR.f 1 _ rfl
   have f2 := KR.f 2 _ rfl
   have f3 := KR.f 3 _ rfl
   have f4 := KR.f 4 _ rfl
   have f5 := KR.f 5 _ rfl
   clear own bq hr KB KR xl
   go_wp2_with fail
   refine bodyPost_ret (v := .tuple #[.agg #[.int .i64 s.w, .int .i64 s.h, .slice (some ⟨g, 0, none⟩) k k, .int .i64 s.x, .int .i64 s.y, .bool s.shown], .int .i64 0]) (by simp [results, Tryz.results9, go_sem, k0, k1, k2, k3, k4, k5]) rfl ⟨g, rfl, ?_, ?_⟩
   ·refine qR (base := w.heap.size + 2) ?_ (by omega)
    repeat (refine xQ ?_ (by omega))
    exact OW.out
   ·repeat (first | with_reducible exact BB.out | refine Below.setCell ?_ (by first | exact Xm | exact Nat.le_succ _) _)
end
section
open Go.RowKit Go.Sort
theorem jF {α : Sort _} {tx ty : ByteArray} {wx wy fx fy gx gy : Int} {ax ay : B8} (u v : α) (h : ¬ (⟨tx, wx, ⟨fx, gx, ax⟩⟩ : Cel) = ⟨ty, wy, ⟨fy, gy, ay⟩⟩) : (if tx.toList = ty.toList then if wx = wy then if fx = fy then if gx = gy then if bI ax = bI ay then u else v else v else v else v else v) = v := by
 by_cases c1 : tx.toList = ty.toList
 ·rw [if_pos c1]
  by_cases c2 : wx = wy
  ·rw [if_pos c2]
   by_cases c3 : fx = fy
   ·rw [if_pos c3]
    by_cases c4 : gx = gy
    ·rw [if_pos c4]
     by_cases c5 : bI ax = bI ay
     ·exfalso; apply h
      have c1 : tx = ty := by
       rw [ByteArray.toList_eq, ByteArray.toList_eq] at c1
       exact ByteArray.ext (Array.toList_inj.1 c1)
      rw [c1, c2, c3, c4, xc c5]
     ·rw [if_neg c5]
    ·rw [if_neg c4]
   ·rw [if_neg c3]
  ·rw [if_neg c2]
 ·rw [if_neg c1]
theorem kL {α : Type} {l r : List α} {y y' : α} {k : Nat} (h : l.drop k = y :: y' :: r) : l.drop (k + 2) = r := by
 rw [<- List.drop_drop, h]; rfl
theorem xo {α : Type} {l r : List α} {y : α} {k : Nat} (h : l.drop k = y :: r) : l.drop (k + 1) = r := by
 rw [<- List.drop_drop, h]; rfl
theorem xR {α : Type} {l r : List α} {y : α} {k : Nat} (h : l.drop k = y :: r) : ∃ hk : k < l.length, l[k] = y := by
 have hk : k < l.length := by
  rcases Nat.lt_or_ge k l.length with z | z
  ·exact z
  ·rw [List.drop_eq_nil_of_le z] at h; cases h
 rw [List.drop_eq_getElem_cons hk] at h
 exact ⟨hk, (List.cons.inj h).1⟩
set_option maxHeartbeats 16000000 in
set_option maxRecDepth 100000 in
theorem ZU (f : Nat) (caps : Array Value) (hE : ∀ args w, (callFunc f args).run Tryz.prog w = .ok (.enter f args) w) (J : List (Nat × Nat) -> World -> Prop) (A1 A2 : Option Addr) (c1 c2 : Nat) (a b : List Cel) (hlen : a.length = b.length) (hN : b.length <= 1000000000000) (hrow : rowR b = true)
  (hJ : ∀ pre (i n : Nat) W, J pre W -> (pre ++ [(i, n)]) <+: zd 0 a b -> (n = 1 \/ n = 2) -> Calls Tryz.prog f (#[.int .i64 i, .int .i64 n] ++ caps) W fun e W' => (∃ v, e = .returned v) /\ J (pre ++ [(i, n)]) W')
  (hs : ∀ pre W, J pre W -> Sees W W.heap.size A1 (zc a) /\ Sees W W.heap.size A2 (zc b)) (hd : ∀ pre W W', J pre W -> Below W.heap.size W W' -> J pre W') (w : World) (h0 : J [] w) :
  Calls Tryz.prog 29 #[.slice A1 a.length c1, .slice A2 b.length c2, .func (.func f) #[] caps] w fun e w' => (∃ v, e = .returned v) /\ J (zd 0 a b) w' := by
 rw [hlen]
 obtain ⟨N, hNN⟩ : ∃ N, N = b.length := ⟨_, rfl⟩
 rw [<- hNN] at hN ⊢
 have HN := Xk hNN
 have HL := Xk hlen
 have HR := Xk hrow
 clear hNN hlen hrow
 go_enter Tryz.func29, Tryz.ntmps29
 go_wp2_with fail
 go_loopw [6, 7] (fun i n7 wr => ∃ (k : Nat) (pre : List (Nat × Nat)), k <= N /\ i = .int .i64 k /\ Hid (rowR (b.drop k) = true /\ zd 0 a b = pre ++ zd k (a.drop k) (b.drop k) /\ J pre wr)) (fun i _ _ => N - (intOf i).toNat)
 case atStart => exact ⟨0, [], Nat.zero_le _, rfl, Xk ⟨HR.out, rfl, h0⟩⟩
 case round =>
  obtain ⟨k, pre, hk, rfl, hr⟩ := hrel
  clear h0
  by_cases lt : k < N
  ·obtain ⟨r1, r2, r3⟩ := hr.out
   have SS := hs _ _ r3
   have JH := Xk r3
   have kb : k < b.length := by rw [<- HN.out]; exact lt
   have ka : k < a.length := by rw [HL.out]; exact kb
   obtain ⟨y, yr, hy⟩ : ∃ y yr, b.drop k = y :: yr := ⟨_, _, List.drop_eq_getElem_cons kb⟩
   obtain ⟨x, xr, hx⟩ : ∃ x xr, a.drop k = x :: xr := ⟨_, _, List.drop_eq_getElem_cons ka⟩
   obtain ⟨_, ey⟩ := xR hy
   obtain ⟨_, ex⟩ := xR hx
   have ly : (y :: yr).length = N - k := by rw [<- hy, List.length_drop, <- HN.out]
   have lx : (x :: xr).length = N - k := by rw [<- hx, List.length_drop, HL.out, <- HN.out]
   obtain ⟨ad, rfl, ab, z0, z1, z2, z3, z4⟩ := jc SS.1 k ka
   obtain ⟨ae, rfl, bb, y0, y1, y2, y3, y4⟩ := jc SS.2 k kb
   rw [ex] at z0 z1 z2 z3 z4
   rw [ey] at y0 y1 y2 y3 y4
   rw [hy] at r1
   rw [hx, hy] at r2
   rcases Zp r1 with ⟨w2, y', yr', e', w0, rr⟩ | ⟨w1, rr⟩
   ·subst e'
    obtain ⟨x', xr', e'⟩ : ∃ x' xr', xr = x' :: xr' := by
     cases xr with
     | nil => simp at lx ly; omega
     | cons p q => exact ⟨p, q, rfl⟩
    subst e'
    have k1 : k + 1 < N := by simp at ly; omega
    have hy1 := xo hy
    have hx1 := xo hx
    obtain ⟨kb1, ey1⟩ := xR hy1
    obtain ⟨ka1, ex1⟩ := xR hx1
    obtain ⟨ad', e', _, s0, s1, s2, s3, s4⟩ := jc SS.1 (k + 1) ka1
    cases e'
    obtain ⟨ae', e', _, q0, q1, q2, q3, q4⟩ := jc SS.2 (k + 1) kb1
    cases e'
    rw [ex1] at s0 s1 s2 s3 s4
    rw [ey1] at q0 q1 q2 q3 q4
    rw [jT k x x' y y' xr' yr' w2] at r2
    have RR : Hid (rowR (b.drop (k + 2)) = true) := Xk (by rw [kL hy]; exact rr)
    have hX2 := kL hx
    have hY2 := kL hy
    rw [<- hX2, <- hY2] at r2
    have wk := Xl ((k : Int) + 1) (by omega)
    have wk0 : (0 : Int) <= (k : Int) + 1 := by omega
    have wk1 : ((k : Int) + 1).toNat = k + 1 := by omega
    have wk2 : (k : Int) + 1 < (N : Int) := by omega
    have R2 := Xk r2
    clear r1 r2 r3 rr SS hr ly lx hy hx hy1 hx1 ey ex ey1 ex1 hX2 hY2 kb ka kb1 ka1
    obtain ⟨ty, wy, ⟨fy, gy, ay⟩⟩ := y
    obtain ⟨tx, wx, ⟨fx, gx, ax⟩⟩ := x
    obtain ⟨ty', wy', ⟨fy', gy', ay'⟩⟩ := y'
    obtain ⟨tx', wx', ⟨fx', gx', ax'⟩⟩ := x'
    simp only at z0 z1 z2 z3 z4 y0 y1 y2 y3 y4 s0 s1 s2 s3 s4 q0 q1 q2 q3 q4 w2 w0
    subst w2 w0
    have y1h := y1
    go_upto_region 3 with fail
    clear y1h
    have z0 := fun d os => ((below_regrown wr d os).cell (p := ad.add (k * 5)) (by simp only [zg]; exact ab)).trans z0
    have z1 := fun d os => ((below_regrown wr d os).cell (p := ⟨(ad.add (k * 5)).block, (ad.add (k * 5)).off + 1, none⟩) (by simp only [zg]; exact ab)).trans z1
    have z2 := fun d os => ((below_regrown wr d os).cell (p := ⟨(ad.add (k * 5)).block, (ad.add (k * 5)).off + 2, none⟩) (by simp only [zg]; exact ab)).trans z2
    have z3 := fun d os => ((below_regrown wr d os).cell (p := ⟨(ad.add (k * 5)).block, (ad.add (k * 5)).off + 3, none⟩) (by simp only [zg]; exact ab)).trans z3
    have z4 := fun d os => ((below_regrown wr d os).cell (p := ⟨(ad.add (k * 5)).block, (ad.add (k * 5)).off + 4, none⟩) (by simp only [zg]; exact ab)).trans z4
    have y0 := fun d os => ((below_regrown wr d os).cell (p := ae.add (k * 5)) (by simp only [zg]; exact bb)).trans y0
    have y1 := fun d os => ((below_regrown wr d os).cell (p := ⟨(ae.add (k * 5)).block, (ae.add (k * 5)).off + 1, none⟩) (by simp only [zg]; exact bb)).trans y1
    have y2 := fun d os => ((below_regrown wr d os).cell (p := ⟨(ae.add (k * 5)).block, (ae.add (k * 5)).off + 2, none⟩) (by simp only [zg]; exact bb)).trans y2
    have y3 := fun d os => ((below_regrown wr d os).cell (p := ⟨(ae.add (k * 5)).block, (ae.add (k * 5)).off + 3, none⟩) (by simp only [zg]; exact bb)).trans y3
    have y4 := fun d os => ((below_regrown wr d os).cell (p := ⟨(ae.add (k * 5)).block, (ae.add (k * 5)).off + 4, none⟩) (by simp only [zg]; exact bb)).trans y4
    have s0 := fun d os => ((below_regrown wr d os).cell (p := ad.add ((k + 1) * 5)) (by simp only [zg]; exact ab)).trans s0
    have s1 := fun d os => ((below_regrown wr d os).cell (p := ⟨(ad.add ((k + 1) * 5)).block, (ad.add ((k + 1) * 5)).off + 1, none⟩) (by simp only [zg]; exact ab)).trans s1
    have s2 := fun d os => ((below_regrown wr d os).cell (p := ⟨(ad.add ((k + 1) * 5)).block, (ad.add ((k + 1) * 5)).off + 2, none⟩) (by simp only [zg]; exact ab)).trans s2
    have s3 := fun d os => ((below_regrown wr d os).cell (p := ⟨(ad.add ((k + 1) * 5)).block, (ad.add ((k + 1) * 5)).off + 3, none⟩) (by simp only [zg]; exact ab)).trans s3
    have s4 := fun d os => ((below_regrown wr d os).cell (p := ⟨(ad.add ((k + 1) * 5)).block, (ad.add ((k + 1) * 5)).off + 4, none⟩) (by simp only [zg]; exact ab)).trans s4
    have q0 := fun d os => ((below_regrown wr d os).cell (p := ae.add ((k + 1) * 5)) (by simp only [zg]; exact bb)).trans q0
    have q1 := fun d os => ((below_regrown wr d os).cell (p := ⟨(ae.add ((k + 1) * 5)).block, (ae.add ((k + 1) * 5)).off + 1, none⟩) (by simp only [zg]; exact bb)).trans q1
    have q2 := fun d os => ((below_regrown wr d os).cell (p := ⟨(ae.add ((k + 1) * 5)).block, (ae.add ((k + 1) * 5)).off + 2, none⟩) (by simp only [zg]; exact bb)).trans q2
    have q3 := fun d os => ((below_regrown wr d os).cell (p := ⟨(ae.add ((k + 1) * 5)).block, (ae.add ((k + 1) * 5)).off + 3, none⟩) (by simp only [zg]; exact bb)).trans q3
    have q4 := fun d os => ((below_regrown wr d os).cell (p := ⟨(ae.add ((k + 1) * 5)).block, (ae.add ((k + 1) * 5)).off + 4, none⟩) (by simp only [zg]; exact bb)).trans q4
    by_cases e1 : (⟨tx, wx, ⟨fx, gx, ax⟩⟩ : Cel) = ⟨ty, 2, ⟨fy, gy, ay⟩⟩
    ·by_cases e2 : (⟨tx', wx', ⟨fx', gx', ax'⟩⟩ : Cel) = ⟨ty', 0, ⟨fy', gy', ay'⟩⟩
     ·have DU : Hid (zd 0 a b = pre ++ zd (k + 2) (a.drop (k + 2)) (b.drop (k + 2))) := Xk (by rw [R2.out, if_pos ⟨e1, e2⟩, List.nil_append])
      injection e1 with a1 a2 a3; injection a3 with a3 a4 a5
      injection e2 with d1 d2 d3; injection d3 with d3 d4 d5
      subst a1 a2 a3 a4 a5 d1 d2 d3 d4 d5
      refine zo 25 [] [] (by kernel_rfl) (by kernel_rfl) (by kernel_rfl) (by intro t ht; cases ht) ?_
      simp only [Xn, Xo, Xp, Xq]
      repeat (refine zf (by rfl) (fun K hK => ?_); go_simp; first | (refine hK _ ?_; clear hK K) | (apply Exists.intro; refine ⟨fun _ => ?_, hK _ ?_⟩; (fail); clear hK K))
      refine zn ?_
      intro W5 vs5 hl hv
      have J5 := Xk (hd _ _ _ JH.out (zj.1 hl))
      clear hl hv z0 z1 z2 z3 z4 y0 y1 y2 y3 y4 s0 s1 s2 s3 s4 q0 q1 q2 q3 q4
      simp only [ze]
      go_wp2_with fail
      have NR : Hid (rowR (b.drop (k + 2)) = true /\ zd 0 a b = pre ++ zd (k + 2) (a.drop (k + 2)) (b.drop (k + 2)) /\ J pre W5) := Xk ⟨RR.out, DU.out, J5.out⟩
      go_roundw
      case rel => exact ⟨k + 2, _, by omega, by go_num, NR⟩
      case measure => simp [intOf]; omega
     ·have DU : Hid (zd 0 a b = pre ++ ([(k, 2)] ++ zd (k + 2) (a.drop (k + 2)) (b.drop (k + 2)))) := Xk (by rw [R2.out, if_neg (fun h => e2 h.2)])
      injection e1 with a1 a2 a3; injection a3 with a3 a4 a5
      subst a1 a2 a3 a4 a5
      refine zo 25 [] [] (by kernel_rfl) (by kernel_rfl) (by kernel_rfl) (by intro t ht; cases ht) ?_
      simp only [Xn, Xo, Xp, Xq]
      repeat (refine zf (by rfl) (fun K hK => ?_); go_simp; first | (refine hK _ ?_; clear hK K) | (apply Exists.intro; refine ⟨fun _ => ?_, hK _ ?_⟩; (fail); clear hK K))
      refine zf (by rfl) (fun K hK => ?_); go_simp
      refine ⟨.bool true, fun p => ?_, hK _ ?_⟩
      ·rw [jF _ _ e2]; exact ⟨rfl, rfl⟩
      clear hK K
      repeat (refine zf (by rfl) (fun K hK => ?_); go_simp; first | (refine hK _ ?_; clear hK K) | (apply Exists.intro; refine ⟨fun _ => ?_, hK _ ?_⟩; (fail); clear hK K))
      refine zn ?_
      intro W5 vs5 hl hv
      have J5 := Xk (hd _ _ _ JH.out (zj.1 hl))
      clear hl hv z0 z1 z2 z3 z4 y0 y1 y2 y3 y4 s0 s1 s2 s3 s4 q0 q1 q2 q3 q4
      simp only [ze]
      go_wp2_with fail
      refine (hJ _ k 2 W5 J5.out (by rw [DU.out]; exact ⟨zd (k + 2) (a.drop (k + 2)) (b.drop (k + 2)), by simp⟩) (by omega)).mono ?_; rintro e W6 ⟨⟨v, rfl⟩, hj6⟩
      have NR : Hid (rowR (b.drop (k + 2)) = true /\ zd 0 a b = (pre ++ [(k, 2)]) ++ zd (k + 2) (a.drop (k + 2)) (b.drop (k + 2)) /\ J (pre ++ [(k, 2)]) W6) := Xk ⟨RR.out, by rw [DU.out]; simp, hj6⟩
      clear hj6
      go_wp2_with fail
      go_roundw
      case rel => exact ⟨k + 2, _, by omega, by go_num, NR⟩
      case measure => simp [intOf]; omega
    ·have DU : Hid (zd 0 a b = pre ++ ([(k, 2)] ++ zd (k + 2) (a.drop (k + 2)) (b.drop (k + 2)))) := Xk (by rw [R2.out, if_neg (fun h => e1 h.1)])
     refine zo 25 [] [] (by kernel_rfl) (by kernel_rfl) (by kernel_rfl) (by intro t ht; cases ht) ?_
     simp only [Xn, Xo, Xp, Xq]
     repeat (refine zf (by rfl) (fun K hK => ?_); go_simp; first | (refine hK _ ?_; clear hK K) | (apply Exists.intro; refine ⟨fun _ => ?_, hK _ ?_⟩; (fail); clear hK K))
     refine zf (by rfl) (fun K hK => ?_); go_simp
     refine ⟨.bool true, fun p => ?_, hK _ ?_⟩
     ·rw [jF _ _ e1]; exact ⟨rfl, rfl⟩
     clear hK K
     repeat (refine zf (by rfl) (fun K hK => ?_); go_simp; first | (refine hK _ ?_; clear hK K) | (apply Exists.intro; refine ⟨fun _ => ?_, hK _ ?_⟩; (fail); clear hK K))
     refine zn ?_
     intro W5 vs5 hl hv
     have J5 := Xk (hd _ _ _ JH.out (zj.1 hl))
     clear hl hv z0 z1 z2 z3 z4 y0 y1 y2 y3 y4 s0 s1 s2 s3 s4 q0 q1 q2 q3 q4
     simp only [ze]
     go_wp2_with fail
     refine (hJ _ k 2 W5 J5.out (by rw [DU.out]; exact ⟨zd (k + 2) (a.drop (k + 2)) (b.drop (k + 2)), by simp⟩) (by omega)).mono ?_; rintro e W6 ⟨⟨v, rfl⟩, hj6⟩
     have NR : Hid (rowR (b.drop (k + 2)) = true /\ zd 0 a b = (pre ++ [(k, 2)]) ++ zd (k + 2) (a.drop (k + 2)) (b.drop (k + 2)) /\ J (pre ++ [(k, 2)]) W6) := Xk ⟨RR.out, by rw [DU.out]; simp, hj6⟩
     clear hj6
     go_wp2_with fail
     go_roundw
     case rel => exact ⟨k + 2, _, by omega, by go_num, NR⟩
     case measure => simp [intOf]; omega
   ·have ll : xr.length = yr.length := by simp at lx ly; omega
    rw [jU k x y xr yr (by rw [w1]; decide) ll] at r2
    have RR : Hid (rowR (b.drop (k + 1)) = true) := Xk (by rw [xo hy]; exact rr)
    have hX2 := xo hx
    have hY2 := xo hy
    rw [<- hX2, <- hY2] at r2
    have R2 := Xk r2
    clear r1 r2 r3 rr SS hr ly lx ll hy hx ey ex hX2 hY2 kb ka
    obtain ⟨ty, wy, ⟨fy, gy, ay⟩⟩ := y
    obtain ⟨tx, wx, ⟨fx, gx, ax⟩⟩ := x
    simp only at z0 z1 z2 z3 z4 y0 y1 y2 y3 y4 w1
    subst w1
    have y1h := y1
    go_upto_region 3 with fail
    clear y1h
    have z0 := fun d os => ((below_regrown wr d os).cell (p := ad.add (k * 5)) (by simp only [zg]; exact ab)).trans z0
    have z1 := fun d os => ((below_regrown wr d os).cell (p := ⟨(ad.add (k * 5)).block, (ad.add (k * 5)).off + 1, none⟩) (by simp only [zg]; exact ab)).trans z1
    have z2 := fun d os => ((below_regrown wr d os).cell (p := ⟨(ad.add (k * 5)).block, (ad.add (k * 5)).off + 2, none⟩) (by simp only [zg]; exact ab)).trans z2
    have z3 := fun d os => ((below_regrown wr d os).cell (p := ⟨(ad.add (k * 5)).block, (ad.add (k * 5)).off + 3, none⟩) (by simp only [zg]; exact ab)).trans z3
    have z4 := fun d os => ((below_regrown wr d os).cell (p := ⟨(ad.add (k * 5)).block, (ad.add (k * 5)).off + 4, none⟩) (by simp only [zg]; exact ab)).trans z4
    have y0 := fun d os => ((below_regrown wr d os).cell (p := ae.add (k * 5)) (by simp only [zg]; exact bb)).trans y0
    have y1 := fun d os => ((below_regrown wr d os).cell (p := ⟨(ae.add (k * 5)).block, (ae.add (k * 5)).off + 1, none⟩) (by simp only [zg]; exact bb)).trans y1
    have y2 := fun d os => ((below_regrown wr d os).cell (p := ⟨(ae.add (k * 5)).block, (ae.add (k * 5)).off + 2, none⟩) (by simp only [zg]; exact bb)).trans y2
    have y3 := fun d os => ((below_regrown wr d os).cell (p := ⟨(ae.add (k * 5)).block, (ae.add (k * 5)).off + 3, none⟩) (by simp only [zg]; exact bb)).trans y3
    have y4 := fun d os => ((below_regrown wr d os).cell (p := ⟨(ae.add (k * 5)).block, (ae.add (k * 5)).off + 4, none⟩) (by simp only [zg]; exact bb)).trans y4
    by_cases e1 : (⟨tx, wx, ⟨fx, gx, ax⟩⟩ : Cel) = ⟨ty, 1, ⟨fy, gy, ay⟩⟩
    ·have DU : Hid (zd 0 a b = pre ++ zd (k + 1) (a.drop (k + 1)) (b.drop (k + 1))) := Xk (by rw [R2.out, if_pos e1, List.nil_append])
     injection e1 with a1 a2 a3; injection a3 with a3 a4 a5
     subst a1 a2 a3 a4 a5
     refine zo 25 [] [] (by kernel_rfl) (by kernel_rfl) (by kernel_rfl) (by intro t ht; cases ht) ?_
     simp only [Xn, Xo, Xp, Xq]
     repeat (refine zf (by rfl) (fun K hK => ?_); go_simp; first | (refine hK _ ?_; clear hK K) | (apply Exists.intro; refine ⟨fun _ => ?_, hK _ ?_⟩; (fail); clear hK K))
     refine zn ?_
     intro W5 vs5 hl hv
     have J5 := Xk (hd _ _ _ JH.out (zj.1 hl))
     clear hl hv z0 z1 z2 z3 z4 y0 y1 y2 y3 y4
     simp only [ze]
     go_wp2_with fail
     have NR : Hid (rowR (b.drop (k + 1)) = true /\ zd 0 a b = pre ++ zd (k + 1) (a.drop (k + 1)) (b.drop (k + 1)) /\ J pre W5) := Xk ⟨RR.out, DU.out, J5.out⟩
     go_roundw
     case rel => exact ⟨k + 1, _, by omega, by go_num, NR⟩
     case measure => simp [intOf]; omega
    ·have DU : Hid (zd 0 a b = pre ++ ([(k, 1)] ++ zd (k + 1) (a.drop (k + 1)) (b.drop (k + 1)))) := Xk (by rw [R2.out, if_neg e1])
     refine zo 25 [] [] (by kernel_rfl) (by kernel_rfl) (by kernel_rfl) (by intro t ht; cases ht) ?_
     simp only [Xn, Xo, Xp, Xq]
     repeat (refine zf (by rfl) (fun K hK => ?_); go_simp; first | (refine hK _ ?_; clear hK K) | (apply Exists.intro; refine ⟨fun _ => ?_, hK _ ?_⟩; (fail); clear hK K))
     refine zf (by rfl) (fun K hK => ?_); go_simp
     refine ⟨.bool true, fun p => ?_, hK _ ?_⟩
     ·rw [jF _ _ e1]; exact ⟨rfl, rfl⟩
     clear hK K
     repeat (refine zf (by rfl) (fun K hK => ?_); go_simp; first | (refine hK _ ?_; clear hK K) | (apply Exists.intro; refine ⟨fun _ => ?_, hK _ ?_⟩; (fail); clear hK K))
     refine zn ?_
     intro W5 vs5 hl hv
     have J5 := Xk (hd _ _ _ JH.out (zj.1 hl))
     clear hl hv z0 z1 z2 z3 z4 y0 y1 y2 y3 y4
     simp only [ze]
     go_wp2_with fail
     refine (hJ _ k 1 W5 J5.out (by rw [DU.out]; exact ⟨zd (k + 1) (a.drop (k + 1)) (b.drop (k + 1)), by simp⟩) (by omega)).mono ?_; rintro e W6 ⟨⟨v, rfl⟩, hj6⟩
     have NR : Hid (rowR (b.drop (k + 1)) = true /\ zd 0 a b = (pre ++ [(k, 1)]) ++ zd (k + 1) (a.drop (k + 1)) (b.drop (k + 1)) /\ J (pre ++ [(k, 1)]) W6) := Xk ⟨RR.out, by rw [DU.out]; simp, hj6⟩
     clear hj6
     go_wp2_with fail
     go_roundw
     case rel => exact ⟨k + 1, _, by omega, by go_num, NR⟩
     case measure => simp [intOf]; omega
  ·have e : k = N := by omega
   subst e
   obtain ⟨r1, r2, r3⟩ := hr.out
   rw [show b.drop k = [] from List.drop_eq_nil_of_le (by rw [<- HN.out]; exact Xm), jS, List.append_nil] at r2
   have R := Xk (show J (zd 0 a b) wr by rw [r2]; exact r3)
   clear r1 r2 r3 hr
   go_wp2_with fail
   go_end0
   exact ⟨⟨_, rfl⟩, R.out⟩
end
section
open Go Go.RowKit Go.Sort
def upL (i n : Nat) : List Int := (List.range n).map fun k => ((i + k : Nat) : Int)
theorem ZV (i n : Nat) : upL i (n + 1) = upL i n ++ [((i + n : Nat) : Int)] := by simp [upL, List.range_succ]
theorem kM (i n : Nat) : (upL i n).length = n := by simp [upL]
theorem ZW (pre : List (Nat × Nat)) (i n : Nat) : chgL (pre ++ [(i, n)]) = chgL pre ++ upL i n := by rw [jp]; simp [chgL, upL]
def BoxRow (W : World) (n0 g : Nat) (l : List Int) : Prop := ∃ v, Boxed W g 38 v /\ W.ownsRow n0 3 1 v l.length (ints l)
theorem BoxRow.keep {W W' : World} {n0 g : Nat} {l : List Int} (h : BoxRow W n0 g l) (hb : Below W.heap.size W W') : BoxRow W' n0 g l := by
 obtain ⟨v, h1, h2⟩ := h
 exact ⟨v, (hb.block g h1.lt).trans h1, zF h2 hb⟩
set_option maxHeartbeats 8000000 in
set_option maxRecDepth 100000 in
theorem d_chg1 (n0 g : Nat) (l : List Int) (i n : Nat) (hn : n = 1 \/ n = 2) (hi : i <= 1000000000000) (hl : l.length <= 1000000000000) (w : World) (hr : BoxRow w n0 g l) (h0 : n0 <= w.heap.size) (hg : n0 <= g) :
  Calls Tryz.prog 30 #[.int .i64 i, .int .i64 n, .pointer (some ⟨g, 0, none⟩)] w fun e w' => (∃ v, e = .returned v) /\ BoxRow w' n0 g (l ++ upL i n) /\ Below n0 w w' := by
 obtain ⟨i0, hi0, hz0, hz1, hz2⟩ := info_parts jW
 have HR := Xk hr
 clear hr
 go_enter Tryz.func30, Tryz.ntmps30
 go_wp2_with fail
 go_loopw [5, 7] (fun _ j wr => ∃ k : Nat, k <= n /\ j = .int .i64 k /\ Hid (BoxRow wr n0 g (l ++ upL i k) /\ Below n0 w wr /\ n0 <= wr.heap.size)) (fun _ j _ => n - (intOf j).toNat)
 case atStart => exact ⟨0, Nat.zero_le _, rfl, Xk ⟨by simpa [upL] using HR.out, Below.refl _ _, h0⟩⟩
 case round =>
  obtain ⟨k, hk, rfl, hq⟩ := hrel
  clear h0
  by_cases lt : k < n
  ·obtain ⟨⟨v, hv, hrow⟩, hb, hsz⟩ := hq.out
   have cO := hv.cell
   have HB := Xk hb
   have k2 : k <= 1 := by omega
   have len : (l ++ upL i k).length = l.length + k := by rw [List.length_append, kM]
   have NX : Hid (ints (l ++ upL i k) ++ [.int .i64 ((i : Int) + (k : Int))] = ints (l ++ upL i (k + 1))) := Xk (by
    rw [ZV, <- List.append_assoc]
    simp [ints])
   have LX : Hid (l.length + k + 1 = (l ++ upL i (k + 1)).length) := Xk (by rw [List.length_append, kM]; omega)
   rw [len] at hrow
   generalize l.length = m at *
   clear hb hq len
   go_wp2_with (at_builtin; refine wpList_append_own _ rfl (.tmp 10) (.tmp 14) 38 rfl n0 3 i0 (.int .i64 0) 1 8 Tryz.underlying38 hi0 hz0 hz1 hz2 rfl (by decide) _ (m + k) _ rfl (hrow.alloc _) ⟨wr.heap.size, 0, none⟩ 1 1 [.int .i64 ((i : Int) + (k : Int))] rfl rfl (qj wr _ _) (by simp [Value.oneCell']) (by unfold maxLen; omega) (by omega) (by simp; omega) ?_; intro v' w3 hown' hgrow _; obtain ⟨g', cap', rfl⟩ := ownsRow_succ hown'; obtain ⟨hv1, hv2, hr2, hk2, hb2⟩ := hv.appended (show 38 ≠ 3 by decide) hrow hsz hg hown' hgrow; have hc1 := hv1.cell; have hf1 := hv1.frozen)
   exact ⟨⟨k + 1, by omega, by go_num, Xk ⟨⟨_, hv2, by rw [<- LX.out, <- NX.out]; exact hr2⟩, HB.out.trans hb2, Nat.le_trans hsz hb2.size⟩⟩, by simp [intOf]; omega⟩
  ·have e : k = n := by omega
   subst e
   obtain ⟨h1, h2, h3⟩ := hq.out
   have H1 := Xk h1
   have H2 := Xk h2
   clear h1 h2 h3 hq
   go_wp2_with fail
   go_end0
   exact ⟨⟨_, rfl⟩, H1.out, H2.out⟩
theorem ZX (l : List Cel) (h : rowR l = true) : ∀ i k, k.length = l.length -> (chgL (zd i k l)).length <= l.length :=
 jQ (P := fun l => ∀ i k, k.length = l.length -> (chgL (zd i k l)).length <= l.length)
  (fun i k _ => by rw [jS]; exact Xm)
  (fun a l s _ q i k e => by
   cases k with
   | nil => cases e
   | cons b k =>
    simp only [List.length_cons, Nat.add_right_cancel_iff] at e
    rw [jU i b a k l (by rw [(jo s).1]; decide) e, jp, List.length_append]
    have q1 := q (i + 1) k e
    simp only [List.length_cons]
    split
    ·simp [chgL] at *; omega
    ·rw [Zs]; simp; omega)
  (fun a b l p _ q i k e => by
   cases k with
   | nil => cases e
   | cons c k =>
    cases k with
    | nil => cases e
    | cons d k =>
     simp only [List.length_cons, Nat.add_right_cancel_iff] at e
     rw [jT i c d a b k l (qC p).1, jp, List.length_append]
     have q1 := q (i + 2) k e
     simp only [List.length_cons]
     split
     ·simp [chgL] at *; omega
     ·rw [Zt]; simp; omega)
  l.length l Xm h
theorem chg_pre {a b : List Cel} (h : rowR b = true) (e : a.length = b.length) {pre : List (Nat × Nat)} {i n : Nat} (hp : (pre ++ [(i, n)]) <+: zd 0 a b) (hn : n = 1 \/ n = 2) : (chgL pre).length <= b.length /\ i + n <= b.length := by
 obtain ⟨r, hr⟩ := hp
 have h1 := ZX b h 0 a e
 have h2 := (Jq b h 0 a e).1
 rw [<- hr, jp, ZW] at h1 h2
 refine ⟨by simp only [List.length_append] at h1; omega, ?_⟩
 have h3 := h2 (((i + (n - 1) : Nat)) : Int) (by
  refine List.mem_append_left _ (List.mem_append_right _ ?_)
  unfold upL
  exact List.mem_map.2 ⟨n - 1, List.mem_range.2 (by omega), rfl⟩)
 omega
def qg (a b : Scr) : Int := if zh a = false \/ zh b = false then 180 else if a.w ≠ b.w \/ a.h ≠ b.h then 5 else 0
def qh (a b : Scr) : List Int := if qg a b = 0 then chgL (zd 0 a.cells b.cells) else []
structure ScrAt (w : World) (B : Nat) (s : Scr) (A : Option Addr) (c : Nat) : Prop where
 cap : s.cells.length <= c
 nil : A = none -> c = 0
 len : s.cells.length <= 1000000000000
 ok : ∀ x ∈ s.cells, okC x
 sees : Sees w B A (zc s.cells)
theorem ScrAt.below {w w' : World} {B : Nat} {s : Scr} {A : Option Addr} {c : Nat} (h : ScrAt w B s A c) (hb : Below B w w') : ScrAt w' B s A c := ⟨h.cap, h.nil, h.len, h.ok, h.sees.below hb Xm⟩
theorem ScrAt.more {w : World} {B B' : Nat} {s : Scr} {A : Option Addr} {c : Nat} (h : ScrAt w B s A c) (hb : B <= B') : ScrAt w B' s A c := ⟨h.cap, h.nil, h.len, h.ok, h.sees.more hb⟩
theorem ZY (s : Scr) (A : Option Addr) (c : Nat) (w : World) (h : ScrAt w w.heap.size s A c) : Calls Tryz.prog 23 #[scrV s A c] w fun e w' => e = .returned (.bool (zh s)) /\ Below w.heap.size w w' :=
 kG s A c h.cap h.nil h.len h.ok w h.sees
set_option maxHeartbeats 16000000 in
set_option maxRecDepth 100000 in
theorem Z2 (a b : Scr) (A1 A2 : Option Addr) (c1 c2 : Nat) (w : World) (ha : ScrAt w w.heap.size a A1 c1) (hb : ScrAt w w.heap.size b A2 c2) :
  Calls Tryz.prog 15 #[scrV a A1 c1, scrV b A2 c2] w fun e w' => ∃ v, e = .returned (.tuple #[v, .int .i64 (qg a b)]) /\ w'.ownsRow w.heap.size 3 1 v (qh a b).length (ints (qh a b)) /\ Below w.heap.size w w' := by
 have hmf : ∀ (fn : Fn) (first cap : Array Value) (w : World), (Instr.makeFunc fn first cap).run Tryz.prog w = .ok (.func fn first cap) w := fun _ _ _ _ => rfl
 obtain ⟨Q, hQ⟩ : ∃ Q, Q = (w.alloc (.cells #[.int .i64 a.w, .int .i64 a.h, .slice A1 a.cells.length c1, .int .i64 a.x, .int .i64 a.y, .bool a.shown] 24)).alloc (.cells #[.int .i64 b.w, .int .i64 b.h, .slice A2 b.cells.length c2, .int .i64 b.x, .int .i64 b.y, .bool b.shown] 24) := ⟨_, rfl⟩
 have BQ : Below w.heap.size w Q := by rw [hQ]; exact ((Below.refl _ w).alloc Xm _).alloc (by simp) _
 have K1 : Hid (Blk Q w.heap.size [.int .i64 a.w, .int .i64 a.h, .slice A1 a.cells.length c1, .int .i64 a.x, .int .i64 a.y, .bool a.shown]) := Xk (by
  rw [hQ]
  exact (Blk.new w [.int .i64 a.w, .int .i64 a.h, .slice A1 a.cells.length c1, .int .i64 a.x, .int .i64 a.y, .bool a.shown] 24).alloc _)
 have K2 : Hid (Blk Q (w.heap.size + 1) [.int .i64 b.w, .int .i64 b.h, .slice A2 b.cells.length c2, .int .i64 b.x, .int .i64 b.y, .bool b.shown]) := Xk (by
  have := Blk.new (w.alloc (.cells #[.int .i64 a.w, .int .i64 a.h, .slice A1 a.cells.length c1, .int .i64 a.x, .int .i64 a.y, .bool a.shown] 24)) [.int .i64 b.w, .int .i64 b.h, .slice A2 b.cells.length c2, .int .i64 b.x, .int .i64 b.y, .bool b.shown] 24
  have e : (w.alloc (.cells #[.int .i64 a.w, .int .i64 a.h, .slice A1 a.cells.length c1, .int .i64 a.x, .int .i64 a.y, .bool a.shown] 24)).heap.size = w.heap.size + 1 := by simp
  rw [e] at this
  rw [hQ]
  exact this)
 have R1 := Xk (ZY a A1 c1 Q ((ha.below BQ).more BQ.size))
 have R2 := Xk (fun W (h : Below w.heap.size w W) => ZY b A2 c2 W ((hb.below h).more h.size))
 have C0 : Hid (∀ x y, zh a = x -> zh b = y -> (x = false \/ y = false) -> qg a b = 180 /\ qh a b = []) := Xk (fun x y h1 h2 h => by
  have e : qg a b = 180 := by unfold qg; rw [if_pos (by rw [h1, h2]; exact h)]
  exact ⟨e, by unfold qh; rw [e]; rfl⟩)
 have HB := Xk BQ
 have HA1 := Xk ha
 have HB1 := Xk hb
 simp only [scrV] at R1 R2 ⊢
 clear ha hb BQ
 cases ra : zh a with
 | false =>
  obtain ⟨e1, e2⟩ := C0.out false _ ra rfl (Or.inl rfl)
  rw [ra] at R1
  rw [e1, e2]
  clear ra e1 e2
  go_enter Tryz.func15, Tryz.ntmps15
  go_wp2_with fail
  rw [<- hQ]
  clear hQ
  refine R1.out.mono ?_; rintro e w1 ⟨rfl, hb1⟩
  have BB := Xk (HB.out.trans (hb1.mono HB.out.size))
  clear hb1
  go_wp2_with fail
  go_ret2
  exact ⟨_, rfl, World.ownsRow_nil _ _ _ _, BB.out⟩
 | true =>
  rw [ra] at R1
  go_enter Tryz.func15, Tryz.ntmps15
  go_wp2_with fail
  rw [<- hQ]
  clear hQ
  refine R1.out.mono ?_; rintro e w1 ⟨rfl, hb1⟩
  have B1 := Xk (HB.out.trans (hb1.mono HB.out.size))
  have K1 := Xk (K1.out.keep hb1 K1.out.lt)
  have K2 := Xk (K2.out.keep hb1 K2.out.lt)
  have y0 := K2.out.c 0 _ rfl
  have y1 := K2.out.c 1 _ rfl
  have y2 := K2.out.c 2 _ rfl
  have y3 := K2.out.c 3 _ rfl
  have y4 := K2.out.c 4 _ rfl
  have y5 := K2.out.c 5 _ rfl
  clear hb1
  go_wp2_with fail
  refine (R2.out w1 B1.out).mono ?_; rintro e w2 ⟨rfl, hb2⟩
  have B2 := Xk (B1.out.trans (hb2.mono B1.out.size))
  have K1 := K1.out.keep hb2 K1.out.lt
  have K2 := K2.out.keep hb2 K2.out.lt
  have x0 := K1.c 0 _ rfl
  have x1 := K1.c 1 _ rfl
  have x2 := K1.c 2 _ rfl
  have y0 := K2.c 0 _ rfl
  have y1 := K2.c 1 _ rfl
  have y2 := K2.c 2 _ rfl
  have KK1 := Xk K1
  have KK2 := Xk K2
  clear hb2 K1 K2
  cases rb : zh b with
  | false =>
   obtain ⟨e1, e2⟩ := C0.out true false ra rb (Or.inr rfl)
   have E1 := Xk e1
   have E2 := Xk e2
   clear e1 e2 rb ra
   go_wp2_with fail
   go_ret2
   rw [E1.out, E2.out]
   exact ⟨_, rfl, World.ownsRow_nil _ _ _ _, B2.out⟩
  | true =>
   by_cases sz : a.w = b.w /\ a.h = b.h
   ·obtain ⟨ew, eh⟩ := sz
    have e1 : qg a b = 0 := by unfold qg; rw [ra, rb]; simp [ew, eh]
    have e2 : qh a b = chgL (zd 0 a.cells b.cells) := by unfold qh; rw [if_pos e1]
    have len : a.cells.length = b.cells.length := by
     have h1 := (zQ ra).2.1
     have h2 := (zQ rb).2.1
     rw [ew, eh] at h1
     omega
    have rowb := jR rb
    have g1 : (a.w != b.w) = false := by rw [ew]; simp
    have g2 : (a.h != b.h) = false := by rw [eh]; simp
    have E1 := Xk e1
    have E2 := Xk e2
    obtain ⟨X, hX⟩ : ∃ X, X = w2.alloc (.cells #[.slice none 0 0] 38) := ⟨_, rfl⟩
    have bX : Boxed X w2.heap.size 38 (.slice none 0 0) := by rw [hX]; exact Boxed.new w2 _ _
    have BX : Below w.heap.size w X := by rw [hX]; exact B2.out.alloc B2.out.size _
    have U := Xk (ZU 30 #[.pointer (some ⟨w2.heap.size, 0, none⟩)] (enters_of Tryz.func30 (by kernel_rfl) rfl)
     (fun pre W => BoxRow W w2.heap.size w2.heap.size (chgL pre) /\ Below w.heap.size w W) A1 A2 c1 c2 a.cells b.cells len HB1.out.len rowb
     (fun pre i n W hj hp hn => by
      obtain ⟨q1, q2⟩ := chg_pre rowb len hp hn
      have hl := HB1.out.len
      refine (d_chg1 w2.heap.size w2.heap.size (chgL pre) i n hn (by omega) (by omega) W hj.1 ?_ Xm).mono ?_
      ·obtain ⟨v, hv, _⟩ := hj.1
       exact Nat.le_of_lt hv.lt
      ·rintro e W' ⟨hv, h1, h2⟩
       exact ⟨hv, by rw [ZW]; exact h1, hj.2.trans (h2.mono B2.out.size)⟩)
     (fun pre W hj => ⟨((HA1.out.below hj.2).more hj.2.size).sees, ((HB1.out.below hj.2).more hj.2.size).sees⟩)
     (fun pre W W' hj hb => ⟨hj.1.keep hb, hj.2.trans (hb.mono hj.2.size)⟩) X ⟨⟨_, bX, World.ownsRow_nil _ _ _ _⟩, BX⟩)
    have lX : Below w2.heap.size w2 X := by rw [hX]; exact (Below.refl _ _).alloc Xm _
    have X2 := (KK1.out.keep lX KK1.out.lt).c 2 _ rfl
    have Y2 := (KK2.out.keep lX KK2.out.lt).c 2 _ rfl
    rw [hX] at X2 Y2
    clear e1 e2 len rowb rb ra ew eh bX BX lX x2 y2
    go_wp2_with fail
    rw [<- hX]
    clear hX
    refine U.out.mono ?_; rintro e w3 ⟨⟨v0, rfl⟩, ⟨v, hv, hrow⟩, hb3⟩
    have cO := hv.cell
    obtain ⟨A, c, rfl⟩ := jb hrow
    have OW := Xk (xP hrow B2.out.size)
    have BB := Xk hb3
    clear hv hrow hb3
    go_wp2_with fail
    go_ret2
    rw [E1.out, E2.out]
    exact ⟨_, rfl, OW.out, BB.out⟩
   ·have e1 : qg a b = 5 := by
     unfold qg
     rw [ra, rb]
     have : a.w ≠ b.w \/ a.h ≠ b.h := by
      by_cases z : a.w = b.w
      ·exact Or.inr (fun y => sz ⟨z, y⟩)
      ·exact Or.inl z
     simp [this]
    have e2 : qh a b = [] := by unfold qh; rw [e1]; rfl
    have E1 := Xk e1
    have E2 := Xk e2
    clear e1 e2
    by_cases ew : a.w = b.w
    ·have g1 : (a.w != b.w) = false := by rw [ew]; simp
     have g2 : (a.h != b.h) = true := by rw [bne_iff_ne]; exact fun y => sz ⟨ew, y⟩
     clear ew sz ra rb
     go_wp2_with fail
     go_ret2
     rw [E1.out, E2.out]
     exact ⟨_, rfl, World.ownsRow_nil _ _ _ _, B2.out⟩
    ·have g1 : (a.w != b.w) = true := by rw [bne_iff_ne]; exact ew
     clear ew sz ra rb
     go_wp2_with fail
     go_ret2
     rw [E1.out, E2.out]
     exact ⟨_, rfl, World.ownsRow_nil _ _ _ _, B2.out⟩
end
section
open Go Go.RowKit Go.Sort
section
set_option maxHeartbeats 16000000 in
set_option maxRecDepth 100000 in
theorem Z3 (A1 A2 : Option Addr) (c1 c2 : Nat) (L1 L2 : List Cel) (hl : L1.length <= 1000000000000) (hl2 : L2.length <= 1000000000000) (w : World) (S1 : Sees w w.heap.size A1 (zc L1)) (S2 : Sees w w.heap.size A2 (zc L2)) :
    Calls Tryz.prog 25 #[.slice A1 L1.length c1, .slice A2 L2.length c2] w fun e w' => e = .returned (.bool (decide (L1 = L2))) /\ Below w.heap.size w w' := by
  have HS1 := Xk S1
  have HS2 := Xk S2
  have YES : Hid (∀ e : Ending, e = .returned (.bool true) -> L1 = L2 -> e = .returned (.bool (decide (L1 = L2)))) := Xk (fun e h1 h2 => by rw [h1, decide_eq_true h2])
  have NO : Hid (∀ e : Ending, e = .returned (.bool false) -> L1 ≠ L2 -> e = .returned (.bool (decide (L1 = L2)))) := Xk (fun e h1 h2 => by rw [h1, decide_eq_false h2])
  have LE : Hid (L1.length ≠ L2.length -> L1 ≠ L2) := Xk (fun h e => h (by rw [e]))
  generalize hD : decide (L1 = L2) = D at *
  obtain ⟨N, hN⟩ : ∃ N, N = L1.length := ⟨_, rfl⟩
  obtain ⟨M, hM⟩ : ∃ M, M = L2.length := ⟨_, rfl⟩
  have HN := Xk hN
  have HM := Xk hM
  rw [<- hN] at hl LE ⊢
  rw [<- hM] at hl2 LE ⊢
  clear S1 S2 hD hN hM
  by_cases nm : N = M
  case neg =>
    have q : ((N : Int) == (M : Int)) = false := by rw [beq_eq_false_iff_ne]; omega
    have NE := Xk (LE.out nm)
    go_enter Tryz.func25, Tryz.ntmps25
    go_wp2_with fail
    go_ret
    exact ⟨NO.out _ rfl NE.out, Below.refl _ _⟩
  subst nm
  go_enter Tryz.func25, Tryz.ntmps25
  go_wp2_with fail
  go_loopw [5] (fun s5 wr => ∃ k : Nat, k <= N /\ s5 = .int .i64 (k : Int) /\ Hid (L1.take k = L2.take k) /\ Hid (Below w.heap.size w wr)) (fun s5 _ => N - (intOf s5).toNat)
  case atStart => exact ⟨0, Nat.zero_le _, rfl, Xk (by simp), Xk (Below.refl _ _)⟩
  case round =>
    obtain ⟨k, hk, rfl, ht, hb⟩ := hrel
    by_cases lt : k < N
    · have k1 : k < L1.length := by rw [<- HN.out]; exact lt
      have k2 : k < L2.length := by rw [<- HM.out]; exact lt
      have BD := Xk (fun q => qt q wr hb.out)
      obtain ⟨ad, rfl, ab, _⟩ := jc HS1.out k k1
      obtain ⟨ae, rfl, bb, _⟩ := jc HS2.out k k2
      have CA := Xk (fun q => qT (HS1.out.below (BD.out q) Xm) k k1)
      have CB := Xk (fun q => qT (HS2.out.below (BD.out q) Xm) k k2)
      have T1 := Xk (List.take_succ_eq_append_getElem k1)
      have T2 := Xk (List.take_succ_eq_append_getElem k2)
      have DF : Hid (L1[k] ≠ L2[k] -> L1 ≠ L2) := Xk (fun h e => by subst e; exact h rfl)
      generalize L1[k] = x at *
      generalize L2[k] = y at *
      obtain ⟨tx, wx, ⟨fx, gx, ax⟩⟩ := x
      obtain ⟨ty, wy, ⟨fy, gy, ay⟩⟩ := y
      dsimp only at CA CB
      have z0 := fun q => (CA.out q).1
      have z1 := fun q => (CA.out q).2.1
      have z2 := fun q => (CA.out q).2.2.1
      have z3 := fun q => (CA.out q).2.2.2.1
      have z4 := fun q => (CA.out q).2.2.2.2
      have y0 := fun q => (CB.out q).1
      have y1 := fun q => (CB.out q).2.1
      have y2 := fun q => (CB.out q).2.2.1
      have y3 := fun q => (CB.out q).2.2.2.1
      have y4 := fun q => (CB.out q).2.2.2.2
      have q0 : (0 : Int) <= (k : Int) := by omega
      have q5 : (k : Int) < (N : Int) := by omega
      have tn : (k : Int).toNat = k := by omega
      have wk := Xl ((k : Int) + 1) (by omega)
      clear CA CB k1 k2
      go_upto_region 6 with fail
      by_cases e1 : (⟨tx, wx, ⟨fx, gx, ax⟩⟩ : Cel) = ⟨ty, wy, ⟨fy, gy, ay⟩⟩
      · have NX : Hid (L1.take (k + 1) = L2.take (k + 1)) := Xk (by rw [T1.out, T2.out, ht.out, e1])
        injection e1 with a1 a2 a3; injection a3 with a3 a4 a5
        subst a1 a2 a3 a4 a5
        refine qB 8 (by kernel_rfl) (by kernel_rfl) ?_
        simp only [Xn, Xo, Xp, Xq]
        repeat (first | go_big_quiet_step (fail) | quiet_step (fail))
        refine wpQuiet_nil ?_
        intro _ hw'
        obtain ⟨nq, hw''⟩ := hw'
        subst hw''
        have B5 := Xk (BD.out nq)
        clear z0 z1 z2 z3 z4 y0 y1 y2 y3 y4 BD
        generalize wr.drewN nq = V at *
        go_wp2_with fail
        go_roundw
        case rel => exact ⟨k + 1, by omega, by go_num, NX, B5⟩
        case measure => simp [intOf]; omega
      · have NE := Xk (DF.out e1)
        refine qB 8 (by kernel_rfl) (by kernel_rfl) ?_
        simp only [Xn, Xo, Xp, Xq]
        repeat (first | go_big_quiet_step (fail) | quiet_step (fail))
        refine wpQuiet_nil ?_
        intro _ hw'
        obtain ⟨nq, hw''⟩ := hw'
        subst hw''
        have B5 := Xk (BD.out nq)
        clear z0 z1 z2 z3 z4 y0 y1 y2 y3 y4 BD
        generalize wr.drewN nq = V at *
        have CN := Xk (jF True False e1)
        clear e1 DF T1 T2
        go_wp2_with fail
        all_goals first
        | (go_ret; exact ⟨NO.out _ rfl NE.out, B5.out⟩)
        | (exfalso
           have q := CN.out
           simp only [*, if_true] at q
           exact q.mp trivial)
    · have e : k = N := by omega
      subst e
      have q5 : ¬ (k : Int) < (k : Int) := by omega
      have EQ : Hid (L1 = L2) := Xk (by
        have := ht.out
        rw [List.take_of_length_le (by rw [<- HN.out]; exact Xm), List.take_of_length_le (by rw [<- HM.out]; exact Xm)] at this
        exact this)
      clear ht
      go_wp2_with fail
      go_ret
      exact ⟨YES.out _ rfl EQ.out, hb.out⟩
end
end
section
open Go Go.RowKit Go.Sort
section
set_option maxHeartbeats 16000000 in
set_option maxRecDepth 100000 in
theorem kN (s : Scr) (A1 A2 : Option Addr) (c1 c2 : Nat) (hl : s.cells.length <= 1000000000000) (w : World) (S1 : Sees w w.heap.size A1 (zc s.cells)) (S2 : Sees w w.heap.size A2 (zc s.cells)) :
  Calls Tryz.prog 10 #[scrV s A1 c1, scrV s A2 c2] w fun e w' => e = .returned (.bool true) /\ Below w.heap.size w w' := by
 obtain ⟨sw, sh, L, sx, sy, sn⟩ := s
 dsimp only at hl S1 S2
 simp only [scrV]
 obtain ⟨Q0, hQ0⟩ : ∃ Q0, Q0 = w.alloc (.cells #[.int .i64 sw, .int .i64 sh, .slice A1 L.length c1, .int .i64 sx, .int .i64 sy, .bool sn] 24) := ⟨_, rfl⟩
 have B0 : Below w.heap.size w Q0 := by rw [hQ0]; exact (Below.refl _ w).alloc Xm _
 have K0 : Bq Q0 w.heap.size [.int .i64 sw, .int .i64 sh, .slice A1 L.length c1, .int .i64 sx, .int .i64 sy, .bool sn] := by rw [hQ0]; exact Bq.new w _ _
 have z0 : Q0.heap.size = w.heap.size + 1 := by rw [hQ0]; simp
 obtain ⟨Q, hQ⟩ : ∃ Q, Q = Q0.alloc (.cells #[.int .i64 sw, .int .i64 sh, .slice A2 L.length c2, .int .i64 sx, .int .i64 sy, .bool sn] 24) := ⟨_, rfl⟩
 have B1 : Below Q0.heap.size Q0 Q := by rw [hQ]; exact (Below.refl _ Q0).alloc Xm _
 have KA : Bq Q w.heap.size [.int .i64 sw, .int .i64 sh, .slice A1 L.length c1, .int .i64 sx, .int .i64 sy, .bool sn] := K0.keep B1 (by omega)
 have KB : Bq Q (w.heap.size + 1) [.int .i64 sw, .int .i64 sh, .slice A2 L.length c2, .int .i64 sx, .int .i64 sy, .bool sn] := by rw [hQ, <- z0]; exact Bq.new Q0 _ _
 have BQ := B0.trans (B1.mono B0.size)
 have SC := Z3 A1 A2 c1 c2 L L hl hl Q ((S1.below BQ Xm).more BQ.size) ((S2.below BQ Xm).more BQ.size)
 rw [decide_eq_true (show L = L from rfl)] at SC
 have HQ := Xk (show Q = (w.alloc (.cells #[.int .i64 sw, .int .i64 sh, .slice A1 L.length c1, .int .i64 sx, .int .i64 sy, .bool sn] 24)).alloc (.cells #[.int .i64 sw, .int .i64 sh, .slice A2 L.length c2, .int .i64 sx, .int .i64 sy, .bool sn] 24) by rw [hQ, hQ0])
 have a0 := KA.c 0 _ rfl
 have a1 := KA.c 1 _ rfl
 have a2 := KA.c 2 _ rfl
 have a3 := KA.c 3 _ rfl
 have a4 := KA.c 4 _ rfl
 have a5 := KA.c 5 _ rfl
 have b0 := KB.c 0 _ rfl
 have b1 := KB.c 1 _ rfl
 have b2 := KB.c 2 _ rfl
 have b3 := KB.c 3 _ rfl
 have b4 := KB.c 4 _ rfl
 have b5 := KB.c 5 _ rfl
 have SC := Xk SC
 have HB := Xk BQ
 clear hQ hQ0 B0 B1 K0 KA KB z0 BQ S1 S2
 generalize L.length = n at *
 go_enter Tryz.func10, Tryz.ntmps10
 go_upto_region 1 with fail
 rw [<- HQ.out]
 clear HQ
 cases sn with
 | true =>
  go_wp2_with fail
  refine SC.out.mono ?_; rintro e w1 ⟨rfl, h1⟩
  have HB1 := Xk (HB.out.trans (h1.mono HB.out.size))
  clear h1 SC
  go_wp2_with fail
  go_ret
  exact ⟨rfl, HB1.out⟩
 | false =>
  go_wp2_with fail
  refine SC.out.mono ?_; rintro e w1 ⟨rfl, h1⟩
  have HB1 := Xk (HB.out.trans (h1.mono HB.out.size))
  clear h1 SC
  go_wp2_with fail
  go_ret
  exact ⟨rfl, HB1.out⟩
end
end
section
open Go Go.RowKit Go.Sort
section
theorem kO : (Tryz.prog.info? 58).map (fun i => (i.zero.map (·.cells), i.size, i.bytes)) = some (some #[.string ⟨#[]⟩, .int .i8 0, .int .i32 0, .int .i32 0, .int .u8 0], 5, 32) := by kernel_rfl
theorem kP {w : World} {base n : Nat} {T : TypeId} {v : Value} {xs : List Value} (h : w.ownsRow base T 5 v n xs) : ∃ A c, v = .slice A n c := by
 rcases h.2 with ⟨rfl, rfl⟩ | ⟨g, cap, cur, rfl, _⟩
 ·exact ⟨_, _, rfl⟩
 ·exact ⟨_, _, rfl⟩
theorem zD {w w' : World} {base n : Nat} {T : TypeId} {v : Value} {xs : List Value} (h : w.ownsRow base T 5 v n xs) (hb : Below w.heap.size w w') : w'.ownsRow base T 5 v n xs := by
 rcases h.2 with a | ⟨g, cap, cur, e1, e2, e3, e4⟩
 ·exact ⟨h.1, Or.inl a⟩
 ·exact ⟨h.1, Or.inr ⟨g, cap, cur, e1, e2, (hb.block g (Array.getElem?_eq_some_iff.1 e3).1).trans e3, e4⟩⟩
theorem xS {w : World} {LO sz n : Nat} {T : TypeId} {v : Value} {xs : List Value} (h : w.ownsRow LO T sz v n xs) {p : Addr} (hp : p.block < LO) (u : Value) : (w.setCell p u).ownsRow LO T sz v n xs := by
 rcases h.2 with a | ⟨g, cap, cur, e1, e2, e3, e4⟩
 ·exact ⟨h.1, Or.inl a⟩
 ·exact ⟨h.1, Or.inr ⟨g, cap, cur, e1, e2, (heap_setCell_other _ _ _ _ (fun z => by omega)).trans e3, e4⟩⟩
theorem app_cel {w : World} {LO n c : Nat} {A : Option Addr} {xs : List Value} (o : w.ownsRow LO 58 5 (.slice A n c) n xs) (x : Cel) (hLO : LO <= w.heap.size) (len : n <= 1000000000000) :
  ∃ A' c' w3, (Builtin.append_ #[22, 22] 22 #[.slice A n c, .slice (some ⟨w.heap.size, 0, none⟩) 1 1]).run Tryz.prog (w.alloc (.cells #[.string x.text, .int .i8 x.wide, .int .i32 x.st.fg, .int .i32 x.st.bg, .int .u8 (bI x.st.at_)] 58)) = .ok (.slice A' (n + 1) c') w3 /\
   w3.ownsRow LO 58 5 (.slice A' (n + 1) c') (n + 1) (xs ++ celV x) /\ Below LO w w3 := by
 obtain ⟨i0, hi0, hzz⟩ := Option.map_eq_some_iff.1 kO
 simp only [Prod.mk.injEq] at hzz
 obtain ⟨hz0, hz1, hz2⟩ := hzz
 obtain ⟨z0, hz3, hz4⟩ := Option.map_eq_some_iff.1 hz0
 have bu : Below w.heap.size w (w.alloc (.cells #[.string x.text, .int .i8 x.wide, .int .i32 x.st.fg, .int .i32 x.st.bg, .int .u8 (bI x.st.at_)] 58)) := (Below.refl _ w).alloc Xm _
 have o1 := zD o bu
 obtain ⟨v', w3, r1, r2, r3, r4⟩ := run_append_own (P := Tryz.prog) (w.alloc (.cells #[.string x.text, .int .i8 x.wide, .int .i32 x.st.fg, .int .i32 x.st.bg, .int .u8 (bI x.st.at_)] 58)) LO 22 22 58 i0 z0 5 32 Tryz.underlying22 hi0 hz3 hz1 hz2 (by rw [hz4]; rfl) (by decide) _ n xs o1 ⟨w.heap.size, 0, none⟩ 1 1 (celV x) rfl (qj w (celV x) _) (by intro u hu; simp [celV] at hu; rcases hu with rfl | rfl | rfl | rfl | rfl <;> rfl) (by unfold maxLen; omega) (by omega) (Nat.le_trans hLO bu.size)
 obtain ⟨A', c', e⟩ := kP r2
 subst e
 exact ⟨A', c', w3, r1, r2, (bu.mono hLO).grown r3 (Nat.le_trans hLO bu.size) (fun k hk => (o1.lt k hk).1)⟩
set_option maxHeartbeats 16000000 in
set_option maxRecDepth 100000 in
theorem JA (s : Scr) (d : Int) (A : Option Addr) (c : Nat) (hl : s.cells.length <= 1000000000) (ok : ∀ x ∈ s.cells, okR x) (w : World) (S : Sees w w.heap.size A (zc s.cells)) :
  Calls Tryz.prog 22 #[scrV s A c, .int .i64 d] w fun e w' => ∃ A' c', e = .returned (scrV (redS s d) A' c') /\ w'.ownsRow w.heap.size 58 5 (.slice A' s.cells.length c') s.cells.length (zc (redL s.cells d)) /\ Below w.heap.size w w' := by
 obtain ⟨L, hL⟩ : ∃ L, L = s.cells := ⟨_, rfl⟩
 have RS : redS s d = ⟨s.w, s.h, redL L d, s.x, s.y, s.shown⟩ := by rw [hL]; rfl
 rw [RS]
 simp only [scrV]
 rw [<- hL] at hl ok S ⊢
 have rl : (redL L d).length = L.length := by unfold redL; rw [List.length_map]
 rw [rl]
 have HS := Xk S
 have HO := Xk ok
 obtain ⟨n, hn⟩ : ∃ n, n = L.length := ⟨_, rfl⟩
 have HN := Xk hn
 rw [<- hn] at hl ⊢
 clear S ok hL RS rl hn
 generalize s.w = sw at *
 generalize s.h = sh at *
 generalize s.x = sx at *
 generalize s.y = sy at *
 generalize s.shown = sn at *
 obtain ⟨Q0, hQ0⟩ : ∃ Q0, Q0 = w.alloc (.cells #[.int .i64 sw, .int .i64 sh, .slice A n c, .int .i64 sx, .int .i64 sy, .bool sn] 24) := ⟨_, rfl⟩
 have B0 : Below w.heap.size w Q0 := by rw [hQ0]; exact (Below.refl _ w).alloc Xm _
 have K0 : Blk Q0 w.heap.size [.int .i64 sw, .int .i64 sh, .slice A n c, .int .i64 sx, .int .i64 sy, .bool sn] := by rw [hQ0]; exact Blk.new w _ _
 have z0 : Q0.heap.size = w.heap.size + 1 := by rw [hQ0]; simp
 obtain ⟨Q, hQ⟩ : ∃ Q, Q = Q0.alloc (.cells #[.int .i64 0, .int .i64 0, .slice none 0 0, .int .i64 0, .int .i64 0, .bool false] 24) := ⟨_, rfl⟩
 have B1 : Below Q0.heap.size Q0 Q := by rw [hQ]; exact (Below.refl _ Q0).alloc Xm _
 have KA : Blk Q w.heap.size [.int .i64 sw, .int .i64 sh, .slice A n c, .int .i64 sx, .int .i64 sy, .bool sn] := K0.keep B1 (by omega)
 have KB : Blk Q (w.heap.size + 1) [.int .i64 0, .int .i64 0, .slice none 0 0, .int .i64 0, .int .i64 0, .bool false] := by rw [hQ, <- z0]; exact Blk.new Q0 _ _
 have z1 : Q.heap.size = w.heap.size + 2 := by rw [hQ]; simp [z0]
 have HQ := Xk (show Q = (w.alloc (.cells #[.int .i64 sw, .int .i64 sh, .slice A n c, .int .i64 sx, .int .i64 sy, .bool sn] 24)).alloc (.cells #[.int .i64 0, .int .i64 0, .slice none 0 0, .int .i64 0, .int .i64 0, .bool false] 24) by rw [hQ, hQ0])
 have HBQ := Xk (B0.trans (B1.mono B0.size))
 have HA := Xk KA
 have HC := Xk KB
 have ZS := Xk z1
 clear hQ hQ0 B0 B1 K0 KA KB z0 z1
 go_enter Tryz.func22, Tryz.ntmps22
 go_upto_region 1 with fail
 rw [<- HQ.out]
 clear HQ
 go_wp2_with fail
 go_loopw [5, 6] (fun s5 s6 wr => ∃ (i : Nat) (A' : Option Addr) (c' : Nat), i <= n /\ s5 = .slice A' i c' /\ s6 = .int .i64 (i : Int) /\ Hid (wr.ownsRow Q.heap.size 58 5 (.slice A' i c') i (zc (redL (L.take i) d))) /\ Hid (Below Q.heap.size Q wr)) (fun _ s6 _ => n - (intOf s6).toNat)
 case atStart => exact ⟨0, none, 0, Nat.zero_le _, rfl, rfl, Xk (World.ownsRow_nil _ _ _ _), Xk (Below.refl _ _)⟩
 case round =>
  obtain ⟨i, A', c', hi, rfl, rfl, ho, hb⟩ := hrel
  have kA := HA.out.keep hb.out (by rw [ZS.out]; omega)
  have a2 := kA.c 2 _ rfl
  have HkA := Xk kA
  have gq : w.heap.size < wr.heap.size := by have := hb.out.size; rw [ZS.out] at this; omega
  have HGQ := Xk gq
  clear kA gq
  by_cases lt : i < n
  ·have il : i < L.length := by rw [<- HN.out]; exact lt
   have ne : zc L ≠ [] := fun z => by have := congrArg List.length z; rw [qL] at this; simp at this; omega
   obtain ⟨ad, rfl, hab, _⟩ := HS.out ne
   have BW := HBQ.out.trans (hb.out.mono HBQ.out.size)
   obtain ⟨x0, x1, x2, x3, x4⟩ := qT (HS.out.below BW Xm) i il
   have tk : redL (L.take (i + 1)) d = redL (L.take i) d ++ [redC d L[i]] := by
    unfold redL
    rw [List.take_succ_eq_append_getElem il, List.map_append]
    rfl
   have okx := HO.out _ (List.getElem_mem il)
   have HTK := Xk tk
   generalize L[i] = x at *
   obtain ⟨tx, wd, f, b, a⟩ := x
   dsimp only at x0 x1 x2 x3 x4
   have RD := Xk (fun W => Jw ⟨f, b, a⟩ d okx.fg okx.bg W)
   obtain ⟨st, hst⟩ : ∃ st, st = zK ⟨f, b, a⟩ d := ⟨_, rfl⟩
   rw [<- hst] at RD
   have HST := Xk (show redC d ⟨tx, wd, f, b, a⟩ = ⟨tx, wd, st⟩ by rw [hst]; rfl)
   obtain ⟨V1, hV1⟩ : ∃ V1, V1 = wr.alloc (.cells #[.string tx, .int .i8 wd, .int .i32 f, .int .i32 b, .int .u8 (bI a)] 58) := ⟨_, rfl⟩
   have b1 : Below wr.heap.size wr V1 := by rw [hV1]; exact (Below.refl _ wr).alloc Xm _
   have K1 : Blk V1 wr.heap.size [.string tx, .int .i8 wd, .int .i32 f, .int .i32 b, .int .u8 (bI a)] := by rw [hV1]; exact Blk.new wr _ _
   have s1 : wr.heap.size < V1.heap.size := by rw [hV1]; simp
   have HV1 := Xk hV1
   have Hb1 := Xk b1
   have HK1 := Xk K1
   have HS1 := Xk s1
   have q0 : (0 : Int) <= (i : Int) := by omega
   have q5 : (i : Int) < (n : Int) := by omega
   have tn : (i : Int).toNat = i := by omega
   have wk := Xl ((i : Int) + 1) (by omega)
   clear ne BW tk okx hst hV1 b1 K1 s1
   go_upto_region 6 with fail
   rw [<- HV1.out]
   clear HV1 x0 x1 x2 x3 x4 a2
   have y2 := HK1.out.c 2 _ rfl
   have y3 := HK1.out.c 3 _ rfl
   have y4 := HK1.out.c 4 _ rfl
   have RD := Xk (RD.out V1)
   go_wp2_with fail
   refine RD.out.mono ?_; rintro e V2 ⟨rfl, h2⟩
   have K2 := HK1.out.keep h2 HS1.out
   have y2 := K2.c 2 _ rfl
   have y3 := K2.c 3 _ rfl
   have y4 := K2.c 4 _ rfl
   have f2 := K2.f 2 _ rfl
   have f3 := K2.f 3 _ rfl
   have f4 := K2.f 4 _ rfl
   obtain ⟨V3, hV3⟩ : ∃ V3, V3 = ((V2.setCell ⟨wr.heap.size, 2, none⟩ (.int .i32 st.fg)).setCell ⟨wr.heap.size, 3, none⟩ (.int .i32 st.bg)).setCell ⟨wr.heap.size, 4, none⟩ (.int .u8 (bI st.at_)) := ⟨_, rfl⟩
   have K3 : Blk V3 wr.heap.size [.string tx, .int .i8 wd, .int .i32 st.fg, .int .i32 st.bg, .int .u8 (bI st.at_)] := by
    rw [hV3]
    exact ((K2.set 2 (.int .i32 st.fg) _ rfl).set 3 (.int .i32 st.bg) _ rfl).set 4 (.int .u8 (bI st.at_)) _ rfl
   have B3 : Below wr.heap.size wr V3 := by
    rw [hV3]
    exact (((Hb1.out.trans (h2.mono Hb1.out.size)).setCell (p := ⟨wr.heap.size, 2, none⟩) Xm _).setCell (p := ⟨wr.heap.size, 3, none⟩) Xm _).setCell (p := ⟨wr.heap.size, 4, none⟩) Xm _
   have BQ3 := hb.out.trans (B3.mono hb.out.size)
   obtain ⟨A2, c2, w4, R, o4, b4⟩ := app_cel (zD ho.out B3) ⟨tx, wd, st⟩ BQ3.size (by omega)
   dsimp only at R
   have HV3 := Xk hV3
   have HO4 := Xk o4
   have HB4 := Xk (BQ3.trans b4)
   have CE := Xk (show zc (redL (L.take (i + 1)) d) = zc (redL (L.take i) d) ++ celV ⟨tx, wd, st⟩ by
    rw [HTK.out, HST.out, jP]
    simp [zc])
   have HK3 := Xk K3
   clear RD h2 K2 hV3 K3 B3 BQ3 o4 b4 ho hb
   go_upto_region 7 with fail
   rw [<- HV3.out]
   clear HV3 y2 y3 y4 f2 f3 f4
   have y0 := HK3.out.c 0 _ rfl
   have y1 := HK3.out.c 1 _ rfl
   have y2 := HK3.out.c 2 _ rfl
   have y3 := HK3.out.c 3 _ rfl
   have y4 := HK3.out.c 4 _ rfl
   go_wp2_with (first | (at_builtin; refine jl rfl (.tmp 25) (.tmp 27) 22 22 rfl _ _ _ _ rfl rfl R ?_) | fail)
   go_roundw
   case rel => exact ⟨i + 1, A2, c2, by omega, rfl, by go_num, by rw [CE.out]; exact HO4, HB4⟩
   case measure => simp [intOf]; omega
  ·have e : i = n := by omega
   subst e
   have q5 : ¬ (i : Int) < (i : Int) := by omega
   have f2 := HkA.out.f 2 _ rfl
   have kB := HC.out.keep hb.out (by rw [ZS.out]; omega)
   obtain ⟨V, hV⟩ : ∃ V, V = wr.setCell ⟨w.heap.size, 2, none⟩ (.slice A' i c') := ⟨_, rfl⟩
   have KV : Blk V w.heap.size [.int .i64 sw, .int .i64 sh, .slice A' i c', .int .i64 sx, .int .i64 sy, .bool sn] := by rw [hV]; exact HkA.out.set 2 _ _ rfl
   have KW : Blk V (w.heap.size + 1) [.int .i64 0, .int .i64 0, .slice none 0 0, .int .i64 0, .int .i64 0, .bool false] := by rw [hV]; exact kB.far (by omega)
   have BV : Below w.heap.size w V := by rw [hV]; exact (HBQ.out.trans (hb.out.mono HBQ.out.size)).setCell (p := ⟨w.heap.size, 2, none⟩) Xm _
   have ov : V.ownsRow Q.heap.size 58 5 (.slice A' i c') i (zc (redL L d)) := by
    have o := ho.out
    rw [HN.out, List.take_length, <- HN.out] at o
    rcases o.2 with a | ⟨g, cap, cur, e1, e2, e3, e4⟩
    ·exact ⟨o.1, Or.inl a⟩
    ·exact ⟨o.1, Or.inr ⟨g, cap, cur, e1, e2, by rw [hV]; exact (heap_setCell_other _ _ _ _ (fun z => by have z : g = w.heap.size := z; rw [ZS.out] at e2; omega)).trans e3, e4⟩⟩
   have HV := Xk hV
   have HOV := Xk ov
   have HBV := Xk BV
   have HZQ : Hid (w.heap.size + 1 < Q.heap.size) := Xk (by rw [ZS.out]; omega)
   have kv0 := KV.c 0 _ rfl
   have kv1 := KV.c 1 _ rfl
   have kv2 := KV.c 2 _ rfl
   have kv3 := KV.c 3 _ rfl
   have kv4 := KV.c 4 _ rfl
   have kv5 := KV.c 5 _ rfl
   have kw0 := KW.c 0 _ rfl
   have kw1 := KW.c 1 _ rfl
   have kw2 := KW.c 2 _ rfl
   have kw3 := KW.c 3 _ rfl
   have kw4 := KW.c 4 _ rfl
   have kw5 := KW.c 5 _ rfl
   have fw0 := KW.f 0 _ rfl
   have fw1 := KW.f 1 _ rfl
   have fw2 := KW.f 2 _ rfl
   have fw3 := KW.f 3 _ rfl
   have fw4 := KW.f 4 _ rfl
   have fw5 := KW.f 5 _ rfl
   clear hV KV KW BV ov ho hb kB
   go_upto_region 9 with fail
   rw [<- HV.out]
   clear HV a2 f2
   go_wp2_with fail
   refine bodyPost_ret (v := .agg #[.int .i64 sw, .int .i64 sh, .slice A' i c', .int .i64 sx, .int .i64 sy, .bool sn]) (by simp [results, Tryz.results22, go_sem, *]) rfl ?_
   refine ⟨A', c', rfl, ?_, ?_⟩
   ·refine qR (base := Q.heap.size) ?_ (by have := HZQ.out; omega)
    repeat (refine xS ?_ HZQ.out _)
    exact HOV.out
   ·repeat (refine Below.setCell ?_ (p := ⟨w.heap.size + 1, _, none⟩) (Nat.le_succ _) _)
    exact HBV.out
end
end
section
open Go Go.RowKit Go.Sort
section
set_option maxHeartbeats 16000000 in
set_option maxRecDepth 100000 in
theorem JC (s : Scr) (d : Int) (A : Option Addr) (c : Nat) (hcp : s.cells.length <= c) (hA : A = none -> c = 0) (hl : s.cells.length <= 1000000000) (ok : ∀ x ∈ s.cells, okR x) (w : World) (S : Sees w w.heap.size A (zc s.cells)) :
  Calls Tryz.prog 7 #[scrV s A c, .int .i64 d] w fun e w' => ∃ u A' c', e = .returned (.tuple #[scrV u A' c', .int .i64 (if zh s = true then 0 else 180)]) /\ u = (if zh s = true then redS s d else ⟨0, 0, [], 0, 0, false⟩) /\ w'.ownsRow w.heap.size 58 5 (.slice A' u.cells.length c') u.cells.length (zc u.cells) /\ Below w.heap.size w w' := by
 obtain ⟨Q0, hQ0⟩ : ∃ Q0, Q0 = w.alloc (.cells #[.int .i64 s.w, .int .i64 s.h, .slice A s.cells.length c, .int .i64 s.x, .int .i64 s.y, .bool s.shown] 24) := ⟨_, rfl⟩
 have B0 : Below w.heap.size w Q0 := by rw [hQ0]; exact (Below.refl _ w).alloc Xm _
 have K0 : Blk Q0 w.heap.size [.int .i64 s.w, .int .i64 s.h, .slice A s.cells.length c, .int .i64 s.x, .int .i64 s.y, .bool s.shown] := by rw [hQ0]; exact Blk.new w _ _
 have z0 : Q0.heap.size = w.heap.size + 1 := by rw [hQ0]; simp
 obtain ⟨Q, hQ⟩ : ∃ Q, Q = Q0.alloc (.cells #[.int .i64 0, .int .i64 0, .slice none 0 0, .int .i64 0, .int .i64 0, .bool false] 24) := ⟨_, rfl⟩
 have B1 : Below Q0.heap.size Q0 Q := by rw [hQ]; exact (Below.refl _ Q0).alloc Xm _
 have KA : Blk Q w.heap.size [.int .i64 s.w, .int .i64 s.h, .slice A s.cells.length c, .int .i64 s.x, .int .i64 s.y, .bool s.shown] := K0.keep B1 (by omega)
 have KB : Blk Q (w.heap.size + 1) [.int .i64 0, .int .i64 0, .slice none 0 0, .int .i64 0, .int .i64 0, .bool false] := by rw [hQ, <- z0]; exact Blk.new Q0 _ _
 have z1 : Q.heap.size = w.heap.size + 2 := by rw [hQ]; simp [z0]
 have BQ := B0.trans (B1.mono B0.size)
 have SQ := (S.below BQ Xm).more BQ.size
 have RG := Xk (kH s A c hcp hA (by omega) ok Q SQ)
 have RD := Xk (fun (W : World) (hB : Below Q.heap.size Q W) => JA s d A c hl ok W ((SQ.below hB Xm).more hB.size))
 have HQ := Xk (show Q = (w.alloc (.cells #[.int .i64 s.w, .int .i64 s.h, .slice A s.cells.length c, .int .i64 s.x, .int .i64 s.y, .bool s.shown] 24)).alloc (.cells #[.int .i64 0, .int .i64 0, .slice none 0 0, .int .i64 0, .int .i64 0, .bool false] 24) by rw [hQ, hQ0])
 have HBQ := Xk BQ
 have HA := Xk KA
 have HC := Xk KB
 have ZS := Xk z1
 have RL : Hid ((redS s d).cells.length = s.cells.length) := Xk (by show (redL s.cells d).length = _; unfold redL; rw [List.length_map])
 have RC : Hid ((redS s d).cells = redL s.cells d) := Xk rfl
 generalize zh s = R at *
 generalize redS s d = U at *
 simp only [scrV] at RG RD ⊢
 have kA0 := HA.out.c 0 _ rfl
 have kA1 := HA.out.c 1 _ rfl
 have kA2 := HA.out.c 2 _ rfl
 have kA3 := HA.out.c 3 _ rfl
 have kA4 := HA.out.c 4 _ rfl
 have kA5 := HA.out.c 5 _ rfl
 clear hQ hQ0 B0 B1 K0 KA KB z0 z1 BQ SQ S ok hA
 go_enter Tryz.func7, Tryz.ntmps7
 go_upto_region 1 with fail
 rw [<- HQ.out]
 clear HQ
 go_wp2_with fail
 refine RG.out.mono ?_; rintro e w1 ⟨rfl, h1⟩
 have kA := HA.out.keep h1 (by rw [ZS.out]; omega)
 have kB := HC.out.keep h1 (by rw [ZS.out]; omega)
 have HB1 := Xk h1
 have HBW := Xk (HBQ.out.trans (h1.mono HBQ.out.size))
 have RD := Xk (RD.out w1 h1)
 clear RG kA0 kA1 kA2 kA3 kA4 kA5 h1
 cases R with
 | false =>
  have kw0 := kB.c 0 _ rfl
  have kw1 := kB.c 1 _ rfl
  have kw2 := kB.c 2 _ rfl
  have kw3 := kB.c 3 _ rfl
  have kw4 := kB.c 4 _ rfl
  have kw5 := kB.c 5 _ rfl
  have fw0 := kB.f 0 _ rfl
  have fw1 := kB.f 1 _ rfl
  have fw2 := kB.f 2 _ rfl
  have fw3 := kB.f 3 _ rfl
  have fw4 := kB.f 4 _ rfl
  have fw5 := kB.f 5 _ rfl
  clear kA kB RD
  go_wp2_with fail
  refine bodyPost_ret (v := .tuple #[.agg #[.int .i64 0, .int .i64 0, .slice none 0 0, .int .i64 0, .int .i64 0, .bool false], .int .i64 180]) (by simp [results, Tryz.results7, go_sem, *]) rfl ?_
  refine ⟨⟨0, 0, [], 0, 0, false⟩, none, 0, rfl, rfl, World.ownsRow_nil _ _ _ _, ?_⟩
  repeat (refine Below.setCell ?_ (p := ⟨w.heap.size + 1, _, none⟩) (Nat.le_succ _) _)
  exact HBW.out
 | true =>
  have kA0 := kA.c 0 _ rfl
  have kA1 := kA.c 1 _ rfl
  have kA2 := kA.c 2 _ rfl
  have kA3 := kA.c 3 _ rfl
  have kA4 := kA.c 4 _ rfl
  have kA5 := kA.c 5 _ rfl
  have HKB := Xk kB
  clear kA kB
  go_wp2_with fail
  refine RD.out.mono ?_; rintro e w2 ⟨A', c', rfl, o2, b2⟩
  have kB := HKB.out.keep b2 (by have := HB1.out.size; rw [ZS.out] at this; omega)
  have kw0 := kB.c 0 _ rfl
  have kw1 := kB.c 1 _ rfl
  have kw2 := kB.c 2 _ rfl
  have kw3 := kB.c 3 _ rfl
  have kw4 := kB.c 4 _ rfl
  have kw5 := kB.c 5 _ rfl
  have fw0 := kB.f 0 _ rfl
  have fw1 := kB.f 1 _ rfl
  have fw2 := kB.f 2 _ rfl
  have fw3 := kB.f 3 _ rfl
  have fw4 := kB.f 4 _ rfl
  have fw5 := kB.f 5 _ rfl
  have HOV := Xk o2
  have HBV := Xk (HBW.out.trans (b2.mono HBW.out.size))
  have HZQ : Hid (w.heap.size + 1 < w1.heap.size) := Xk (by have := HB1.out.size; rw [ZS.out] at this; omega)
  clear RD kB o2 b2 kA0 kA1 kA2 kA3 kA4 kA5
  go_wp2_with fail
  refine bodyPost_ret (v := .tuple #[.agg #[.int .i64 U.w, .int .i64 U.h, .slice A' U.cells.length c', .int .i64 U.x, .int .i64 U.y, .bool U.shown], .int .i64 0]) (by simp [results, Tryz.results7, go_sem, *]) rfl ?_
  refine ⟨U, A', c', rfl, rfl, ?_, ?_⟩
  ·rw [RL.out, RC.out]
   refine qR (base := w1.heap.size) ?_ (by have := HZQ.out; omega)
   repeat (refine xS ?_ HZQ.out _)
   exact HOV.out
  ·repeat (refine Below.setCell ?_ (p := ⟨w.heap.size + 1, _, none⟩) (Nat.le_succ _) _)
   exact HBV.out
end
end
section
open Go Go.RowKit Go.Sort
section
theorem JD (L : List Cel) : ∀ u ∈ zc L, u.oneCell' = true := fun u hu => by
 obtain ⟨x, _, hx⟩ := List.mem_flatMap.1 hu
 simp [celV] at hx
 rcases hx with rfl | rfl | rfl | rfl | rfl <;> rfl
theorem Z4 {w : World} {LO n c B m : Nat} {A A2 : Option Addr} {c2 : Nat} {xs : List Value} {L : List Cel} (o : w.ownsRow LO 58 5 (.slice A n c) n xs) (hm : m = L.length) (S : Sees w B A2 (zc L)) (hA : A2 = none -> c2 = 0) (cap : m <= c2) (hLO : LO <= w.heap.size) (len : n + m <= 1000000000000) :
  ∃ A' c' w3, (Builtin.append_ #[22, 22] 22 #[.slice A n c, .slice A2 m c2]).run Tryz.prog w = .ok (.slice A' (n + m) c') w3 /\
   w3.ownsRow LO 58 5 (.slice A' (n + m) c') (n + m) (xs ++ zc L) /\ w.grownBy w3 (Value.slice A n c).ownBlock := by
 obtain ⟨i0, hi0, hzz⟩ := Option.map_eq_some_iff.1 kO
 simp only [Prod.mk.injEq] at hzz
 obtain ⟨hz0, hz1, hz2⟩ := hzz
 obtain ⟨z0, hz3, hz4⟩ := Option.map_eq_some_iff.1 hz0
 cases A2 with
 | none =>
  have c0 : c2 = 0 := hA rfl
  have m0 : m = 0 := by omega
  subst c0
  subst m0
  have l0 : L = [] := List.eq_nil_of_length_eq_zero hm.symm
  subst l0
  refine ⟨A, c, w, ?_, by simpa [zc] using o, ⟨rfl, rfl, rfl, Xm, fun _ _ _ => rfl⟩⟩
  exact run_append_owned_none (P := Tryz.prog) (w := w) LO 22 22 58 i0 5 Tryz.underlying22 hi0 _ _ _ o
 | some ad =>
  have hn : ∀ j u, (zc L)[j]? = some u -> w.cell? (ad.add j) = some u := fun j u hj => by
   obtain ⟨a', e, _, k⟩ := S (fun z => by rw [z] at hj; simp at hj)
   cases e
   exact k j u hj
  obtain ⟨v', w3, r1, r2, r3, r4⟩ := run_append_own (P := Tryz.prog) w LO 22 22 58 i0 z0 5 32 Tryz.underlying22 hi0 hz3 hz1 hz2 (by rw [hz4]; rfl) (by decide) _ n xs o ad m c2 (zc L) (by rw [qL, hm]) hn (JD L) (by unfold maxLen; omega) (by omega) hLO
  obtain ⟨A', c', e⟩ := kP r2
  subst e
  exact ⟨A', c', w3, r1, r2, r3⟩
def bhC : Cel := ⟨⟨#[98, 101, 104, 105, 110, 100]⟩, 0, z8⟩
def biC : Cel := ⟨⟨#[98, 101, 104, 105, 110, 100, 32, 105, 116]⟩, 0, z8⟩
def xp (w : World) (s : Scr) (e : Ending) (w' : World) : Prop := ∃ g c', e = .returned (.tuple #[scrV s (some ⟨g, 0, none⟩) c', .slice (some ⟨g, 0, none⟩) (s.cells.length + 2) c']) /\ w'.ownsRow w.heap.size 58 5 (.slice (some ⟨g, 0, none⟩) (s.cells.length + 2) c') (s.cells.length + 2) (zc (s.cells ++ [bhC, biC])) /\ Below w.heap.size w w'
set_option maxHeartbeats 16000000 in
set_option maxRecDepth 100000 in
theorem kQ (s : Scr) (A : Option Addr) (c : Nat) (hcp : s.cells.length <= c) (hA : A = none -> c = 0) (hl : s.cells.length <= 1000000000) (w : World) (S : Sees w w.heap.size A (zc s.cells)) :
  Calls Tryz.prog 8 #[scrV s A c] w (xp w s) := by
 obtain ⟨Q0, hQ0⟩ : ∃ Q0, Q0 = w.alloc (.cells #[.int .i64 s.w, .int .i64 s.h, .slice A s.cells.length c, .int .i64 s.x, .int .i64 s.y, .bool s.shown] 24) := ⟨_, rfl⟩
 have B0 : Below w.heap.size w Q0 := by rw [hQ0]; exact (Below.refl _ w).alloc Xm _
 have K0 : Blk Q0 w.heap.size [.int .i64 s.w, .int .i64 s.h, .slice A s.cells.length c, .int .i64 s.x, .int .i64 s.y, .bool s.shown] := by rw [hQ0]; exact Blk.new w _ _
 have z0 : Q0.heap.size = w.heap.size + 1 := by rw [hQ0]; simp
 obtain ⟨Q, hQ⟩ : ∃ Q, Q = Q0.alloc (.cells #[.int .i64 0, .int .i64 0, .slice none 0 0, .int .i64 0, .int .i64 0, .bool false] 24) := ⟨_, rfl⟩
 have B1 : Below Q0.heap.size Q0 Q := by rw [hQ]; exact (Below.refl _ Q0).alloc Xm _
 have KA : Blk Q w.heap.size [.int .i64 s.w, .int .i64 s.h, .slice A s.cells.length c, .int .i64 s.x, .int .i64 s.y, .bool s.shown] := K0.keep B1 (by omega)
 have KB : Blk Q (w.heap.size + 1) [.int .i64 0, .int .i64 0, .slice none 0 0, .int .i64 0, .int .i64 0, .bool false] := by rw [hQ, <- z0]; exact Blk.new Q0 _ _
 have z1 : Q.heap.size = w.heap.size + 2 := by rw [hQ]; simp [z0]
 have BQ := B0.trans (B1.mono B0.size)
 have SQ := (S.below BQ Xm).more BQ.size
 obtain ⟨A1, c1, W1, R1, o1, g1⟩ := Z4 (World.ownsRow_nil Q Q.heap.size 58 5) rfl SQ hA hcp Xm (by omega)
 have b1 : Below Q.heap.size Q W1 := (Below.refl _ Q).grown g1 Xm (fun k hk => by simp [Value.ownBlock] at hk)
 have HQ := Xk (show Q = (w.alloc (.cells #[.int .i64 s.w, .int .i64 s.h, .slice A s.cells.length c, .int .i64 s.x, .int .i64 s.y, .bool s.shown] 24)).alloc (.cells #[.int .i64 0, .int .i64 0, .slice none 0 0, .int .i64 0, .int .i64 0, .bool false] 24) by rw [hQ, hQ0])
 have HBQ := Xk BQ
 have ZS := Xk z1
 rw [Nat.zero_add] at R1 o1
 rw [List.nil_append] at o1
 obtain ⟨V1, hV1⟩ : ∃ V1, V1 = W1.alloc (.cells (zc [bhC, biC]).toArray 58) := ⟨_, rfl⟩
 have bv : Below W1.heap.size W1 V1 := by rw [hV1]; exact (Below.refl _ W1).alloc Xm _
 have SB : Sees V1 V1.heap.size (some ⟨W1.heap.size, 0, none⟩) (zc [bhC, biC]) := by
  rw [hV1]
  exact fun _ => ⟨_, rfl, by simp, fun j u hj => qj W1 (zc [bhC, biC]) _ j u hj⟩
 obtain ⟨A2, c2, W2, R2, o2, g2⟩ := Z4 (m := 2) (c2 := 2) (zD o1 bv) rfl SB (fun z => by cases z) Xm (Nat.le_trans b1.size bv.size) (by omega)
 have b2 : Below Q.heap.size Q W2 := (b1.trans (bv.mono b1.size)).grown g2 (Nat.le_trans b1.size bv.size) (fun k hk => ((zD o1 bv).lt k hk).1)
 rw [<- jP] at o2
 obtain ⟨g, e2, hcap, hlo⟩ : ∃ g, A2 = some ⟨g, 0, none⟩ /\ s.cells.length + 2 <= c2 /\ Q.heap.size <= g := by
  rcases o2.2 with ⟨z, n0⟩ | ⟨g, cap, cur, z, hb, _, hn, _⟩
  ·omega
  ·injection z with z1 z2 z3; exact ⟨g, z1, by omega, hb⟩
 subst e2
 have KA1 := KA.keep b1 (by omega)
 have KA2 := KA.keep b2 (by omega)
 have KB2 := KB.keep b2 (by omega)
 have q2 := KA.c 2 _ rfl
 have HV1 := Xk hV1
 have HO2 := Xk o2
 have HB2 := Xk b2
 have HLO := Xk hlo
 have HA2 := Xk KA2
 have HB2K := Xk KB2
 obtain ⟨n, hn⟩ : ∃ n, n = s.cells.length := ⟨_, rfl⟩
 have HN := Xk hn
 simp only [scrV]
 unfold xp
 simp only [scrV]
 rw [<- hn] at R1 R2 hcap q2 hl HA2 HQ HO2 ⊢
 clear hQ hQ0 B0 B1 K0 KA KB z0 z1 BQ SQ S hA hcp o1 g1 b1 hV1 bv SB o2 g2 b2 hlo KA1 KA2 KB2 hn
 have w2 : (Builtin.append_ #[22, 22] 22 #[.slice A1 n c1, .slice (some ⟨W1.heap.size, 0, none⟩) 2 2]).run Tryz.prog (W1.alloc (.cells #[.string bhC.text, .int .i8 0, .int .i32 0, .int .i32 0, .int .u8 0, .string biC.text, .int .i8 0, .int .i32 0, .int .i32 0, .int .u8 0] 58)) = .ok (.slice (some ⟨g, 0, none⟩) (n + 2) c2) W2 := by
  rw [HV1.out] at R2
  exact R2
 clear R2 HV1
 go_enter Tryz.func8, Tryz.ntmps8
 go_upto_region 1 with fail
 rw [<- HQ.out]
 clear HQ
 go_upto_region 3 with (first | (at_builtin; refine jl rfl (.tmp 5) (.tmp 7) 22 22 rfl _ _ _ _ rfl rfl R1 ?_) | fail)
 clear R1 q2
 go_upto_region 4 with (first | (at_builtin; refine jl rfl (.tmp 9) (.tmp 12) 22 22 rfl _ _ _ _ rfl rfl w2 ?_) | fail)
 clear w2
 have a2 := HA2.out.c 2 _ rfl
 have f2 := HA2.out.f 2 _ rfl
 have p0 : (0 : Int) <= (n : Int) := by omega
 have p1 : (n : Int) <= (c2 : Int) := by omega
 have p2 : (n : Int).toNat = n := by omega
 obtain ⟨V, hV⟩ : ∃ V, V = W2.setCell ⟨w.heap.size, 2, none⟩ (.slice (some ⟨g, 0, none⟩) n c2) := ⟨_, rfl⟩
 have KV : Blk V w.heap.size [.int .i64 s.w, .int .i64 s.h, .slice (some ⟨g, 0, none⟩) n c2, .int .i64 s.x, .int .i64 s.y, .bool s.shown] := by rw [hV]; exact HA2.out.set 2 _ _ rfl
 have KW : Blk V (w.heap.size + 1) [.int .i64 0, .int .i64 0, .slice none 0 0, .int .i64 0, .int .i64 0, .bool false] := by rw [hV]; exact HB2K.out.far (by omega)
 have BV : Below w.heap.size w V := by rw [hV]; exact (HBQ.out.trans (HB2.out.mono HBQ.out.size)).setCell (p := ⟨w.heap.size, 2, none⟩) Xm _
 have HOV : Hid (V.ownsRow Q.heap.size 58 5 (.slice (some ⟨g, 0, none⟩) (n + 2) c2) (n + 2) (zc (s.cells ++ [bhC, biC]))) := Xk (by rw [hV]; exact xS HO2.out (by show w.heap.size < _; rw [ZS.out]; omega) _)
 have HV := Xk hV
 have HBV := Xk BV
 have HZQ : Hid (w.heap.size + 1 < Q.heap.size) := Xk (by rw [ZS.out]; omega)
 have kv0 := KV.c 0 _ rfl
 have kv1 := KV.c 1 _ rfl
 have kv2 := KV.c 2 _ rfl
 have kv3 := KV.c 3 _ rfl
 have kv4 := KV.c 4 _ rfl
 have kv5 := KV.c 5 _ rfl
 have kw0 := KW.c 0 _ rfl
 have kw1 := KW.c 1 _ rfl
 have kw2 := KW.c 2 _ rfl
 have kw3 := KW.c 3 _ rfl
 have kw4 := KW.c 4 _ rfl
 have kw5 := KW.c 5 _ rfl
 have fw0 := KW.f 0 _ rfl
 have fw1 := KW.f 1 _ rfl
 have fw2 := KW.f 2 _ rfl
 have fw3 := KW.f 3 _ rfl
 have fw4 := KW.f 4 _ rfl
 have fw5 := KW.f 5 _ rfl
 clear hV KV KW BV HO2 HB2 HA2 HB2K
 go_upto_region 5 with fail
 rw [<- HV.out]
 clear HV a2 f2
 go_wp2_with fail
 refine bodyPost_ret (v := .tuple #[.agg #[.int .i64 s.w, .int .i64 s.h, .slice (some ⟨g, 0, none⟩) n c2, .int .i64 s.x, .int .i64 s.y, .bool s.shown], .slice (some ⟨g, 0, none⟩) (n + 2) c2]) (by simp [results, Tryz.results8, go_sem, *]) rfl ?_
 refine ⟨g, c2, rfl, ?_, ?_⟩
 ·refine qR (base := Q.heap.size) ?_ (by have := HZQ.out; omega)
  repeat (refine xS ?_ HZQ.out _)
  exact HOV.out
 ·repeat (refine Below.setCell ?_ (p := ⟨w.heap.size + 1, _, none⟩) (Nat.le_succ _) _)
  exact HBV.out
end
end
section
open Go Go.RowKit Go.Sort
section
def jd (s : Scr) : List Cel := s.cells ++ [bhC, biC]
theorem full_at (s : Scr) : (zc (jd s))[s.cells.length * 5]? = some (.string bhC.text) /\ (zc (jd s))[(s.cells.length + 1) * 5]? = some (.string biC.text) := by
 unfold jd
 rw [jP]
 constructor
 ·rw [List.getElem?_append_right (by rw [qL]; exact Xm), qL, Nat.sub_self]
  rfl
 ·rw [List.getElem?_append_right (by rw [qL]; omega), qL, show (s.cells.length + 1) * 5 - s.cells.length * 5 = 5 by omega]
  rfl
set_option maxHeartbeats 16000000 in
set_option maxRecDepth 100000 in
theorem kR (s : Scr) (g c c2 : Nat) (A2 : Option Addr) (hl : s.cells.length <= 1000000000) (hc : s.cells.length + 2 <= c) (w : World) (SF : Sees w w.heap.size (some ⟨g, 0, none⟩) (zc (jd s))) (S : Sees w w.heap.size A2 (zc s.cells)) :
  Calls Tryz.prog 11 #[.slice (some ⟨g, 0, none⟩) (s.cells.length + 2) c, scrV s A2 c2] w fun e w' => e = .returned (.bool true) /\ Below w.heap.size w w' := by
 obtain ⟨Q, hQ⟩ : ∃ Q, Q = w.alloc (.cells #[.int .i64 s.w, .int .i64 s.h, .slice A2 s.cells.length c2, .int .i64 s.x, .int .i64 s.y, .bool s.shown] 24) := ⟨_, rfl⟩
 have BQ : Below w.heap.size w Q := by rw [hQ]; exact (Below.refl _ w).alloc Xm _
 have KQ : Blk Q w.heap.size [.int .i64 s.w, .int .i64 s.h, .slice A2 s.cells.length c2, .int .i64 s.x, .int .i64 s.y, .bool s.shown] := by rw [hQ]; exact Blk.new w _ _
 have fl := full_at s
 have SFQ := (SF.below BQ Xm).more BQ.size
 have SQ := (S.below BQ Xm).more BQ.size
 obtain ⟨ad, e0, gb, hc0⟩ := SFQ (fun z => by have := fl.1; rw [z] at this; simp at this)
 cases e0
 have fr : ∀ d os j u, (zc (jd s))[j]? = some u -> (grow (redrawn Q d) os).cell? ⟨g, j, none⟩ = some u := fun d os j u hj => by
  have q := hc0 j u hj
  have e : ((⟨g, 0, none⟩ : Addr).add j) = ⟨g, j, none⟩ := by
   unfold Addr.add
   split
   ·rename_i z; rw [z]
   ·simp
  rw [e] at q
  exact ((below_regrown Q d os).cell (p := ⟨g, j, none⟩) gb).trans q
 have x0 : ∀ d os, (grow (redrawn Q d) os).cell? ⟨g, s.cells.length * 5, none⟩ = some (.string ⟨#[98, 101, 104, 105, 110, 100]⟩) := fun d os => fr d os _ _ fl.1
 have x1 : ∀ d os, (grow (redrawn Q d) os).cell? ⟨g, (s.cells.length + 1) * 5, none⟩ = some (.string ⟨#[98, 101, 104, 105, 110, 100, 32, 105, 116]⟩) := fun d os => fr d os _ _ fl.2
 have SC := Xk (fun d os => show Calls Tryz.prog 25 #[.slice (some ⟨g, 0, none⟩) s.cells.length c, .slice A2 s.cells.length c2] (grow (redrawn Q d) os) fun e w' => e = .returned (.bool true) /\ zL (grow (redrawn Q d) os) w' from by
  have SA : Sees Q Q.heap.size (some ⟨g, 0, none⟩) (zc s.cells) := by
   have t := Sees.takeV (s.cells.length * 5) SFQ
   rw [<- xJ] at t
   unfold jd at t
   rw [List.take_left] at t
   exact t
  have q := Z3 (some ⟨g, 0, none⟩) A2 c c2 s.cells s.cells (by omega) (by omega) (grow (redrawn Q d) os) ((SA.below (below_regrown Q d os) Xm).more (below_regrown Q d os).size) ((SQ.below (below_regrown Q d os) Xm).more (below_regrown Q d os).size)
  rw [decide_eq_true (show s.cells = s.cells from rfl)] at q
  exact js q)
 have HQ := Xk hQ
 have HB := Xk BQ
 have HK := Xk KQ
 simp only [scrV]
 generalize s.cells.length = n at *
 have kr := fun d os => (HK.out.regrown d os).c 2 _ rfl
 have k2 := HK.out.c 2 _ rfl
 have p0 : (0 : Int) <= (n : Int) := by omega
 have p1 : (n : Int) <= (c : Int) := by omega
 have p2 : (n : Int).toNat = n := by omega
 obtain ⟨m, hm⟩ : ∃ m, m = n + 2 := ⟨_, rfl⟩
 have p3 : (n : Int) < (m : Int) := by omega
 have p4 := Xl ((n : Int) + 1) (by omega)
 have p5 : (n : Int) + 1 < (m : Int) := by omega
 rw [<- hm]
 have p6 : ((n : Int) + 1).toNat = n + 1 := by omega
 have p7 : (0 : Int) <= (n : Int) + 1 := by omega
 clear hQ BQ KQ SF S SFQ SQ fl fr hc0 hm
 go_enter Tryz.func11, Tryz.ntmps11
 go_upto_region 1 with fail
 rw [<- HQ.out]
 clear HQ
 go_upto_region 2 with fail
 refine zo 22 [] [] (by kernel_rfl) (by kernel_rfl) (by kernel_rfl) (by intro t ht; cases ht) ?_
 simp only [Xn, Xo, Xp, Xq]
 repeat (refine zf (by rfl) (fun K hK => ?_); go_simp; first | (refine hK _ ?_; clear hK K) | (apply Exists.intro; refine ⟨fun _ => ?_, hK _ ?_⟩; (with_reducible exact SC.out _ _); clear hK K))
 refine zn ?_
 intro W5 vs5 hl5 hv5
 have B5 := Xk (HB.out.trans ((zj.1 hl5).mono HB.out.size))
 clear hl5 hv5
 simp only [ze]
 go_wp2_with fail
 go_ret
 exact ⟨rfl, B5.out⟩
end
end
section
open Go Go.RowKit Go.Sort
section
set_option maxHeartbeats 8000000 in
set_option maxRecDepth 100000 in
theorem xT (A1 A2 : Option Addr) (c1 c2 : Nat) (l : List Int) (hl : l.length <= 1000000000000) (w : World) (S1 : Sees w w.heap.size A1 (ints l)) (S2 : Sees w w.heap.size A2 (ints l)) :
  Calls Tryz.prog 16 #[.slice A1 l.length c1, .slice A2 l.length c2] w fun e w' => e = .returned (.bool true) /\ Below w.heap.size w w' := by
 have C1 := Xk (fun (k : Nat) (hk : k < l.length) => show ∃ ad, A1 = some ad /\ ∀ W, Below w.heap.size w W -> W.cell? (ad.add k) = some (.int .i64 l[k]) from by
  obtain ⟨ad, e, hb, hc⟩ := S1 (fun z => by have := congrArg List.length z; rw [xM, List.length_nil] at this; omega)
  exact ⟨ad, e, fun W b => (b.cell (p := ad.add k) (by rw [zg]; exact hb)).trans (hc k _ (by unfold ints; rw [List.getElem?_map, List.getElem?_eq_getElem hk]; rfl))⟩)
 have C2 := Xk (fun (k : Nat) (hk : k < l.length) => show ∃ ad, A2 = some ad /\ ∀ W, Below w.heap.size w W -> W.cell? (ad.add k) = some (.int .i64 l[k]) from by
  obtain ⟨ad, e, hb, hc⟩ := S2 (fun z => by have := congrArg List.length z; rw [xM, List.length_nil] at this; omega)
  exact ⟨ad, e, fun W b => (b.cell (p := ad.add k) (by rw [zg]; exact hb)).trans (hc k _ (by unfold ints; rw [List.getElem?_map, List.getElem?_eq_getElem hk]; rfl))⟩)
 obtain ⟨n, hn⟩ : ∃ n, n = l.length := ⟨_, rfl⟩
 have HN := Xk hn
 rw [<- hn] at hl ⊢
 clear S1 S2 hn
 go_enter Tryz.func16, Tryz.ntmps16
 go_wp2_with fail
 go_loopw [5] (fun s5 wr => ∃ k : Nat, k <= n /\ s5 = .int .i64 (k : Int) /\ Hid (Below w.heap.size w wr)) (fun s5 _ => n - (intOf s5).toNat)
 case atStart => exact ⟨0, Nat.zero_le _, rfl, Xk (Below.refl _ _)⟩
 case round =>
  obtain ⟨k, hk, rfl, hb⟩ := hrel
  by_cases lt : k < n
  ·have kl : k < l.length := by rw [<- HN.out]; exact lt
   obtain ⟨ad, rfl, x⟩ := C1.out k kl
   obtain ⟨ae, rfl, y⟩ := C2.out k kl
   generalize l[k] = v at *
   have BD := Xk (fun q => qt q wr hb.out)
   have x0 := fun q => x _ (BD.out q)
   have y0 := fun q => y _ (BD.out q)
   have q0 : (0 : Int) <= (k : Int) := by omega
   have q5 : (k : Int) < (n : Int) := by omega
   have tn : (k : Int).toNat = k := by omega
   have wk := Xl ((k : Int) + 1) (by omega)
   clear x y
   go_wp2_with fail
   refine qB 8 (by kernel_rfl) (by kernel_rfl) ?_
   simp only [Xn, Xo, Xp, Xq]
   repeat (first | go_big_quiet_step (fail) | quiet_step (fail))
   refine wpQuiet_nil ?_
   intro _ hw'
   obtain ⟨nq, hw''⟩ := hw'
   subst hw''
   have B5 := Xk (BD.out nq)
   clear x0 y0 BD
   generalize wr.drewN nq = V at *
   go_wp2_with fail
   go_roundw
   case rel => exact ⟨k + 1, by omega, by go_num, B5⟩
   case measure => simp [intOf]; omega
  ·have e : k = n := by omega
   subst e
   have q5 : ¬ (k : Int) < (k : Int) := by omega
   go_wp2_with fail
   go_ret
   exact ⟨rfl, hb.out⟩
end
end
end Go.Proofs.YtifoijbpbigaaaaGreatDoor
