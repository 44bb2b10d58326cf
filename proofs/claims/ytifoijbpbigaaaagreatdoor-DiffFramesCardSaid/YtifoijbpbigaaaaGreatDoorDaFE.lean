/- What lies below tapes (kept of earlier texts: DgTn, StyI, StyEb, StyEd, StyEf, StyEg, StyEh, RaP, RaA, RaK, RaF, RaG). -/
import Derived.Test.YtifoijbpbigaaaaGreatDoorDaFD
import Derived.Lib.ItoaLen
import Derived.IntWalk
import Derived.Deep.DeepCutAuto
set_option linter.unusedVariables false
set_option linter.unusedSimpArgs false
namespace Go.Proofs.YtifoijbpbigaaaaGreatDoor
section
open Go.RowKit Go.Sort
structure EnvD (w : World) : Prop where
 st : EnvS w
 tab : Lib.TabIs Tryz.prog w "internal/strconv.uint64pow10" .u64 Lib.pow10Tab
 pg : 2 < w.heap.size
theorem EnvD.of_below {B : Nat} {w w' : World} (h : EnvD w) (hb : Below B w w') (hB : w.heap.size <= B) : EnvD w' where
 st := h.st.of_below hb hB
 tab := var?_below (g := 2) hb (by kernel_rfl) (Nat.lt_of_lt_of_le h.pg hB) h.tab
 pg := Nat.lt_of_lt_of_le h.pg hb.size
theorem vA (n : Int) (h0 : -1000000000 <= n) (h1 : n <= 1000000000) (w : World) (E : EnvD w) : Calls Tryz.prog 47 #[.int .i64 n] w fun e w' => e = .returned (.string (itB n)) /\ Below w.heap.size w w' := by
 refine (Tryz.strconv_Itoa n (by omega) (by omega) w E.tab).mono ?_
 rintro e w' ⟨rfl, k, os, rfl⟩
 exact ⟨rfl, Lib.below_grow _ _ Vf _ _⟩
theorem jD (n : Int) (h0 : -1000000000 <= n) (h1 : n <= 1000000000) : (itB n).size <= 21 := by
 have := Lib.itoa_length_le n (by omega) (by omega)
 show (Lib.itoa n).toArray.size <= 21
 rwa [List.size_toArray]
theorem xt (f t : Sty) : ∀ n ∈ zR f t, 0 <= n /\ n < 1000 := by
 intro n hn
 unfold zR at hn
 split at hn
 ·cases hn
 ·have a := qA t.fg
  have b := qA t.bg
  try simp only at hn
  split at hn
  ·exact ve _ a b n hn
  ·exact vd _ _ a b n hn
theorem kI (l : List Int) (n : Int) : zU (l ++ [n]) = (if zU l = zB then zU l else zU l ++ ⟨#[59]⟩) ++ itB n := by
 unfold zU
 rw [List.foldl_append]
 rfl
theorem vB (L : List Int) (h : ∀ n ∈ L, 0 <= n /\ n < 1000) : ∀ k, k <= L.length -> (zU (L.take k)).size <= 22 * k := by
 intro k
 induction k with
 | zero => intro _; simp [zU, zB, ByteArray.size]
 | succ k ih =>
  intro hk
  rw [List.take_succ_eq_append_getElem (show k < L.length by omega), kI]
  have b := h L[k] (List.getElem_mem _)
  have i := jD L[k] (by omega) (by omega)
  have ih := ih (by omega)
  rw [ByteArray.size_append]
  split
  ·omega
  ·rw [ByteArray.size_append]
   have : (⟨#[59]⟩ : ByteArray).size = 1 := rfl
   omega
theorem vC (s : ByteArray) : s.toList = [] ↔ s = zB := by
 rw [ByteArray.toList_eq]
 constructor
 ·intro h
  apply ByteArray.ext
  rw [<- Array.toList_inj, h]
  rfl
 ·intro h; rw [h]; rfl
theorem jO {s : ByteArray} (h : s = zB) : s.toList.isEmpty = true := by rw [(vC s).2 h]; rfl
theorem jP {s : ByteArray} (h : ¬ s = zB) : s.toList.isEmpty = false := by
 cases e : s.toList.isEmpty with
 | false => rfl
 | true => exact absurd ((vC s).1 (List.isEmpty_iff.1 e)) h
set_option maxHeartbeats 16000000 in
set_option maxRecDepth 100000 in
theorem d_turned (f t : Sty) (w : World) (E : EnvD w) : Calls Tryz.prog 50 #[styV f.fg f.bg f.at_, styV t.fg t.bg t.at_] w fun e w' => e = .returned (.string (zI f t)) /\ Below w.heap.size w w' := by
 have PR := Vd (xt f t)
 have SL := Vd (vB (zR f t) (xt f t))
 have PL := vc f t
 have TB : Hid (zI f t = if zU (zR f t) = zB then zB else (⟨#[27, 91]⟩ ++ zU (zR f t)) ++ ⟨#[109]⟩) := Vd rfl
 have PA := Vd (fun W hE => Xr f t W hE)
 have EH := Vd E
 generalize zI f t = R at *
 generalize zR f t = L at *
 clear E
 go_enter Tryz.func50, Tryz.ntmps50
 go_wp2_with fail
 have E2 := Vd (EH.out.of_below (show Below w.heap.size w ((w.alloc (.cells #[.int .i32 f.fg, .int .i32 f.bg, .int .u8 (bI f.at_)] 56)).alloc (.cells #[.int .i32 t.fg, .int .i32 t.bg, .int .u8 (bI t.at_)] 56)) from ((Below.refl _ _).alloc Vf _).alloc (by simp) _) Vf)
 refine (PA.out _ E2.out.st).mono ?_; rintro e w1 ⟨v, rfl, ho, hb⟩
 obtain ⟨A, c, rfl⟩ := qT ho
 have S1 := Vd (Sees.of_own ho)
 have B1 := Vd (show Below w.heap.size w w1 from zl (by go_grown) (by simp; omega) hb)
 have E3 := Vd (E2.out.of_below hb Vf)
 obtain ⟨n, hn⟩ : ∃ n, n = L.length := ⟨_, rfl⟩
 rw [<- hn] at PL ⊢
 have HN := Vd hn
 clear ho hb hn E2
 go_wp2_with fail
 go_loopw [5, 12] (fun s i wr => ∃ (k : Nat) (S : ByteArray), k <= n /\ i = .int .i64 k /\ s = .string S /\ Hid (S = zU (L.take k)) /\ S.size <= 22 * k /\ Hid (Below w1.heap.size w1 wr)) (fun _ i _ => n - (intOf i).toNat)
 case atStart => exact ⟨0, zB, Nat.zero_le _, rfl, rfl, Vd rfl, by decide, Vd (Below.refl _ _)⟩
 case round =>
  obtain ⟨k, S, hk, rfl, rfl, hS, hsz, hb⟩ := hrel
  by_cases lt : k < n
  ·have kl : k < L.length := by rw [<- HN.out]; exact lt
   obtain ⟨ad, rfl, ab, ac⟩ := S1.out.at (k := k) (by simpa [ints] using kl)
   have ac : w1.cell? (ad.add k) = some (.int .i64 L[k]) := by simpa [ints] using ac
   have ac := (hb.out.cell (p := ad.add k) (by rw [zj]; exact ab)).trans ac
   have rg := PR.out L[k] (List.getElem_mem _)
   have NX : Hid (zU (L.take (k + 1)) = (if S = zB then S else S ++ ⟨#[59]⟩) ++ itB L[k]) := Vd (by
    rw [List.take_succ_eq_append_getElem kl, kI, <- hS.out])
   have IS := jD L[k] (by omega) (by omega)
   have NS : Hid ((zU (L.take (k + 1))).size <= 22 * (k + 1)) := Vd (SL.out (k + 1) (by omega))
   have IT := Vd (fun W hW => vA L[k] (by omega) (by omega) W hW)
   generalize L[k] = x at *
   by_cases z : S = zB
   ·have NX : Hid (zU (L.take (k + 1)) = S ++ itB x) := Vd (by rw [NX.out, if_pos z])
    have z1 := jO z
    have HZ := Vd z
    clear z
    have nov : (9223372036854775807 < S.size + (itB x).size) = False := eq_false (by omega)
    go_wp2_with fail
    refine (IT.out _ (E3.out.of_below hb.out Vf)).mono ?_; rintro e w2 ⟨rfl, hb2⟩
    have B2 := Vd (zl hb.out hb.out.size hb2)
    clear hb2 hb
    go_wp2_with fail
    go_roundw
    case rel => exact ⟨k + 1, _, by omega, by go_num, rfl, Vd NX.out.symm, by rw [<- NX.out]; exact NS.out, B2⟩
    case measure => simp [intOf]; omega
   ·have NX : Hid (zU (L.take (k + 1)) = (S ++ ⟨#[59]⟩) ++ itB x) := Vd (by rw [NX.out, if_neg z])
    have z1 := jP z
    have HZ := Vd z
    clear z
    have s1 : (⟨#[59]⟩ : ByteArray).size = 1 := rfl
    have nov : (9223372036854775807 < S.size + (⟨#[59]⟩ : ByteArray).size) = False := eq_false (by omega)
    have nov2 : (9223372036854775807 < (S ++ ⟨#[59]⟩).size + (itB x).size) = False := eq_false (by rw [ByteArray.size_append]; omega)
    clear s1
    go_wp2_with fail
    refine (IT.out _ (E3.out.of_below hb.out Vf)).mono ?_; rintro e w2 ⟨rfl, hb2⟩
    have B2 := Vd (zl hb.out hb.out.size hb2)
    clear hb2 hb
    go_wp2_with fail
    go_roundw
    case rel => exact ⟨k + 1, _, by omega, by go_num, rfl, Vd NX.out.symm, by rw [<- NX.out]; exact NS.out, B2⟩
    case measure => simp [intOf]; omega
  ·have e : k = n := by omega
   subst e
   have e2 : L.take k = L := List.take_of_length_le (by rw [<- HN.out]; exact Vf)
   rw [e2] at hS
   have BB := Vd (B1.out.trans (hb.out.mono B1.out.size))
   by_cases z : S = zB
   ·have R1 : Hid (R = S) := Vd (by rw [TB.out, <- hS.out, if_pos z]; exact z.symm)
    have z1 := jO z
    have HZ := Vd z
    clear z hS hb e2
    go_wp2_with fail
    go_ret
    exact ⟨by rw [R1.out, HZ.out]; rfl, BB.out⟩
   ·have R1 : Hid (R = (⟨#[27, 91]⟩ ++ S) ++ ⟨#[109]⟩) := Vd (by rw [TB.out, <- hS.out, if_neg z])
    have z1 := jP z
    have HZ := Vd z
    clear z hS hb e2
    have s1 : (⟨#[27, 91]⟩ : ByteArray).size = 2 := rfl
    have s2 : (⟨#[109]⟩ : ByteArray).size = 1 := rfl
    have nov : (9223372036854775807 < (⟨#[27, 91]⟩ : ByteArray).size + S.size) = False := eq_false (by omega)
    have nov2 : (9223372036854775807 < (⟨#[27, 91]⟩ ++ S).size + (⟨#[109]⟩ : ByteArray).size) = False := eq_false (by rw [ByteArray.size_append]; omega)
    clear s1 s2
    go_wp2_with fail
    go_ret
    exact ⟨by rw [R1.out]; rfl, BB.out⟩
end
section
open Go.RowKit Go.Sort
structure Blk (w : World) (b : Nat) (vs : List Value) : Prop where
 c : ∀ i v, vs[i]? = some v -> w.cell? ⟨b, i, none⟩ = some v
 f : ∀ i v, vs[i]? = some v -> w.frozen? ⟨b, i, none⟩ = false
theorem Blk.lt {w : World} {b : Nat} {v : Value} {vs : List Value} (h : Blk w b (v :: vs)) : b < w.heap.size := block_lt_of_cell (h.c 0 v rfl)
theorem Blk.keep {w w' : World} {B b : Nat} {vs : List Value} (h : Blk w b vs) (hb : Below B w w') (hB : b < B) : Blk w' b vs :=
 ⟨fun i v hv => (hb.cell (p := ⟨b, i, none⟩) hB).trans (h.c i v hv), fun i v hv => (hb.frozen (p := ⟨b, i, none⟩) hB).trans (h.f i v hv)⟩
theorem Blk.new (w : World) (vs : List Value) (T : TypeId) : Blk (w.alloc (.cells vs.toArray T)) w.heap.size vs :=
 ⟨fun i v hv => (qw w vs T i v hv).1, fun i v hv => (qw w vs T i v hv).2⟩
theorem Blk.far {w : World} {b b' o : Nat} {vs : List Value} {y : Value} (h : Blk w b vs) (n : b ≠ b') : Blk (w.setCell ⟨b', o, none⟩ y) b vs :=
 ⟨fun i v hv => by have := h.c i v hv; simp [go_sem, *], fun i v hv => by have := h.f i v hv; simp [go_sem, *]⟩
theorem Blk.set {w : World} {b : Nat} {vs : List Value} (h : Blk w b vs) (i : Nat) (y x : Value) (hi : vs[i]? = some x) : Blk (w.setCell ⟨b, i, none⟩ y) b (vs.set i y) := by
 have ci := h.c i x hi
 have fi := h.f i x hi
 refine ⟨fun j v hv => ?_, fun j v hv => ?_⟩
 ·rw [List.getElem?_set] at hv
  by_cases e : i = j
  ·subst e
   rw [if_pos rfl] at hv
   split at hv
   ·cases hv; simp [go_sem, *]
   ·cases hv
  ·rw [if_neg e] at hv
   have := h.c j v hv
   have e2 : j ≠ i := fun z => e z.symm
   simp [go_sem, *]
 ·rw [List.getElem?_set] at hv
  by_cases e : i = j
  ·subst e
   simp [go_sem, *]
  ·rw [if_neg e] at hv
   have := h.f j v hv
   simp [go_sem, *]
theorem Blk.alloc {w : World} {b : Nat} {v : Value} {vs : List Value} (h : Blk w b (v :: vs)) (o : Obj) : Blk (w.alloc o) b (v :: vs) := h.keep ((Below.refl w.heap.size w).alloc Vf o) h.lt
theorem Blk.regrown {w : World} {b : Nat} {v : Value} {vs : List Value} (h : Blk w b (v :: vs)) (d : Nat) (os : Array Obj) : Blk (grow (redrawn w d) os) b (v :: vs) := h.keep (below_regrown w d os) h.lt
theorem zA (w : World) (a : Addr) (u : Value) : w.grownBy (w.setCell a u) (some a.block) :=
 ⟨rfl, rfl, rfl, by simp, fun k _ hk => heap_setCell_other w a k u (fun e => hk (by simp [e]))⟩
end
section
open Go.RowKit Go.Sort
def wriV (d : Int) (told : Bool) (W H : Int) (A : Option Addr) (n c : Nat) (X Y : Int) (sh : Bool) (t : Tel) (shn : Bool) : List Value :=
 [.int .i64 d, .bool told, .int .i64 W, .int .i64 H, .slice A n c, .int .i64 X, .int .i64 Y, .bool sh, .bool t.place, .int .i64 t.x, .int .i64 t.y, .int .i32 t.st.fg, .int .i32 t.st.bg, .int .u8 (bI t.st.at_), .bool shn, .string t.text]
def tel0 : Tel := ⟨false, 0, 0, qd, zB, zB⟩
def okD (d : Int) : Bool := decide (0 <= d) && decide (d <= 3)
set_option maxHeartbeats 4000000 in
theorem d_New_no (d : Int) (h : okD d = false) : Tells 26 #[.int .i64 d] (.tuple #[.pointer none, .int .i64 2]) := by
 intro w
 have h : d < 0 \/ (0 <= d /\ 3 < d) := by
  unfold okD at h
  simp only [Bool.and_eq_false_iff, decide_eq_false_iff_not] at h
  omega
 rcases h with h | ⟨h, g⟩
 all_goals
  go_enter Tryz.func26, Tryz.ntmps26
  go_wp2_with fail
  go_ret2
  exact ⟨rfl, rfl⟩
set_option maxHeartbeats 4000000 in
theorem d_New (d : Int) (h : okD d = true) (w : World) : Calls Tryz.prog 26 #[.int .i64 d] w fun e w' => e = .returned (.tuple #[.pointer (some ⟨w.heap.size, 0, none⟩), .int .i64 0]) /\ w' = w.alloc (.cells (wriV d false 0 0 none 0 0 0 0 false tel0 false).toArray 86) := by
 have h : 0 <= d /\ d <= 3 := by
  unfold okD at h
  simp only [Bool.and_eq_true, decide_eq_true_eq] at h
  exact h
 obtain ⟨h0, h1⟩ := h
 go_enter Tryz.func26, Tryz.ntmps26
 go_wp2_with fail
 go_ret2
 exact ⟨rfl, rfl⟩
set_option maxHeartbeats 4000000 in
theorem d_Reset (b : Nat) (v : Bool) (w : World) (hc : w.cell? ⟨b, 1, none⟩ = some (.bool v)) (hf : w.frozen? ⟨b, 1, none⟩ = false) : Calls Tryz.prog 32 #[.pointer (some ⟨b, 0, none⟩)] w fun e w' => (∃ v, e = .returned v) /\ w' = w.setCell ⟨b, 1, none⟩ (.bool false) := by
 go_enter Tryz.func32, Tryz.ntmps32
 go_wp2_with fail
 go_end0
 exact ⟨⟨_, rfl⟩, rfl⟩
theorem infoL : (Tryz.prog.info? 58).map (fun i => (i.zero, i.size, i.bytes)) = some (some (.agg #[.string ⟨#[]⟩, .int .i8 0, .int .i32 0, .int .i32 0, .int .u8 0]), 5, 32) := by kernel_rfl
theorem set5 (xs : List Value) (p : Nat) (v0 v1 v2 v3 v4 : Value) (h : p + 5 <= xs.length) : (((((xs.set p v0).set (p + 1) v1).set (p + 2) v2).set (p + 3) v3).set (p + 4) v4).take (p + 5) = xs.take p ++ [v0, v1, v2, v3, v4] := by
 refine List.ext_getElem (by simp; omega) fun i h1 h2 => ?_
 simp only [List.length_take, List.length_set] at h1
 rw [List.getElem_take]
 simp only [List.getElem_set]
 by_cases c : i < p
 ·rw [List.getElem_append_left (by simp; omega), List.getElem_take]
  repeat rw [if_neg (by omega)]
 ·rw [List.getElem_append_right (by simp; omega)]
  have l : (xs.take p).length = p := by simp; omega
  have : i = p \/ i = p + 1 \/ i = p + 2 \/ i = p + 3 \/ i = p + 4 := by omega
  simp only [l]
  rcases this with rfl | rfl | rfl | rfl | rfl
  ·simp
  ·simp
  ·simp
  ·simp
  ·simp
theorem ja {w : World} {B : Nat} {A : Option Addr} {L : List Cel} (h : Sees w B A (zc L)) (k : Nat) (hk : k < L.length) : ∃ ad, A = some ad /\ ad.block < B /\ w.cell? (ad.add (k * 5)) = some (.string (L[k]).text) /\ w.cell? ⟨(ad.add (k * 5)).block, (ad.add (k * 5)).off + 1, none⟩ = some (.int .i8 (L[k]).wide) /\ w.cell? ⟨(ad.add (k * 5)).block, (ad.add (k * 5)).off + 2, none⟩ = some (.int .i32 (L[k]).st.fg) /\ w.cell? ⟨(ad.add (k * 5)).block, (ad.add (k * 5)).off + 3, none⟩ = some (.int .i32 (L[k]).st.bg) /\ w.cell? ⟨(ad.add (k * 5)).block, (ad.add (k * 5)).off + 4, none⟩ = some (.int .u8 (bI (L[k]).st.at_)) := by
 obtain ⟨ad, e, hb, _⟩ := h (fun e => by have := jo L; rw [e] at this; simp at this; omega)
 subst e
 have S := h.dropV (k * 5)
 rw [<- kx, List.drop_eq_getElem_cons hk] at S
 obtain ⟨ad', e, h1, h2, h3, h4, h5, h6⟩ := vw S
 cases e
 exact ⟨ad, rfl, hb, h2, h3, h4, h5, h6⟩
def zS : List Value := [.int .i64 0, .int .i64 0, .slice none 0 0, .int .i64 0, .int .i64 0, .bool false]
theorem Qw {w w' : World} {base sz : Nat} {T : TypeId} {v : Value} {n : Nat} {xs : List Value} (h : w.ownsRow base T sz v n xs) (hb : Below w.heap.size w w') : w'.ownsRow base T sz v n xs :=
 h.kept (row := none) ⟨hb.os, hb.tape, hb.output, hb.size, fun k hk _ => hb.block k hk⟩ (by cases v.ownBlock <;> simp)
theorem kJ {w : World} {base sz : Nat} {T : TypeId} {g n c b o : Nat} {xs : List Value} {y : Value} (h : w.ownsRow base T sz (.slice (some ⟨g, 0, none⟩) n c) n xs) (ne : g ≠ b) : (w.setCell ⟨b, o, none⟩ y).ownsRow base T sz (.slice (some ⟨g, 0, none⟩) n c) n xs :=
 h.kept (zA w ⟨b, o, none⟩ y) (Or.inr (fun e => ne (Option.some.inj e)))
set_option maxHeartbeats 8000000 in
set_option maxRecDepth 100000 in
theorem Xv (s : Scr) (d : Int) (A : Option Addr) (c : Nat) (hcp : s.cells.length <= c) (hA : A = none -> c = 0) (hl : s.cells.length <= 1000000000000) (ho : ∀ x ∈ s.cells, okC x) (h : zi s = false) (w : World) (S : Sees w w.heap.size A (zc s.cells)) :
  Calls Tryz.prog 9 #[scrV s A c, .int .i64 d] w fun e w' => e = .returned (.tuple #[.agg zS.toArray, .int .i64 180]) /\ Below w.heap.size w w' := by
 obtain ⟨Q, hQ⟩ : ∃ Q, Q = (w.alloc (.cells #[.int .i64 s.w, .int .i64 s.h, .slice A s.cells.length c, .int .i64 s.x, .int .i64 s.y, .bool s.shown] 24)).alloc (.cells #[.int .i64 0, .int .i64 0, .slice none 0 0, .int .i64 0, .int .i64 0, .bool false] 24) := ⟨_, rfl⟩
 have BQ : Below w.heap.size w Q := by rw [hQ]; exact ((Below.refl _ w).alloc Vf _).alloc (by simp) _
 have RG := Vd (vz s A c hcp hA hl ho Q ((S.below BQ Vf).more BQ.size))
 rw [h] at RG
 have HB := Vd BQ
 have KQ : Hid (Blk Q (w.heap.size + 1) zS) := Vd (by
  have := Blk.new (w.alloc (.cells #[.int .i64 s.w, .int .i64 s.h, .slice A s.cells.length c, .int .i64 s.x, .int .i64 s.y, .bool s.shown] 24)) zS 24
  rw [hQ]
  have e : (w.alloc (.cells #[.int .i64 s.w, .int .i64 s.h, .slice A s.cells.length c, .int .i64 s.x, .int .i64 s.y, .bool s.shown] 24)).heap.size = w.heap.size + 1 := by simp
  rw [e] at this
  exact this)
 simp only [scrV] at RG ⊢
 clear S ho BQ h
 generalize s.cells.length = n at *
 go_enter Tryz.func9, Tryz.ntmps9
 go_wp2_with fail
 rw [<- hQ]
 clear hQ
 refine RG.out.mono ?_; rintro e w1 ⟨rfl, hb1⟩
 have K := KQ.out.keep hb1 KQ.out.lt
 have BB := Vd (HB.out.trans (hb1.mono HB.out.size))
 have k0 := K.c 0 _ rfl
 have k1 := K.c 1 _ rfl
 have k2 := K.c 2 _ rfl
 have k3 := K.c 3 _ rfl
 have k4 := K.c 4 _ rfl
 have k5 := K.c 5 _ rfl
 have f0 := K.f 0 _ rfl
 have f1 := K.f 1 _ rfl
 have f2 := K.f 2 _ rfl
 have f3 := K.f 3 _ rfl
 have f4 := K.f 4 _ rfl
 have f5 := K.f 5 _ rfl
 clear K hb1
 go_wp2_with fail
 refine bodyPost_ret (v := .tuple #[.agg zS.toArray, .int .i64 180]) (by simp [zS, results, Tryz.results9, go_sem, k0, k1, k2, k3, k4, k5]) rfl ⟨rfl, ?_⟩
 repeat (first | with_reducible exact BB.out | refine Below.setCell ?_ (by first | exact Vf | exact Nat.le_succ _) _)
set_option maxHeartbeats 16000000 in
set_option maxRecDepth 100000 in
theorem Xw (s : Scr) (d : Int) (A : Option Addr) (c : Nat) (hcp : s.cells.length <= c) (hA : A = none -> c = 0) (hl : s.cells.length <= 1000000000000) (ho : ∀ x ∈ s.cells, okC x) (h : zi s = true) (w : World) (S : Sees w w.heap.size A (zc s.cells)) :
  Calls Tryz.prog 9 #[scrV s A c, .int .i64 d] w fun e w' => ∃ g, e = .returned (.tuple #[scrV (redS s d) (some ⟨g, 0, none⟩) s.cells.length, .int .i64 0]) /\ w'.ownsRow w.heap.size 58 5 (.slice (some ⟨g, 0, none⟩) s.cells.length s.cells.length) s.cells.length (zc (redL s.cells d)) /\ Below w.heap.size w w' := by
 obtain ⟨L, hL⟩ : ∃ L, L = s.cells := ⟨_, rfl⟩
 obtain ⟨N, hN⟩ : ∃ N, N = s.cells.length := ⟨_, rfl⟩
 have RN : redS s d = ⟨s.w, s.h, redL L d, s.x, s.y, s.shown⟩ := by rw [hL]; rfl
 have RL : (redL L d).length = N := by rw [hN, <- hL]; simp [redL]
 obtain ⟨Q, hQ⟩ : ∃ Q, Q = (w.alloc (.cells #[.int .i64 s.w, .int .i64 s.h, .slice A s.cells.length c, .int .i64 s.x, .int .i64 s.y, .bool s.shown] 24)).alloc (.cells #[.int .i64 0, .int .i64 0, .slice none 0 0, .int .i64 0, .int .i64 0, .bool false] 24) := ⟨_, rfl⟩
 have BQ : Below w.heap.size w Q := by rw [hQ]; exact ((Below.refl _ w).alloc Vf _).alloc (by simp) _
 have QS : Q.heap.size = w.heap.size + 2 := by rw [hQ]; simp
 have RG := Vd (vz s A c hcp hA hl ho Q ((S.below BQ Vf).more BQ.size))
 rw [h] at RG
 obtain ⟨i0, hi0, hz0, hz1, hz2⟩ := info_parts infoL
 have N20 : N <= 1048576 := by
  obtain ⟨r1, r2, _⟩ := z7 h
  have := (qZ r1).2.2.2.2
  omega
 have SA : Hid (∀ w', Below w.heap.size w w' -> Sees w' w.heap.size A (zc L)) := Vd (fun w' hb => by rw [hL]; exact S.below hb Vf)
 have HB := Vd BQ
 have KQ : Hid (Blk Q (w.heap.size + 1) zS) := Vd (by
  have := Blk.new (w.alloc (.cells #[.int .i64 s.w, .int .i64 s.h, .slice A s.cells.length c, .int .i64 s.x, .int .i64 s.y, .bool s.shown] 24)) zS 24
  rw [hQ]
  have e : (w.alloc (.cells #[.int .i64 s.w, .int .i64 s.h, .slice A s.cells.length c, .int .i64 s.x, .int .i64 s.y, .bool s.shown] 24)).heap.size = w.heap.size + 1 := by simp
  rw [e] at this
  exact this)
 have KB : Hid (Blk Q w.heap.size [.int .i64 s.w, .int .i64 s.h, .slice A N c, .int .i64 s.x, .int .i64 s.y, .bool s.shown]) := Vd (by
  rw [hQ, hN]
  exact (Blk.new w [.int .i64 s.w, .int .i64 s.h, .slice A s.cells.length c, .int .i64 s.x, .int .i64 s.y, .bool s.shown] 24).alloc _)
 have HLN : Hid (N = L.length) := Vd (by rw [hN, hL])
 rw [RN]
 simp only [scrV] at RG ⊢
 rw [RL]
 rw [<- hN] at RG hcp hl ⊢
 rw [<- hN] at hQ
 rw [<- hL]
 have QSH := Vd QS
 clear S ho BQ h hL hN RN RL QS
 have hmk1 : i0.bytes * N <= 281474976710656 := by rw [hz2]; omega
 have hmk2 : N <= maxLen := by unfold maxLen; omega
 go_enter Tryz.func9, Tryz.ntmps9
 go_wp2_with fail
 rw [<- hQ]
 clear hQ
 refine RG.out.mono ?_; rintro e w1 ⟨rfl, hb1⟩
 have qs := QSH.out
 have x2 := (hb1.cell (p := ⟨w.heap.size, 2, none⟩) KB.out.lt).trans (KB.out.c 2 _ rfl)
 have lb := hb1.size
 have HB1 := Vd hb1
 clear hb1
 go_wp2_with (at_make; refine wpList_make_full _ rfl _ _ _ rfl (w.heap.size + 2) 58 i0 (.agg #[.string ⟨#[]⟩, .int .i8 0, .int .i32 0, .int .i32 0, .int .u8 0]) 5 Tryz.underlying22 hi0 hz0 hz1 .i64 .i64 N N N rfl rfl rfl rfl hmk1 hmk2 (by omega) ?_; intro w2 hown hg2; have x2 := ((hg2.block w.heap.size (by omega) (by simp)) |> fun e => World.cell?_of_block (a := ⟨w.heap.size, 2, none⟩) e).trans x2)
 have R0 : Hid (∃ xs, w2.ownsRow (w.heap.size + 2) 58 5 (.slice (some ⟨w1.heap.size, 0, none⟩) N N) N xs /\ xs.take (0 * 5) = zc (redL (L.take 0) d) /\ Below (w.heap.size + 2) Q w2) := Vd ⟨_, hown, by simp [redL, zc], (HB1.out.mono (by omega)).grown hg2 (by omega) (by simp)⟩
 obtain ⟨g, hg⟩ : ∃ g, g = w1.heap.size := ⟨_, rfl⟩
 rw [<- hg] at R0 ⊢
 have hgb : w.heap.size + 2 <= g := by omega
 clear hown hg2 x2 lb hg
 go_loopw [20] (fun i wr => ∃ k : Nat, k <= N /\ i = .int .i64 k /\ Hid (∃ xs, wr.ownsRow (w.heap.size + 2) 58 5 (.slice (some ⟨g, 0, none⟩) N N) N xs /\ xs.take (k * 5) = zc (redL (L.take k) d) /\ Below (w.heap.size + 2) Q wr)) (fun i _ => N - (intOf i).toNat)
 case atStart => exact ⟨0, Nat.zero_le _, rfl, R0⟩
 case round =>
  obtain ⟨k, hk, rfl, hr⟩ := hrel
  clear R0
  by_cases lt : k < N
  ·have kl : k < L.length := by rw [<- HLN.out]; exact lt
   obtain ⟨xs, own, tk, bq⟩ := hr.out
   obtain ⟨ad, rfl, ab, z0, z1, z2, z3, z4⟩ := ja (SA.out wr (HB.out.trans (bq.mono (by omega)))) k kl
   have OW := Vd own
   have TK := Vd tk
   have BQ := Vd bq
   have NL : Hid (redL (L.take (k + 1)) d = redL (L.take k) d ++ [redC d L[k]]) := Vd (by rw [List.take_succ_eq_append_getElem kl]; unfold redL; rw [List.map_append]; rfl)
   have SR := Vd (fun W => Xu (L[k]).st d W)
   generalize L[k] = a at *
   obtain ⟨t, wd, ⟨fg, bg, at_⟩⟩ := a
   simp only at z0 z1 z2 z3 z4 SR
   clear own tk bq hr
   go_wp2_with fail
   refine (SR.out _).mono ?_; rintro e w3 ⟨rfl, hb3⟩
   obtain ⟨rr, hrr⟩ : ∃ rr, rr = zL ⟨fg, bg, at_⟩ d := ⟨_, rfl⟩
   rw [<- hrr]
   have RC : Hid (celV (redC d ⟨t, wd, ⟨fg, bg, at_⟩⟩) = [.string t, .int .i8 wd, .int .i32 rr.fg, .int .i32 rr.bg, .int .u8 (bI rr.at_)]) := Vd (by rw [hrr]; rfl)
   clear hrr
   have ws : w.heap.size + 2 <= wr.heap.size := by have := BQ.out.size; omega
   have K8 : Blk w3 wr.heap.size [.string t, .int .i8 wd, .int .i32 fg, .int .i32 bg, .int .u8 (bI at_)] := (Blk.new wr [.string t, .int .i8 wd, .int .i32 fg, .int .i32 bg, .int .u8 (bI at_)] 58).keep hb3 (by simp)
   have O3 := Qw (OW.out.alloc (.cells #[.string t, .int .i8 wd, .int .i32 fg, .int .i32 bg, .int .u8 (bI at_)] 58)) hb3
   have B3 := Vd ((BQ.out.alloc ws (.cells #[.string t, .int .i8 wd, .int .i32 fg, .int .i32 bg, .int .u8 (bI at_)] 58)).trans (hb3.mono (by simp; omega)))
   have xl : xs.length = N * 5 := O3.1
   have rc : ∀ j, j < 5 -> ∃ v, xs[k * 5 + j]? = some v := fun j hj => ⟨_, List.getElem?_eq_getElem (by omega)⟩
   obtain ⟨v0, hv0⟩ := rc 0 (by decide)
   obtain ⟨v1, hv1⟩ := rc 1 (by decide)
   obtain ⟨v2, hv2⟩ := rc 2 (by decide)
   obtain ⟨v3, hv3⟩ := rc 3 (by decide)
   obtain ⟨v4, hv4⟩ := rc 4 (by decide)
   have y0 : w3.cell? ⟨g, k * 5, none⟩ = some v0 := (O3.cellAt (k * 5) (by omega)).trans hv0
   have y1 : w3.cell? ⟨g, k * 5 + 1, none⟩ = some v1 := (O3.cellAt (k * 5 + 1) (by omega)).trans hv1
   have y2 : w3.cell? ⟨g, k * 5 + 2, none⟩ = some v2 := (O3.cellAt (k * 5 + 2) (by omega)).trans hv2
   have y3 : w3.cell? ⟨g, k * 5 + 3, none⟩ = some v3 := (O3.cellAt (k * 5 + 3) (by omega)).trans hv3
   have y4 : w3.cell? ⟨g, k * 5 + 4, none⟩ = some v4 := (O3.cellAt (k * 5 + 4) (by omega)).trans hv4
   have p0 := O3.frozenAt (k * 5)
   have p1 := O3.frozenAt (k * 5 + 1)
   have p2 := O3.frozenAt (k * 5 + 2)
   have p3 := O3.frozenAt (k * 5 + 3)
   have p4 := O3.frozenAt (k * 5 + 4)
   have ne : g ≠ wr.heap.size := by
    have h1 := (OW.out.cellAt (k * 5) (by omega)).trans hv0
    have := block_lt_of_cell h1
    simp only at this
    omega
   have k0 := K8.c 0 _ rfl
   have k1 := K8.c 1 _ rfl
   have k2 := K8.c 2 _ rfl
   have k3 := K8.c 3 _ rfl
   have k4 := K8.c 4 _ rfl
   have f2 := K8.f 2 _ rfl
   have f3 := K8.f 3 _ rfl
   have f4 := K8.f 4 _ rfl
   have NO : Hid (∃ xs, ((((((((w3.setCell ⟨wr.heap.size, 2, none⟩ (.int .i32 rr.fg)).setCell ⟨wr.heap.size, 3, none⟩ (.int .i32 rr.bg)).setCell ⟨wr.heap.size, 4, none⟩ (.int .u8 (bI rr.at_))).setCell ⟨g, k * 5, none⟩ (.string t)).setCell ⟨g, k * 5 + 1, none⟩ (.int .i8 wd)).setCell ⟨g, k * 5 + 2, none⟩ (.int .i32 rr.fg)).setCell ⟨g, k * 5 + 3, none⟩ (.int .i32 rr.bg)).setCell ⟨g, k * 5 + 4, none⟩ (.int .u8 (bI rr.at_))).ownsRow (w.heap.size + 2) 58 5 (.slice (some ⟨g, 0, none⟩) N N) N xs /\ xs.take ((k + 1) * 5) = zc (redL (L.take (k + 1)) d) /\ Below (w.heap.size + 2) Q ((((((((w3.setCell ⟨wr.heap.size, 2, none⟩ (.int .i32 rr.fg)).setCell ⟨wr.heap.size, 3, none⟩ (.int .i32 rr.bg)).setCell ⟨wr.heap.size, 4, none⟩ (.int .u8 (bI rr.at_))).setCell ⟨g, k * 5, none⟩ (.string t)).setCell ⟨g, k * 5 + 1, none⟩ (.int .i8 wd)).setCell ⟨g, k * 5 + 2, none⟩ (.int .i32 rr.fg)).setCell ⟨g, k * 5 + 3, none⟩ (.int .i32 rr.bg)).setCell ⟨g, k * 5 + 4, none⟩ (.int .u8 (bI rr.at_)))) := Vd (by
    refine ⟨_, (((((((((kJ (kJ (kJ O3 ne) ne) ne).stored (k * 5) (.string t)).1).stored (k * 5 + 1) (.int .i8 wd)).1).stored (k * 5 + 2) (.int .i32 rr.fg)).1).stored (k * 5 + 3) (.int .i32 rr.bg)).1.stored (k * 5 + 4) (.int .u8 (bI rr.at_))).1, ?_, ?_⟩
    ·rw [show (k + 1) * 5 = k * 5 + 5 by omega, set5 _ _ _ _ _ _ _ (by omega), TK.out, NL.out, xq, <- RC.out]
     rw [show zc [redC d ⟨t, wd, ⟨fg, bg, at_⟩⟩] = celV (redC d ⟨t, wd, ⟨fg, bg, at_⟩⟩) by simp [zc]]
    ·exact (((((((B3.out.setCell (p := ⟨wr.heap.size, 2, none⟩) ws _).setCell (p := ⟨wr.heap.size, 3, none⟩) ws _).setCell (p := ⟨wr.heap.size, 4, none⟩) ws _).setCell (p := ⟨g, k * 5, none⟩) hgb _).setCell (p := ⟨g, k * 5 + 1, none⟩) hgb _).setCell (p := ⟨g, k * 5 + 2, none⟩) hgb _).setCell (p := ⟨g, k * 5 + 3, none⟩) hgb _).setCell (p := ⟨g, k * 5 + 4, none⟩) hgb _)
   clear K8 O3 rc hv0 hv1 hv2 hv3 hv4 hb3 xl z0 z1 z2 z3 z4
   go_wp2_with fail
   go_roundw
   case rel => exact ⟨k + 1, by omega, by go_num, NO⟩
   case measure => simp [intOf]; omega
  ·have e : k = N := by omega
   subst e
   obtain ⟨xs, own, tk, bq⟩ := hr.out
   have xl : xs.length = k * 5 := own.1
   rw [List.take_of_length_le (by omega), List.take_of_length_le (by rw [<- HLN.out]; exact Vf)] at tk
   subst tk
   have KB := KB.out.keep bq (by omega)
   have KR := KQ.out.keep bq (by omega)
   have OW := Vd own
   have BB := Vd (HB.out.trans (bq.mono (by omega)))
   have b0 := KB.c 0 _ rfl
   have b1 := KB.c 1 _ rfl
   have b2 := KB.c 2 _ rfl
   have b3 := KB.c 3 _ rfl
   have b4 := KB.c 4 _ rfl
   have b5 := KB.c 5 _ rfl
   have g2 := KB.f 2 _ rfl
   have k0 := KR.c 0 _ rfl
   have k1 := KR.c 1 _ rfl
   have k2 := KR.c 2 _ rfl
   have k3 := KR.c 3 _ rfl
   have k4 := KR.c 4 _ rfl
   have k5 := KR.c 5 _ rfl
   have f0 := KR.f 0 _ rfl
   have f1 := KR.f 1 _ rfl
   have f2 := KR.f 2 _ rfl
   have f3 := KR.f 3 _ rfl
   have f4 := KR.f 4 _ rfl
   have f5 := KR.f 5 _ rfl
   clear own bq hr KB KR xl
   go_wp2_with fail
   refine bodyPost_ret (v := .tuple #[.agg #[.int .i64 s.w, .int .i64 s.h, .slice (some ⟨g, 0, none⟩) k k, .int .i64 s.x, .int .i64 s.y, .bool s.shown], .int .i64 0]) (by simp [results, Tryz.results9, go_sem, k0, k1, k2, k3, k4, k5]) rfl ⟨g, rfl, ?_, ?_⟩
   ·refine je (base := w.heap.size + 2) ?_ (by omega)
    repeat (refine kJ ?_ (by omega))
    exact OW.out
   ·repeat (first | with_reducible exact BB.out | refine Below.setCell ?_ (by first | exact Vf | exact Nat.le_succ _) _)
end
section
open Go.RowKit Go.Sort
def jp : List Int := [1, 2, 3, 4, 5, 7, 8, 9]
def jQ : List Int := [22, 22, 23, 24, 25, 27, 28, 29]
def RowRet (w : World) (L : List Int) (e : Ending) (w' : World) : Prop := ∃ g, e = .returned (.slice (some ⟨g, 0, none⟩) L.length L.length) /\ Shows L.length (ints L) (.slice (some ⟨g, 0, none⟩) L.length L.length) w' /\ w.heap.size <= g /\ Below w.heap.size w w'
theorem vD (k : Nat) (h : k < 8) : (ints jp)[k]? = some (.int .i64 (onN k)) /\ (ints jQ)[k]? = some (.int .i64 (offN k)) := by
 have : k = 0 \/ k = 1 \/ k = 2 \/ k = 3 \/ k = 4 \/ k = 5 \/ k = 6 \/ k = 7 := by omega
 rcases this with rfl | rfl | rfl | rfl | rfl | rfl | rfl | rfl <;> exact ⟨rfl, rfl⟩
end
section
open Go Go.RowKit Go.Sort
theorem Xx (n : Int) (h0 : 0 <= n) (h1 : n < 1000) : Tells 125 #[.int .i64 n] (.int .i64 (digN n)) := by
 intro w
 by_cases t1 : n < 10
 ·have D : Hid (digN n = 1) := Vd (by unfold digN; rw [if_pos t1])
  go_enter Tryz.func125, Tryz.ntmps125
  go_wp2_with fail
  go_rounds 1
  go_ret
  exact ⟨zC D.out.symm, rfl⟩
 by_cases t2 : n < 100
 ·have D : Hid (digN n = 2) := Vd (by unfold digN; rw [if_neg t1, if_pos t2])
  have e1 : n / 10 < 10 := by omega
  have e2 : 0 <= n / 10 := by omega
  go_enter Tryz.func125, Tryz.ntmps125
  go_wp2_with fail
  go_rounds 2
  go_ret
  exact ⟨zC D.out.symm, rfl⟩
 ·have D : Hid (digN n = 3) := Vd (by unfold digN; rw [if_neg t1, if_neg t2])
  have e1 : 10 <= n / 10 := by omega
  have e3 : n / 10 / 10 < 10 := by omega
  have e4 : 0 <= n / 10 / 10 := by omega
  go_enter Tryz.func125, Tryz.ntmps125
  go_wp2_with fail
  go_rounds 3
  go_ret
  exact ⟨zC D.out.symm, rfl⟩
set_option maxHeartbeats 4000000 in
theorem Qx (A : Option Addr) (c : Nat) (xs : List Int) (hx : ∀ x ∈ xs, 0 <= x /\ x < 1000) (hm : xs.length <= 1000) (w : World) (h : Sees w w.heap.size A (ints xs)) :
  Calls Tryz.prog 106 #[.slice A xs.length c] w fun e w' => e = .returned (.int .i64 (qI xs)) /\ w = w' := by
 have F := Vd (fun (k : Nat) (hk : k < xs.length) => h.at (k := k) (by simpa [ints] using hk))
 have HX := Vd hx
 obtain ⟨n, hn⟩ : ∃ n, n = xs.length := ⟨_, rfl⟩
 have HN := Vd hn
 rw [<- hn] at hm ⊢
 have SB := Vd (fun k hk => JV xs k hk)
 clear h hx hn
 go_enter Tryz.func106, Tryz.ntmps106
 go_wp2_with fail
 go_loop [3, 4] (fun s i => ∃ (k : Nat) (z : Int), k <= n /\ i = .int .i64 k /\ s = .int .i64 z /\ Hid (z = qX xs k)) (fun _ i => n - (intOf i).toNat)
 case atStart => exact ⟨0, _, by omega, rfl, rfl, Vd rfl⟩
 case round =>
  obtain ⟨k, z, hk, rfl, rfl, hz⟩ := hrel
  have zb : 0 <= z /\ z <= 4000 := by
   have := SB.out k (by have := HN.out; omega)
   have e := hz.out
   omega
  obtain ⟨zb1, zb2⟩ := zb
  by_cases lt : k < n
  ·have kl : k < xs.length := by have := HN.out; omega
   obtain ⟨ad, rfl, hb, hc0⟩ := F.out k kl
   have NX := Vd (JT xs k kl)
   obtain ⟨x0, x1⟩ := HX.out xs[k] (List.getElem_mem _)
   have hc : w.cell? (ad.add k) = some (.int .i64 xs[k]) := by rw [hc0]; simp [ints]
   have D := Vd (Xx _ x0 x1)
   have DB : 1 <= digN xs[k] /\ digN xs[k] <= 3 := by unfold digN; split; decide; split <;> decide
   obtain ⟨db1, db2⟩ := DB
   clear hc0
   generalize digN xs[k] = dn at *
   by_cases k0 : 0 < k
   ·go_wp2_with (go_at_call 125; refine (D.out _).mono ?_; rintro e w' ⟨rfl, rfl⟩)
    go_round
    case rel => exact ⟨k + 1, _, by omega, by go_num, rfl, Vd (by rw [NX.out, hz.out, if_neg (by omega)])⟩
    case measure => simp [intOf]; omega
   ·have kz : ¬ (0 : Int) < (k : Int) := by omega
    go_wp2_with (go_at_call 125; refine (D.out _).mono ?_; rintro e w' ⟨rfl, rfl⟩)
    go_round
    case rel => exact ⟨k + 1, _, by omega, by go_num, rfl, Vd (by rw [NX.out, hz.out, if_pos (by omega)]; omega)⟩
    case measure => simp [intOf]; omega
  ·have e : k = n := by omega
   subst e
   have E : Hid (z = qI xs) := Vd (by rw [hz.out, HN.out]; exact JU xs)
   go_wp2_with fail
   go_ret
   exact ⟨zC E.out, rfl⟩
theorem xR (a : B8) (k : Nat) (h : k < 8) : Tells 123 #[.int .u8 (bI a), .int .i64 (k : Int)] (.bool (a.getLsbD k)) := by
 intro w
 have hb := x9 a k h
 have hs : bI a / 2 ^ min (Int.toNat (k : Int)) 8 = bI a / 2 ^ k := by rw [Int.toNat_natCast, Nat.min_eq_left (by omega)]
 have GB := bI_lt a
 cases e : a.getLsbD k
 all_goals
  rw [e] at hb
  simp only [Bool.false_eq_true, if_false, if_true] at hb
  clear e
  go_enter Tryz.func123, Tryz.ntmps123
  go_wp2
  go_ret
  exact ⟨rfl, rfl⟩
set_option maxHeartbeats 4000000 in
theorem kK (c more : Int) (hc : qm c) (hm : more = 0 \/ more = 10) (w : World) : Calls Tryz.prog 124 #[.int .i32 c, .int .i64 more] w (RowRet w (colL c (30 + more))) := by
 have FIN : Hid (∀ L : List Int, colL c (30 + more) = L -> RowRet w (colL c (30 + more)) (.returned (.slice (some ⟨w.heap.size, 0, none⟩) L.length L.length)) (w.alloc (.cells (ints L).toArray 3))) := Vd (fun L e => by
  rw [e]
  exact ⟨_, rfl, ⟨_, rfl, by simp, fun i u h => (qw w (ints L) 3 i u h).1⟩, Vf, (Below.refl _ _).alloc Vf _⟩)
 have m0 : 0 <= more := by omega
 have m1 : more <= 10 := by omega
 clear hm
 rcases hc with rfl | ⟨c0, c1⟩ | ⟨c0, c1⟩
 ·go_enter Tryz.func124, Tryz.ntmps124
  go_wp2
  go_ret
  exact FIN.out [39 + more] (by unfold colL; rw [if_pos rfl]; congr 1; omega)
 ·by_cases t1 : 272 <= c
  ·go_enter Tryz.func124, Tryz.ntmps124
   go_wp2
   go_ret
   exact FIN.out [38 + more, 5, c - 256] (by unfold colL; rw [if_neg (by omega), if_neg (by omega), if_pos t1]; congr 1; omega)
  by_cases t2 : 264 <= c
  ·go_enter Tryz.func124, Tryz.ntmps124
   go_wp2
   go_ret
   exact FIN.out [90 + more + c - 256 - 8] (by unfold colL; rw [if_neg (by omega), if_neg (by omega), if_neg (by omega), if_pos (by omega)]; congr 1; omega)
  ·go_enter Tryz.func124, Tryz.ntmps124
   go_wp2
   go_ret
   exact FIN.out [30 + more + c - 256] (by unfold colL; rw [if_neg (by omega), if_neg (by omega), if_neg (by omega), if_neg (by omega)]; congr 1; omega)
 ·obtain ⟨N, hN⟩ : ∃ N, N = c - 16777216 := ⟨_, rfl⟩
  have n0 : 0 <= N := by omega
  have n1 : N < 16777216 := by omega
  have ec : c = N + 16777216 := by omega
  subst ec
  have en : N + 16777216 - 16777216 = N := by omega
  clear hN
  go_enter Tryz.func124, Tryz.ntmps124
  go_wp2
  go_ret
  exact FIN.out [38 + more, 2, N / 65536, N / 256 % 256, N % 256] (by unfold colL; rw [if_neg (by omega), if_pos c0, en]; congr 1; omega)
theorem kL {ops : Array Oper} {rest : List Oper} {o : Oper} {a : Act} {Q : Exit -> Act -> World -> Prop} {W0 w : World} {v1 v2 : Value} {l1 l2 : List Int} (P : Pair W0 w v1 v2 l1 l2) (s x : Operand) (L : List Int) (g : Nat) (hm : l1.length + L.length <= 2000) (hgd : o.guard = none)
  (ho : o.op = .call { callee := .builtin .append, args := #[s, x], argTypes := #[38, 38] }) (hs : a.eval s = v1) (hx : a.eval x = .slice (some ⟨g, 0, none⟩) L.length L.length) (hS : Shows L.length (ints L) (.slice (some ⟨g, 0, none⟩) L.length L.length) w)
  (h : ∀ v' w', Hid (Pair W0 w' v' v2 (l1 ++ L) l2) -> wpList Tryz.prog ops Q rest (a.put o.dst v') w') : wpList Tryz.prog ops Q (o :: rest) a w := by
 obtain ⟨i0, hi0, hz0, hz1, hz2⟩ := info_parts xM
 obtain ⟨_, e, _, hc⟩ := hS
 cases e
 refine wpList_append_own_at _ hgd s x 38 ho W0.heap.size 3 i0 (.int .i64 0) 1 8 Tryz.underlying38 hi0 hz0 hz1 hz2 rfl (by decide) v1 l1.length (ints l1) hs P.o1 ⟨g, 0, none⟩ L.length L.length (ints L) hx (by simp [ints]) (fun j u hu => by
   have : ((⟨g, 0, none⟩ : Addr).add j) = ⟨g, j, none⟩ := by
    unfold Addr.add
    split
    ·rename_i z; rw [z]
    ·simp
   rw [this]; exact hc j u hu)
  (fun u hu => by unfold ints at hu; obtain ⟨y, _, rfl⟩ := List.mem_map.1 hu; rfl) (by unfold maxLen; omega) (by omega) P.be.size ?_
 intro v' w' h1 h2 _ h4
 refine h v' w' (Vd (P.one ?_ h2 ?_))
 ·rw [List.length_append, kC]; exact h1
 ·rcases h4 with e | e
  ·exact Or.inl e
  ·exact Or.inr ⟨_, e, Vf⟩
theorem Qy (w : World) (L : List Int) (h : L.length <= 1000) : (w.alloc (.cells (ints L).toArray 3)).ownsRow w.heap.size 3 1 (.slice (some ⟨w.heap.size, 0, none⟩) L.length L.length) L.length (ints L) :=
 ⟨by simp [ints], Or.inr ⟨w.heap.size, L.length, (ints L).toArray, rfl, Vf, Array.getElem?_push_size, Vf, by unfold maxLen; omega, by simp [ints], by rw [Nat.mul_one, List.take_of_length_le (by simp [ints])]⟩⟩
theorem Qz (w : World) : Calls Tryz.prog 122 #[] w fun e w' => e = .returned (.slice (some ⟨w.heap.size, 0, none⟩) 8 8) /\ w' = w.alloc (.cells (ints jp).toArray 3) := by
 go_enter Tryz.func122, Tryz.ntmps122
 go_wp2
 go_ret
 exact ⟨rfl, rfl⟩
theorem Xy (w : World) : Calls Tryz.prog 121 #[] w fun e w' => e = .returned (.slice (some ⟨w.heap.size, 0, none⟩) 8 8) /\ w' = w.alloc (.cells (ints jQ).toArray 3) := by
 go_enter Tryz.func121, Tryz.ntmps121
 go_wp2
 go_ret
 exact ⟨rfl, rfl⟩
theorem Pair.call {W0 w w' : World} {v1 v2 : Value} {l1 l2 : List Int} (h : Pair W0 w v1 v2 l1 l2) (hb : Below w.heap.size w w') : Pair W0 w' v1 v2 l1 l2 :=
 ⟨qg h.o1 hb, qg h.o2 hb, h.ap, zl h.be h.be.size hb⟩
end
section
open Go Go.RowKit Go.Sort
set_option maxHeartbeats 8000000 in
set_option maxRecDepth 100000 in
theorem ref_anew (b : Sty) (hf : qm b.fg) (hb : qm b.bg) (w : World) : Calls Tryz.prog 105 #[styV b.fg b.bg b.at_] w (xP w (twoL b)) := by
 have K1 := Vd (fun W => kK b.fg 0 hf (Or.inl rfl) W)
 have K2 := Vd (fun W => kK b.bg 10 hb (Or.inr rfl) W)
 have LF := Vd (qG b.fg 30)
 have LB := Vd (qG b.bg 40)
 have e30 : (30 : Int) + 0 = 30 := rfl
 have e40 : (30 : Int) + 10 = 40 := rfl
 rw [e30] at K1
 rw [e40] at K2
 have TW : Hid (twoL b = [0] ++ setL b.at_ ++ (if b.fg = 0 then [] else colL b.fg 30) ++ (if b.bg = 0 then [] else colL b.bg 40)) := Vd rfl
 clear hf hb e30 e40
 obtain ⟨bf, bb, ba⟩ := b
 simp only at K1 K2 LF LB TW ⊢
 generalize colL bf 30 = CF at *
 generalize colL bb 40 = CB at *
 generalize twoL ⟨bf, bb, ba⟩ = TWO at *
 go_enter Tryz.func105, Tryz.ntmps105
 go_wp2_with fail
 refine (Qz _).mono ?_; rintro e w1 ⟨rfl, hw1⟩
 obtain ⟨W0, hW0⟩ : ∃ W0, W0 = w.alloc (.cells #[.int .i32 bf, .int .i32 bb, .int .u8 (bI ba)] 56) := ⟨_, rfl⟩
 have k0 : C3 W0 w.heap.size (.int .i32 bf) (.int .i32 bb) (.int .u8 (bI ba)) := by subst hW0; constructor <;> simp [go_sem]
 have HW : Hid (Below w.heap.size w W0) := Vd (by subst hW0; go_grown)
 have sz : W0.heap.size = w.heap.size + 1 := by subst hW0; simp
 have P0 : Pair W0 w1 (.slice (some ⟨w.heap.size + 1, 0, none⟩) 1 1) (.slice (some ⟨w.heap.size + 1 + 1, 0, none⟩) 8 8) ([0] ++ stK ba 0) jp := by
  subst hw1
  rw [<- hW0]
  have o1 := (Qy W0 [0] (by decide)).alloc (.cells (ints jp).toArray 3)
  have o2 := Qy (W0.alloc (.cells (ints [0]).toArray 3)) jp (by decide)
  have s2 : (W0.alloc (.cells (ints [0]).toArray 3)).heap.size = w.heap.size + 1 + 1 := by simp [sz]
  rw [sz] at o1
  rw [s2] at o2
  refine ⟨?_, jf o2 (by omega), fun g hg1 hg2 => ?_, ?_⟩
  ·rw [sz]; exact o1
  ·simp [Value.ownBlock] at hg1 hg2; omega
  ·exact ((Below.refl _ _).alloc Vf _).alloc (by simp) _
 have l0 : w.heap.size < W0.heap.size := by omega
 have PH := Vd P0
 obtain ⟨V4, hV4⟩ : ∃ V4, V4 = (Value.slice (some ⟨w.heap.size + 1 + 1, 0, none⟩) 8 8) := ⟨_, rfl⟩
 rw [<- hV4] at PH
 have HV4 := Vd hV4
 clear hw1 hW0 sz P0
 go_upto_region 3 with fail
 go_wp2_with fail
 rw [show w.heap.size + 1 + 1 = w.heap.size + 1 + 1 from rfl]
 go_loopw [5, 3] (fun s5 s3 wr => ∃ k : Nat, k <= 8 /\ s5 = .int .i64 k /\ Hid (Pair W0 wr s3 V4 ([0] ++ stK ba k) jp)) (fun s5 _ _ => 8 - (intOf s5).toNat)
 case atStart => exact ⟨0, by omega, rfl, PH⟩
 case round =>
  obtain ⟨k, k8, rfl, P⟩ := hrel
  by_cases lt : k < 8
  ·have q := k0.keep P.out.be l0
   obtain ⟨c0, c1, c2, f0, f1, f2⟩ := q
   have NX := Vd (kE ba k)
   have lb := xN ba k
   have BT := xR ba k lt
   have ho : wr.cell? ⟨w.heap.size + 1 + 1, k, none⟩ = some (.int .i64 (onN k)) := by
    have := P.out.o2
    rw [HV4.out] at this
    rw [this.cellAt k (by simp; exact lt)]
    exact (vD k lt).1
   cases e : ba.getLsbD k
   all_goals
    rw [e] at BT
    have NX := NX.out
    rw [e] at NX
    simp only [Bool.false_eq_true, if_false, if_true] at NX
    have NX := Vd NX
    have BT := Vd BT
    clear e
   ·go_wp2_with fail
    refine (BT.out _).mono ?_; rintro e' w' ⟨rfl, rfl⟩
    go_wp2_with fail
    go_roundw
    case rel => exact ⟨k + 1, by omega, by go_num, Vd (by rw [NX.out]; exact P.out)⟩
    case measure => simp [intOf]; omega
   ·go_wp2_with fail
    refine (BT.out _).mono ?_; rintro e' w' ⟨rfl, rfl⟩
    go_wp2_with (at_builtin; refine jN P.out (.tmp 20) (.tmp 25) (onN k) (by rw [List.length_append]; simp; omega) rfl rfl rfl rfl ?_; intro v' w' P4)
    go_roundw
    case rel => exact ⟨k + 1, by omega, by go_num, Vd (by rw [NX.out, <- List.append_assoc]; exact P4.out)⟩
    case measure => simp [intOf]; omega
  ·have ek : k = 8 := by omega
   subst ek
   rw [xO] at P
   have L8 := (xD ba).2.2
   obtain ⟨R2, hR2⟩ : ∃ R2, R2 = [0] ++ setL ba := ⟨_, rfl⟩
   rw [<- hR2] at P TW
   have R2L : R2.length <= 9 := by rw [hR2, List.length_append]; simp; omega
   have q := k0.keep P.out.be l0
   obtain ⟨c0, c1, c2, f0, f1, f2⟩ := q
   clear hR2 L8
   go_upto_if 29 with fail
   go_cut [3, 7] from 29 to 35 (fun s3 s7 wx => Hid (Pair W0 wx s3 V4 (R2 ++ if bf = 0 then [] else CF) jp))
   case first =>
    by_cases z : bf = 0
    ·have g : (bf != 0) = false := by rw [z]; rfl
     have E : Hid ((if bf = 0 then [] else CF) = []) := Vd (if_pos z)
     clear z
     go_wp2_with fail
     go_meet
     rw [E.out, List.append_nil]
     exact P
    ·have g : (bf != 0) = true := by rw [bne_iff_ne]; exact z
     have E : Hid ((if bf = 0 then [] else CF) = CF) := Vd (if_neg z)
     clear z
     go_wp2_with fail
     refine (K1.out _).mono ?_; rintro e' w3 ⟨g3, rfl, S3, _, hb3⟩
     have P3 := Vd (P.out.call hb3)
     have S3 := Vd S3
     have lf := LF.out
     clear hb3
     go_wp2_with (at_builtin; refine kL P3.out (.tmp 33) (.tmp 34) CF g3 (by omega) rfl rfl rfl rfl S3.out ?_; intro v' w' P4)
     go_meet
     rw [E.out]
     exact P4
   case rest =>
    obtain ⟨R3, hR3⟩ : ∃ R3, R3 = R2 ++ (if bf = 0 then [] else CF) := ⟨_, rfl⟩
    rw [<- hR3] at hcut TW
    have P3 := hcut
    have R3L : R3.length <= 14 := by
     rw [hR3, List.length_append]
     have : (if bf = 0 then [] else CF).length <= 5 := by split; simp; exact LF.out
     omega
    have q := k0.keep P3.out.be l0
    clear c0 c1 c2 f0 f1 f2
    obtain ⟨c0, c1, c2, f0, f1, f2⟩ := q
    clear hR3 P
    by_cases z : bb = 0
    ·have g : (bb != 0) = false := by rw [z]; rfl
     have E : Hid (TWO = R3) := Vd (by rw [TW.out, if_pos z, List.append_nil])
     clear z
     go_wp2_with fail
     go_ret
     exact ⟨_, rfl, by rw [E.out]; exact jf P3.out.o1 HW.out.size, HW.out.trans (P3.out.be.mono HW.out.size)⟩
    ·have g : (bb != 0) = true := by rw [bne_iff_ne]; exact z
     have E : Hid (TWO = R3 ++ CB) := Vd (by rw [TW.out, if_neg z])
     clear z
     go_wp2_with fail
     refine (K2.out _).mono ?_; rintro e' w3 ⟨g3, rfl, S3, _, hb3⟩
     have P4 := Vd (P3.out.call hb3)
     have S3 := Vd S3
     have lf := LB.out
     clear hb3
     go_wp2_with (at_builtin; refine kL P4.out (.tmp 42) (.tmp 43) CB g3 (by omega) rfl rfl rfl rfl S3.out ?_; intro v' w' P5)
     go_ret
     exact ⟨_, rfl, by rw [E.out]; exact jf P5.out.o1 HW.out.size, HW.out.trans (P5.out.be.mono HW.out.size)⟩
end
section
open Go Go.RowKit Go.Sort
theorem Xz (a b : B8) : (a &&& 3#8) &&& ~~~b = (a &&& ~~~b) &&& 3#8 := by
 apply b8_ext
 intro i hi
 simp only [BitVec.getLsbD_and, BitVec.getLsbD_not, hi, decide_true, Bool.true_and]
 cases a.getLsbD i <;> cases b.getLsbD i <;> simp
set_option maxHeartbeats 16000000 in
set_option maxRecDepth 100000 in
theorem XA (a b : Sty) (hf : qm b.fg) (hb : qm b.bg) (w : World) : Calls Tryz.prog 104 #[styV a.fg a.bg a.at_, styV b.fg b.bg b.at_] w (xP w (oneL a b)) := by
  have K1 := Vd (fun W => kK b.fg 0 hf (Or.inl rfl) W)
  have K2 := Vd (fun W => kK b.bg 10 hb (Or.inr rfl) W)
  have LF := Vd (qG b.fg 30)
  have LB := Vd (qG b.bg 40)
  have e30 : (30 : Int) + 0 = 30 := rfl
  have e40 : (30 : Int) + 10 = 40 := rfl
  rw [e30] at K1
  rw [e40] at K2
  have TW : Hid (oneL a b = (if qy a.at_ b.at_ = true then [22] else []) ++ jw (a.at_ &&& ~~~b.at_) ++ setL ((b.at_ &&& ~~~a.at_) ||| (if qy a.at_ b.at_ = true then b.at_ &&& 3 else 0)) ++ (if a.fg = b.fg then [] else colL b.fg 30) ++ (if a.bg = b.bg then [] else colL b.bg 40)) := Vd rfl
  clear hf hb e30 e40
  obtain ⟨af, ab, aa⟩ := a
  obtain ⟨bf, bb, ba⟩ := b
  simp only at K1 K2 LF LB TW ⊢
  generalize colL bf 30 = CF at *
  generalize colL bb 40 = CB at *
  generalize oneL ⟨af, ab, aa⟩ ⟨bf, bb, ba⟩ = ONE at *
  obtain ⟨lam, hlam⟩ : ∃ lam : Bool, lam = qy aa ba := ⟨_, rfl⟩
  have CB' := Vd (fun i hi => come_bit aa ba i hi)
  have GB' := Vd (fun i hi => gone_bit aa ba i hi)
  have HLAM := Vd hlam
  rw [<- hlam] at TW CB'
  have b3 : bits .and .u8 (bI aa) 3 = bI (aa &&& 3#8) := kW aa 3 (by decide)
  have bl : (bI ((aa &&& 3#8) &&& ~~~ba) != 0) = lam := by
    rw [Xz, hlam]
    unfold qy
    rw [Bool.eq_iff_iff, bne_iff_ne, bne_iff_ne]
    constructor
    · intro h e; apply h; rw [show aa &&& ~~~ba &&& 3#8 = 0 from e]; rfl
    · intro h e; apply h; exact jV (b := 0) e
  obtain ⟨G, hG⟩ : ∃ G : B8, G = aa &&& ~~~ba := ⟨_, rfl⟩
  obtain ⟨CO, hCO⟩ : ∃ CO : B8, CO = (ba &&& ~~~aa) ||| (if lam = true then ba &&& 3 else 0) := ⟨_, rfl⟩
  rw [<- hG] at TW GB'
  rw [<- hCO] at TW CB'
  clear hlam hG hCO
  go_enter Tryz.func104, Tryz.ntmps104
  go_wp2_with fail
  refine (Xy _).mono ?_; rintro e w1 ⟨rfl, hw1⟩
  go_wp2_with fail
  refine (Qz _).mono ?_; rintro e w2 ⟨rfl, hw2⟩
  have k0 : C3 w2 w.heap.size (.int .i32 af) (.int .i32 ab) (.int .u8 (bI aa)) := by subst hw2 hw1; constructor <;> simp [go_sem]
  have k1 : C3 w2 (w.heap.size + 1) (.int .i32 bf) (.int .i32 bb) (.int .u8 (bI ba)) := by subst hw2 hw1; constructor <;> simp [go_sem]
  have HW : Hid (Below w.heap.size w w2) := Vd (by subst hw2 hw1; go_grown)
  obtain ⟨gt, hgt⟩ : ∃ g, g = w.heap.size + 1 + 1 := ⟨_, rfl⟩
  obtain ⟨gs, hgs⟩ : ∃ g, g = w.heap.size + 1 + 1 + 1 := ⟨_, rfl⟩
  obtain ⟨X, hX⟩ : ∃ X, X = ((w.alloc (.cells #[.int .i32 af, .int .i32 ab, .int .u8 (bI aa)] 56)).alloc (.cells #[.int .i32 bf, .int .i32 bb, .int .u8 (bI ba)] 56)) := ⟨_, rfl⟩
  have hw3 : w2 = (X.alloc (.cells (ints jQ).toArray 3)).alloc (.cells (ints jp).toArray 3) := by rw [hw2, hX]
  have sX : X.heap.size = gt := by rw [hX, hgt]; simp
  have sX1 : (X.alloc (.cells (ints jQ).toArray 3)).heap.size = gs := by rw [hgs, <- hgt, <- sX]; simp
  have OF : Hid (∀ k, k < 8 -> w2.cell? ⟨gt, k, none⟩ = some (.int .i64 (offN k))) := Vd (fun k h => by
    have q := (qw X (ints jQ) 3 k _ (vD k h).2).1
    have z := ((Below.refl (X.alloc (.cells (ints jQ).toArray 3)).heap.size (X.alloc (.cells (ints jQ).toArray 3))).alloc Vf (.cells (ints jp).toArray 3)).cell (p := ⟨gt, k, none⟩) (by simp; omega)
    rw [hw3, z, <- sX]
    exact q)
  have ON : Hid (∀ k, k < 8 -> w2.cell? ⟨gs, k, none⟩ = some (.int .i64 (onN k))) := Vd (fun k h => by
    have q := (qw (X.alloc (.cells (ints jQ).toArray 3)) (ints jp) 3 k _ (vD k h).1).1
    rw [sX1] at q
    rw [hw3]
    exact q)
  clear hw3 sX sX1 hX
  have l0 := k0.lt
  have l1 := k1.lt
  have lgt := block_lt_of_cell (OF.out 0 (by decide))
  have lgs := block_lt_of_cell (ON.out 0 (by decide))
  simp only at lgt lgs
  have P0 : Hid (Pair w2 w2 (.slice none 0 0) (.slice none 0 0) [] []) := Vd ⟨World.ownsRow_nil _ _ _ _, World.ownsRow_nil _ _ _ _, (fun g h => by cases h), Below.refl _ _⟩
  have HGT := Vd hgt
  have HGS := Vd hgs
  have ho1 : w.heap.size + 1 + 1 = gt := hgt.symm
  have ho2 : w.heap.size + 1 + 1 + 1 = gs := hgs.symm
  have ho3 : gt + 1 = gs := by omega
  clear hw1 hw2 hgt hgs
  obtain ⟨c0, c1, c2, f0, f1, f2⟩ := k0
  obtain ⟨d0, d1, d2, i0, i1, i2⟩ := k1
  have K0 : Hid (C3 w2 w.heap.size (.int .i32 af) (.int .i32 ab) (.int .u8 (bI aa)) /\ C3 w2 (w.heap.size + 1) (.int .i32 bf) (.int .i32 bb) (.int .u8 (bI ba))) := Vd ⟨⟨c0, c1, c2, f0, f1, f2⟩, ⟨d0, d1, d2, i0, i1, i2⟩⟩
  go_upto_if 26 with fail
  try simp only [ho1, ho3]
  clear ho1 ho2 ho3
  go_cut [5] from 26 to 29 (fun s5 wx => Hid (Pair w2 wx s5 (.slice none 0 0) (if lam = true then [22] else []) []))
  case first =>
    cases lam with
    | true =>
      go_wp2_with (at_builtin; refine jN P0.out (.tmp 27) (.tmp 28) 22 (by simp) rfl rfl rfl rfl ?_; intro v' w' P2)
      go_meet
      exact P2
    | false =>
      go_wp2_with fail
      go_meet
      exact P0
  case rest =>
    obtain ⟨R1, hR1⟩ : ∃ R1 : List Int, R1 = (if lam = true then [22] else []) := ⟨_, rfl⟩
    rw [<- hR1] at hcut TW
    have PR1 := hcut
    have R1L : R1.length <= 1 := by rw [hR1]; split <;> simp
    clear hR1 P0 b3 bl c0 c1 c2 f0 f1 f2 d0 d1 d2 i0 i1 i2
    go_wp2_with fail
    go_loopw [9, 5] (fun s9 s5 wr => ∃ k : Nat, 2 <= k /\ k <= 8 /\ s9 = .int .i64 k /\ Hid (Pair w2 wr s5 (.slice none 0 0) (R1 ++ tkK G k) [])) (fun s9 _ _ => 8 - (intOf s9).toNat)
    case atStart => exact ⟨2, by omega, by omega, rfl, Vd (by rw [Qm, List.append_nil]; exact PR1.out)⟩
    case round =>
      obtain ⟨k, k2, k8, rfl, P⟩ := hrel
      by_cases lt : k < 8
      · obtain ⟨⟨c0, c1, c2, f0, f1, f2⟩, ⟨d0, d1, d2, i0, i1, i2⟩⟩ := (show C3 wr w.heap.size (.int .i32 af) (.int .i32 ab) (.int .u8 (bI aa)) /\ C3 wr (w.heap.size + 1) (.int .i32 bf) (.int .i32 bb) (.int .u8 (bI ba)) from ⟨K0.out.1.keep P.out.be l0, K0.out.2.keep P.out.be l1⟩)
        have NX := Vd (Ql G k k2)
        have lb := kF G k
        have ho := (P.out.be.cell (p := ⟨gt, k, none⟩) lgt).trans (OF.out k lt)
        have T1 := xR aa k lt
        have T2 := xR ba k lt
        have GB := GB'.out k lt
        cases e1 : aa.getLsbD k
        all_goals cases e2 : ba.getLsbD k
        all_goals
          rw [e1] at T1 GB
          rw [e2] at T2 GB
          have NX := NX.out
          rw [GB] at NX
          simp only [Bool.not_true, Bool.not_false, Bool.and_false, Bool.and_true, Bool.false_eq_true, if_false, if_true] at NX
          have NX := Vd NX
          have T1 := Vd T1
          have T2 := Vd T2
          clear e1 e2 GB
          go_wp2_with fail
          refine (T1.out _).mono ?_; rintro e' w' ⟨rfl, rfl⟩
          go_wp2_with fail
          refine (T2.out _).mono ?_; rintro e' w' ⟨rfl, rfl⟩
          first
            | (go_wp2_with (at_builtin; refine jN P.out (.tmp 47) (.tmp 52) (offN k) (by rw [List.length_append]; omega) rfl rfl rfl rfl ?_; intro v' w' P4)
               go_roundw
               case rel => exact ⟨k + 1, by omega, by omega, by go_num, Vd (by rw [NX.out, <- List.append_assoc]; exact P4.out)⟩
               case measure => simp [intOf]; omega
               done)
            | (go_wp2_with fail
               go_roundw
               case rel => exact ⟨k + 1, by omega, by omega, by go_num, Vd (by rw [NX.out]; exact P.out)⟩
               case measure => simp [intOf]; omega)
      · have ek : k = 8 := by omega
        subst ek
        rw [kG] at P
        obtain ⟨R2, hR2⟩ : ∃ R2, R2 = R1 ++ jw G := ⟨_, rfl⟩
        rw [<- hR2] at P TW
        have R2L : R2.length <= 9 := by rw [hR2, List.length_append]; have := kF G 8; rw [kG] at this; omega
        have PR2 := P
        clear hR2 P PR1
        go_wp2_with fail
        go_loopw [12, 5] (fun s12 s5 wr => ∃ k : Nat, k <= 8 /\ s12 = .int .i64 k /\ Hid (Pair w2 wr s5 (.slice none 0 0) (R2 ++ stK CO k) [])) (fun s12 _ _ => 8 - (intOf s12).toNat)
        case atStart => exact ⟨0, by omega, rfl, Vd (by rw [show stK CO 0 = [] from rfl, List.append_nil]; exact PR2.out)⟩
        case round =>
          obtain ⟨k, k8, rfl, P⟩ := hrel
          by_cases lt : k < 8
          · obtain ⟨⟨c0, c1, c2, f0, f1, f2⟩, ⟨d0, d1, d2, i0, i1, i2⟩⟩ := (show C3 wr w.heap.size (.int .i32 af) (.int .i32 ab) (.int .u8 (bI aa)) /\ C3 wr (w.heap.size + 1) (.int .i32 bf) (.int .i32 bb) (.int .u8 (bI ba)) from ⟨K0.out.1.keep P.out.be l0, K0.out.2.keep P.out.be l1⟩)
            have NX := Vd (kE CO k)
            have lb := xN CO k
            have ho := (P.out.be.cell (p := ⟨gs, k, none⟩) lgs).trans (ON.out k lt)
            have T1 := xR aa k lt
            have T2 := xR ba k lt
            have CBk := CB'.out k lt
            generalize aa.getLsbD k = al at T1 CBk
            generalize ba.getLsbD k = be at T2 CBk
            have CBk := Vd CBk
            have T1 := Vd T1
            have T2 := Vd T2
            go_wp2_with fail
            refine (T1.out _).mono ?_; rintro e' w' ⟨rfl, rfl⟩
            go_wp2_with fail
            refine (T2.out _).mono ?_; rintro e' w' ⟨rfl, rfl⟩
            go_upto_region 19 with fail
            go_cut [77] from 66 to 77 (fun s77 wx => s77 = .bool (CO.getLsbD k) /\ wx = wr)
            case first =>
              have CBk := CBk.out
              by_cases k2 : k < 2
              all_goals
                first | (have kk : decide (k < 2) = true := decide_eq_true k2) | (have kk : decide (k < 2) = false := decide_eq_false k2)
                rw [kk] at CBk
                clear kk
                first | (have k2' : (k : Int) < 2 := by omega) | (have k2' : ¬ (k : Int) < 2 := by omega)
                cases lam
                all_goals cases al
                all_goals cases be
                all_goals
                  simp only [Bool.not_true, Bool.not_false, Bool.and_false, Bool.and_true, Bool.or_false, Bool.or_true, Bool.and_self, Bool.or_self] at CBk
                  have CBk := Vd CBk
                  go_wp2_with fail
                  go_meet
                  exact ⟨by rw [CBk.out], rfl⟩
            case rest =>
              obtain ⟨rfl, ew⟩ := hcut
              subst ew
              have NX := NX.out
              cases e : CO.getLsbD k
              all_goals
                rw [e] at NX
                simp only [Bool.false_eq_true, if_false, if_true] at NX
                have NX := Vd NX
                clear e
              · go_wp2_with fail
                go_roundw
                case rel => (repeat apply Exists.intro); exact ⟨⟨k + 1, by omega, by go_num, Vd (by rw [NX.out]; exact P.out)⟩, rfl⟩
                case measure => simp [intOf]; omega
              · go_wp2_with (at_builtin; refine jN P.out (.tmp 78) (.tmp 83) (onN k) (by rw [List.length_append]; omega) rfl rfl rfl rfl ?_; intro v' w' P4)
                go_roundw
                case rel => (repeat apply Exists.intro); exact ⟨⟨k + 1, by omega, by go_num, Vd (by rw [NX.out, <- List.append_assoc]; exact P4.out)⟩, rfl⟩
                case measure => simp [intOf]; omega
          · have ek : k = 8 := by omega
            subst ek
            rw [xO] at P
            obtain ⟨R3, hR3⟩ : ∃ R3, R3 = R2 ++ setL CO := ⟨_, rfl⟩
            rw [<- hR3] at P TW
            have R3L : R3.length <= 17 := by rw [hR3, List.length_append]; have := xN CO 8; rw [xO] at this; omega
            have PR3 := P
            clear hR3 P PR2
            obtain ⟨⟨c0, c1, c2, f0, f1, f2⟩, ⟨d0, d1, d2, i0, i1, i2⟩⟩ := (show C3 wr w.heap.size (.int .i32 af) (.int .i32 ab) (.int .u8 (bI aa)) /\ C3 wr (w.heap.size + 1) (.int .i32 bf) (.int .i32 bb) (.int .u8 (bI ba)) from ⟨K0.out.1.keep PR3.out.be l0, K0.out.2.keep PR3.out.be l1⟩)
            go_upto_if 89 with fail
            go_cut [5, 15] from 89 to 95 (fun s5 s15 wx => Hid (Pair w2 wx s5 (.slice none 0 0) (R3 ++ if af = bf then [] else CF) []))
            case first =>
              by_cases z : af = bf
              · have g : (bf != af) = false := by rw [z]; simp
                have E : Hid ((if af = bf then [] else CF) = []) := Vd (if_pos z)
                clear z
                go_wp2_with fail
                go_meet
                rw [E.out, List.append_nil]
                exact PR3
              · have g : (bf != af) = true := by rw [bne_iff_ne]; exact Ne.symm z
                have E : Hid ((if af = bf then [] else CF) = CF) := Vd (if_neg z)
                clear z
                go_wp2_with fail
                refine (K1.out _).mono ?_; rintro e' w3 ⟨g3, rfl, S3, _, hb3⟩
                have P3 := Vd (PR3.out.call hb3)
                have S3 := Vd S3
                have lf := LF.out
                clear hb3
                go_wp2_with (at_builtin; refine kL P3.out (.tmp 93) (.tmp 94) CF g3 (by omega) rfl rfl rfl rfl S3.out ?_; intro v' w' P4)
                go_meet
                rw [E.out]
                exact P4
            case rest =>
              obtain ⟨R4, hR4⟩ : ∃ R4, R4 = R3 ++ (if af = bf then [] else CF) := ⟨_, rfl⟩
              rw [<- hR4] at hcut TW
              have P3 := hcut
              have R4L : R4.length <= 22 := by
                rw [hR4, List.length_append]
                have : (if af = bf then [] else CF).length <= 5 := by split; simp; exact LF.out
                omega
              clear c0 c1 c2 f0 f1 f2 d0 d1 d2 i0 i1 i2
              obtain ⟨⟨c0, c1, c2, f0, f1, f2⟩, ⟨d0, d1, d2, i0, i1, i2⟩⟩ := (show C3 wc w.heap.size (.int .i32 af) (.int .i32 ab) (.int .u8 (bI aa)) /\ C3 wc (w.heap.size + 1) (.int .i32 bf) (.int .i32 bb) (.int .u8 (bI ba)) from ⟨K0.out.1.keep P3.out.be l0, K0.out.2.keep P3.out.be l1⟩)
              clear hR4 PR3
              by_cases z : ab = bb
              · have g : (bb != ab) = false := by rw [z]; simp
                have E : Hid (ONE = R4) := Vd (by rw [TW.out, if_pos z, List.append_nil])
                clear z
                go_wp2_with fail
                go_ret
                exact ⟨_, rfl, by rw [E.out]; exact jf P3.out.o1 HW.out.size, HW.out.trans (P3.out.be.mono HW.out.size)⟩
              · have g : (bb != ab) = true := by rw [bne_iff_ne]; exact Ne.symm z
                have E : Hid (ONE = R4 ++ CB) := Vd (by rw [TW.out, if_neg z])
                clear z
                go_wp2_with fail
                refine (K2.out _).mono ?_; rintro e' w3 ⟨g3, rfl, S3, _, hb3⟩
                have P4 := Vd (P3.out.call hb3)
                have S3 := Vd S3
                have lf := LB.out
                clear hb3
                go_wp2_with (at_builtin; refine kL P4.out (.tmp 104) (.tmp 105) CB g3 (by omega) rfl rfl rfl rfl S3.out ?_; intro v' w' P5)
                go_ret
                exact ⟨_, rfl, by rw [E.out]; exact jf P5.out.o1 HW.out.size, HW.out.trans (P5.out.be.mono HW.out.size)⟩
end
section
open Go Go.RowKit Go.Sort
theorem one_len (a b : Sty) : (oneL a b).length <= 18 := by
 have e : oneL a b = preL a.at_ b.at_ ++ (if a.fg = b.fg then [] else colL b.fg 30) ++ (if a.bg = b.bg then [] else colL b.bg 40) := by unfold oneL preL; simp [List.append_assoc]
 have c1 : (if a.fg = b.fg then [] else colL b.fg 30).length <= 5 := by split; simp; exact qG _ _
 have c2 : (if a.bg = b.bg then [] else colL b.bg 40).length <= 5 := by split; simp; exact qG _ _
 have := Zx a.at_ b.at_
 rw [e, List.length_append, List.length_append]
 omega
theorem two_len' (b : Sty) : (twoL b).length <= 19 := by
 have c1 : (if b.fg = 0 then [] else colL b.fg 30).length <= 5 := by split; simp; exact qG _ _
 have c2 : (if b.bg = 0 then [] else colL b.bg 40).length <= 5 := by split; simp; exact qG _ _
 have s := (xD b.at_).2.2
 unfold twoL
 rw [List.length_append, List.length_append, List.length_append, List.length_singleton]
 omega
set_option maxHeartbeats 8000000 in
set_option maxRecDepth 100000 in
theorem XC (f t : Sty) (hff : zh f.fg) (hfb : zh f.bg) (htf : zh t.fg) (htb : zh t.bg) (w : World) : Calls Tryz.prog 86 #[styV f.fg f.bg f.at_, styV t.fg t.bg t.at_] w (xP w (zR f t)) := by
 have C1 := Vd (kw f.fg f.bg f.at_ hff hfb)
 have C2 := Vd (kw t.fg t.bg t.at_ htf htb)
 have D1 := Vd (fun W => XA (zf f) (zf t) (qA _) (qA _) W)
 have D2 := Vd (fun W => ref_anew (zf t) (qA _) (qA _) W)
 have R1 := Vd (vd (zf f) (zf t) (qA _) (qA _))
 have R2 := Vd (ve (zf t) (qA _) (qA _))
 have L1 := Vd (one_len (zf f) (zf t))
 have L2 := Vd (two_len' (zf t))
 have PB := Vd (JW f t)
 clear hff hfb htf htb
 have e1 : zf f = ⟨plC f.fg, plC f.bg, f.at_⟩ := rfl
 have e2 : zf t = ⟨plC t.fg, plC t.bg, t.at_⟩ := rfl
 rw [e1, e2] at PB D1 R1 L1
 rw [e2] at D2 R2 L2
 clear e1 e2
 obtain ⟨ff, fb, fa⟩ := f
 obtain ⟨tf, tb, ta⟩ := t
 simp only at C1 C2 D1 D2 R1 R2 L1 L2 PB ⊢
 generalize zR ⟨ff, fb, fa⟩ ⟨tf, tb, ta⟩ = L at *
 generalize plC ff = pf at *
 generalize plC fb = pb at *
 generalize plC tf = qf at *
 generalize plC tb = qb at *
 generalize oneL ⟨pf, pb, fa⟩ ⟨qf, qb, ta⟩ = ONE at *
 generalize twoL ⟨qf, qb, ta⟩ = TWO at *
 go_enter Tryz.func86, Tryz.ntmps86
 go_wp2_with fail
 refine (C1.out _).mono ?_; rintro e w1 ⟨rfl, hb1⟩
 have q1 : C3 w1 (w.heap.size + 1) (.int .i32 tf) (.int .i32 tb) (.int .u8 (bI ta)) := C3.keep (by constructor <;> simp [go_sem]) hb1 (by simp)
 have hB1 : Below w.heap.size w w1 := zl (by go_grown) (by simp; omega) hb1
 have l1 := q1.lt
 obtain ⟨c0, c1, c2, f0, f1, f2⟩ := q1
 clear hb1
 go_wp2_with fail
 refine (C2.out _).mono ?_; rintro e' w2 ⟨rfl, hb2⟩
 have k1 : C3 w2 w1.heap.size (.int .i32 pf) (.int .i32 pb) (.int .u8 (bI fa)) := C3.keep (by constructor <;> simp [go_sem]) hb2 (by simp)
 have hB2 : Below w.heap.size w w2 := zl (hB1.alloc (by omega) _) (by simp; omega) hb2
 have l2 := k1.lt
 have K1 := Vd (k1.alloc (.cells #[.int .i32 qf, .int .i32 qb, .int .u8 (bI ta)] 56))
 have K2 : Hid (C3 (w2.alloc (.cells #[.int .i32 qf, .int .i32 qb, .int .u8 (bI ta)] 56)) w2.heap.size (.int .i32 qf) (.int .i32 qb) (.int .u8 (bI ta))) := Vd (by constructor <;> simp [go_sem])
 have HB := Vd (hB2.alloc (by omega) (.cells #[.int .i32 qf, .int .i32 qb, .int .u8 (bI ta)] 56))
 obtain ⟨b1, hb1⟩ : ∃ b, b = w1.heap.size := ⟨_, rfl⟩
 obtain ⟨b2, hb2'⟩ : ∃ b, b = w2.heap.size := ⟨_, rfl⟩
 rw [<- hb1] at K1
 rw [<- hb2'] at K2
 obtain ⟨β, hβ⟩ : ∃ β : Bool, β = decide ((⟨pf, pb, fa⟩ : Sty) = ⟨qf, qb, ta⟩) := ⟨_, rfl⟩
 have HE := Vd hβ
 clear hβ hb2 hB1 hB2 c0 c1 c2 f0 f1 f2 k1
 go_upto_region 3 with fail
 rw [<- hb1, <- hb2']
 obtain ⟨W, hW⟩ : ∃ W, W = w2.alloc (.cells #[.int .i32 qf, .int .i32 qb, .int .u8 (bI ta)] 56) := ⟨_, rfl⟩
 rw [<- hW] at K1 K2 HB ⊢
 clear hW hb1 hb2' l1 l2
 obtain ⟨c0, c1, c2, f0, f1, f2⟩ := K1.out
 obtain ⟨d0, d1, d2, i0, i1, i2⟩ := K2.out
 go_cut [17] from 15 to 17 (fun s17 wx => s17 = .bool β /\ wx = W)
 case first =>
  by_cases e1 : pf = qf
  all_goals by_cases e2 : pb = qb
  all_goals by_cases e3 : fa = ta
  all_goals
   first
    | (have hb : β = true := by rw [HE.out, e1, e2, e3]; exact decide_eq_true rfl)
    | (have hb : β = false := by rw [HE.out]; apply decide_eq_false; intro h; injection h with h1 h2 h3; first | exact e1 h1 | exact e2 h2 | exact e3 h3)
   have hb := Vd hb
   first | subst e3 | (have n3 : ¬ bI fa = bI ta := fun h => e3 (jV h))
   first | subst e1 | skip
   first | subst e2 | skip
   go_wp2_with fail
   go_meet
   exact ⟨by rw [hb.out], rfl⟩
 case rest =>
  obtain ⟨rfl, rfl⟩ := hcut
  cases β with
  | true =>
   have L0 : Hid (L = []) := Vd (by rw [PB.out, if_pos (of_decide_eq_true HE.out.symm)])
   go_wp2_with fail
   go_ret
   exact ⟨_, rfl, by rw [L0.out]; exact World.ownsRow_nil _ _ _ _, HB.out⟩
  | false =>
   have PB' : Hid (L = if qI TWO < qI ONE then TWO else ONE) := Vd (by rw [PB.out, if_neg (of_decide_eq_false HE.out.symm)])
   clear PB HE
   go_wp2_with fail
   refine (D1.out _).mono ?_; rintro e' w3 ⟨v1, rfl, o1, hb3⟩
   obtain ⟨A1, n1, rfl⟩ := qT o1
   obtain ⟨g0, g1, g2, j0, j1, j2⟩ := K2.out.keep hb3 K2.out.lt
   have HB3 := Vd (zl HB.out HB.out.size hb3)
   have O1 := Vd o1
   clear c0 c1 c2 f0 f1 f2 d0 d1 d2 i0 i1 i2 o1
   go_wp2_with fail
   refine (D2.out _).mono ?_; rintro e' w4 ⟨v2, rfl, o2, hb4⟩
   obtain ⟨A2, n2, rfl⟩ := qT o2
   have HB4 := Vd (zl HB3.out HB3.out.size hb4)
   have O1' := Vd (qg O1.out hb4)
   have O2 := Vd (jf o2 (show w.heap.size <= w3.heap.size from HB3.out.size))
   have O1'' := Vd (jf O1'.out (show w.heap.size <= wc.heap.size from HB.out.size))
   have B1 := Vd (Qx A1 n1 ONE R1.out (by have := L1.out; omega) w4 (Sees.of_own O1'.out))
   have B2 := Vd (Qx A2 n2 TWO R2.out (by have := L2.out; omega) w4 (Sees.of_own O2.out))
   clear hb3 hb4 o2 g0 g1 g2 j0 j1 j2
   go_wp2_with fail
   refine B1.out.mono ?_; rintro e' w5 ⟨rfl, rfl⟩
   go_wp2_with fail
   refine B2.out.mono ?_; rintro e' w5 ⟨rfl, rfl⟩
   by_cases c : qI TWO < qI ONE
   ·have E : Hid (L = TWO) := Vd (by rw [PB'.out, if_pos c])
    go_wp2_with fail
    go_ret
    exact ⟨_, rfl, by rw [E.out]; exact O2.out, HB4.out⟩
   ·have E : Hid (L = ONE) := Vd (by rw [PB'.out, if_neg c])
    go_wp2_with fail
    go_ret
    exact ⟨_, rfl, by rw [E.out]; exact O1''.out, HB4.out⟩
end
section
structure RwT where
 lo : Nat
 hi : Nat
 n : Nat
 lo2 : Nat
 hi2 : Nat
 off : Nat
def qC : List RwT := [⟨0, 127, 1, 0, 0, 0⟩, ⟨194, 223, 2, 128, 191, 192⟩, ⟨224, 224, 3, 160, 191, 224⟩, ⟨225, 236, 3, 128, 191, 224⟩, ⟨238, 239, 3, 128, 191, 224⟩, ⟨237, 237, 3, 128, 159, 224⟩, ⟨240, 240, 4, 144, 191, 240⟩, ⟨241, 243, 4, 128, 191, 240⟩, ⟨244, 244, 4, 128, 143, 240⟩]
def loR (x : RwT) (k : Nat) : Nat := if k = 1 then x.lo2 else 128
def hiR (x : RwT) (k : Nat) : Nat := if k = 1 then x.hi2 else 191
def zD (t : ByteArray) (x : RwT) : Nat -> Nat -> Nat
 | 0, k => k
 | f + 1, k => if k < x.n /\ k < t.size then (if byt t k < loR x k \/ hiR x k < byt t k then k else zD t x f (k + 1)) else k
def zW (t : ByteArray) (x : RwT) : Nat := if t.size = 0 \/ byt t 0 < x.lo \/ x.hi < byt t 0 then 0 else zD t x 4 1
def valF (t : ByteArray) : Nat -> Nat -> Int -> Int
 | 0, _, r => r
 | f + 1, j, r => valF t f (j + 1) (r * 64 + (byt t j : Int) - 128)
def qM (t : ByteArray) : List RwT -> Int × Nat
 | [] => (65533, 1)
 | x :: l => if zW t x = 0 then qM t l else if zW t x < x.n then (65533, zW t x) else (valF t (zW t x - 1) 1 ((byt t 0 : Int) - x.off), zW t x)
theorem vE (t : ByteArray) (x : RwT) : ∀ f k, k <= zD t x f k
 | 0, k => Vf
 | f + 1, k => by
  unfold zD
  split
  ·split
   ·exact Vf
   ·exact Nat.le_trans (Nat.le_succ _) (vE t x f (k + 1))
  ·exact Vf
theorem QA (t : ByteArray) (x : RwT) : ∀ f k, k <= t.size -> k <= x.n -> zD t x f k <= t.size /\ zD t x f k <= x.n
 | 0, k, h, h2 => ⟨h, h2⟩
 | f + 1, k, h, h2 => by
  unfold zD
  split
  ·rename_i c
   split
   ·exact ⟨h, h2⟩
   ·exact QA t x f (k + 1) (by omega) (by omega)
  ·exact ⟨h, h2⟩
theorem QB (t : ByteArray) (x : RwT) (h2 : 128 <= x.lo2 /\ x.hi2 <= 191) : ∀ (f i r F : Nat), i + f = x.n -> 1 <= i -> i <= t.size -> f <= F ->
  (if zD t x F i < x.n then ((65533 : Int), zD t x F i) else (valF t (zD t x F i - i) i (r : Int), zD t x F i)) = ((((goN t x.n f (loR x i) (hiR x i) r i).1 : Nat) : Int), (goN t x.n f (loR x i) (hiR x i) r i).2)
 | 0, i, r, F, h, h1, hs, hF => by
  have k : zD t x F i = i := by
   cases F with
   | zero => rfl
   | succ F => unfold zD; rw [if_neg (by omega)]
  rw [k, if_neg (by omega), Nat.sub_self]
  unfold goN valF
  simp only [Prod.mk.injEq, true_and]
  omega
 | f + 1, i, r, F, h, h1, hs, hF => by
  obtain ⟨G, rfl⟩ : ∃ G, F = G + 1 := ⟨F - 1, by omega⟩
  by_cases e : i = t.size
  ·have k : zD t x (G + 1) i = i := by unfold zD; rw [if_neg (by omega)]
   rw [xA _ _ _ _ _ _ _ e, k, if_pos (by omega)]
   rfl
  ·by_cases b : byt t i < loR x i \/ hiR x i < byt t i
   ·have k : zD t x (G + 1) i = i := by unfold zD; rw [if_pos (by omega), if_pos b]
    rw [xB _ _ _ _ _ _ _ e b, k, if_pos (by omega)]
    rfl
   ·have k : zD t x (G + 1) i = zD t x G (i + 1) := by
     conv => lhs; unfold zD
     rw [if_pos (by omega), if_neg b]
    have ge := vE t x G (i + 1)
    have ih := QB t x h2 f (i + 1) (r * 64 + byt t i % 64) G (by omega) (by omega) (by omega) (by omega)
    have l1 : loR x (i + 1) = 128 := by unfold loR; rw [if_neg (by omega)]
    have l2 : hiR x (i + 1) = 191 := by unfold hiR; rw [if_neg (by omega)]
    have bb : 128 <= byt t i /\ byt t i <= 191 := by
     unfold loR hiR at b
     split at b <;> omega
    rw [l1, l2] at ih
    rw [xC _ _ _ _ _ _ _ e b, <- ih, k]
    have v : valF t (zD t x G (i + 1) - i) i (r : Int) = valF t (zD t x G (i + 1) - (i + 1)) (i + 1) (((r * 64 + byt t i % 64 : Nat)) : Int) := by
     rw [show zD t x G (i + 1) - i = (zD t x G (i + 1) - (i + 1)) + 1 by omega]
     conv => lhs; unfold valF
     congr 1
     omega
    rw [v]
theorem fits_no {t : ByteArray} {x : RwT} (h : byt t 0 < x.lo \/ x.hi < byt t 0) : zW t x = 0 := by unfold zW; rw [if_pos (Or.inr h)]
theorem QC {t : ByteArray} {x : RwT} (hs : 0 < t.size) (h : ¬ (byt t 0 < x.lo \/ x.hi < byt t 0)) : zW t x = zD t x 4 1 /\ 1 <= zW t x := by
 have e : zW t x = zD t x 4 1 := by
  unfold zW
  rw [if_neg]
  rintro (z | z)
  ·omega
  ·exact h z
 exact ⟨e, by rw [e]; exact vE t x 4 1⟩
theorem jq {t : ByteArray} {x : RwT} {l : List RwT} (h : byt t 0 < x.lo \/ x.hi < byt t 0) : qM t (x :: l) = qM t l := by rw [qM, if_pos (fits_no h)]
theorem jR {t : ByteArray} {x : RwT} {l : List RwT} (hs : 0 < t.size) (h : ¬ (byt t 0 < x.lo \/ x.hi < byt t 0)) (h2 : 128 <= x.lo2 /\ x.hi2 <= 191) (hn : 1 <= x.n /\ x.n <= 5) (ho : x.off <= byt t 0) :
  qM t (x :: l) = ((((goN t x.n (x.n - 1) x.lo2 x.hi2 (byt t 0 - x.off) 1).1 : Nat) : Int), (goN t x.n (x.n - 1) x.lo2 x.hi2 (byt t 0 - x.off) 1).2) := by
 obtain ⟨e, p⟩ := QC hs h
 have g := QB t x h2 (x.n - 1) 1 (byt t 0 - x.off) 4 (by omega) Vf hs (by omega)
 rw [show loR x 1 = x.lo2 from if_pos rfl, show hiR x 1 = x.hi2 from if_pos rfl] at g
 rw [qM, if_neg (by omega), e, <- g]
 congr 3
 omega
theorem scan_dec (t : ByteArray) (hs : 0 < t.size) : qM t qC = ((((decB t).1 : Nat) : Int), (decB t).2) := by
 have b8 := jh t 0
 unfold qC decB zr
 by_cases c1 : byt t 0 < 128
 ·rw [if_pos c1, if_neg (by decide), if_pos rfl, qM]
  have e : zW t ⟨0, 127, 1, 0, 0, 0⟩ = 1 := by
   rw [(QC hs (by show ¬ (byt t 0 < 0 \/ 127 < byt t 0); omega)).1]
   unfold zD
   rw [if_neg (by show ¬ (1 < 1 /\ _); omega)]
  rw [e, if_neg (by decide), if_neg (by decide)]
  show ((byt t 0 : Int) - (0 : Nat), 1) = _
  simp
 rw [if_neg c1, jq (by show byt t 0 < 0 \/ 127 < byt t 0; omega)]
 by_cases c2 : byt t 0 < 194
 ·rw [if_pos c2, if_pos rfl]
  iterate 8 rw [jq (by dsimp only; omega)]
  rfl
 rw [if_neg c2]
 by_cases c3 : byt t 0 < 224
 ·rw [if_pos c3, if_neg (by decide), if_neg (by decide), jR hs (by dsimp only; omega) (by decide) (by decide) (by dsimp only; omega)]
  have e : byt t 0 - 192 = byt t 0 % 2 ^ (7 - 2) := by omega
  simp only [e]
 rw [if_neg c3, jq (by dsimp only; omega)]
 by_cases c4 : byt t 0 = 224
 ·rw [if_pos c4, if_neg (by decide), if_neg (by decide), jR hs (by dsimp only; omega) (by decide) (by decide) (by dsimp only; omega)]
  have e : byt t 0 - 224 = byt t 0 % 2 ^ (7 - 3) := by omega
  simp only [e]
 rw [if_neg c4, jq (by dsimp only; omega)]
 by_cases c5 : byt t 0 = 237
 ·rw [if_pos c5, if_neg (by decide), if_neg (by decide)]
  iterate 2 rw [jq (by dsimp only; omega)]
  rw [jR hs (by dsimp only; omega) (by decide) (by decide) (by dsimp only; omega)]
  have e : byt t 0 - 224 = byt t 0 % 2 ^ (7 - 3) := by omega
  simp only [e]
 rw [if_neg c5]
 by_cases c6 : byt t 0 < 240
 ·rw [if_pos c6, if_neg (by decide), if_neg (by decide)]
  have e : byt t 0 - 224 = byt t 0 % 2 ^ (7 - 3) := by omega
  by_cases d : byt t 0 <= 236
  ·rw [jR hs (by dsimp only; omega) (by decide) (by decide) (by dsimp only; omega)]
   simp only [e]
  ·rw [jq (by dsimp only; omega), jR hs (by dsimp only; omega) (by decide) (by decide) (by dsimp only; omega)]
   simp only [e]
 rw [if_neg c6]
 iterate 3 rw [jq (by dsimp only; omega)]
 by_cases c7 : byt t 0 = 240
 ·rw [if_pos c7, if_neg (by decide), if_neg (by decide), jR hs (by dsimp only; omega) (by decide) (by decide) (by dsimp only; omega)]
  have e : byt t 0 - 240 = byt t 0 % 2 ^ (7 - 4) := by omega
  simp only [e]
 rw [if_neg c7, jq (by dsimp only; omega)]
 by_cases c8 : byt t 0 < 244
 ·rw [if_pos c8, if_neg (by decide), if_neg (by decide), jR hs (by dsimp only; omega) (by decide) (by decide) (by dsimp only; omega)]
  have e : byt t 0 - 240 = byt t 0 % 2 ^ (7 - 4) := by omega
  simp only [e]
 rw [if_neg c8, jq (by dsimp only; omega)]
 by_cases c9 : byt t 0 = 244
 ·rw [if_pos c9, if_neg (by decide), if_neg (by decide), jR hs (by dsimp only; omega) (by decide) (by decide) (by dsimp only; omega)]
  have e : byt t 0 - 240 = byt t 0 % 2 ^ (7 - 4) := by omega
  simp only [e]
 rw [if_neg c9, if_pos rfl, jq (by dsimp only; omega)]
 rfl
end
section
open Go Go.RowKit Go.Sort
section
def rwV (x : RwT) : List Value := [.int .i64 (x.lo : Int), .int .i64 (x.hi : Int), .int .i64 (x.n : Int), .int .i64 (x.lo2 : Int), .int .i64 (x.hi2 : Int), .int .i64 (x.off : Int)]
def stC (p : Int × Int × Int) : List Value := [.int .i32 p.1, .int .i32 p.2.1, .int .i8 p.2.2]
set_option maxHeartbeats 8000000 in
set_option maxRecDepth 100000 in
theorem ref_Rows (w : World) : Calls Tryz.prog 138 #[] w fun e w' => e = .returned (.slice (some ⟨w.heap.size, 0, none⟩) 9 9) /\ w' = w.alloc (.cells (qC.flatMap rwV).toArray 182) := by
 go_enter Tryz.func138, Tryz.ntmps138
 go_wp2_with fail
 go_ret
 exact ⟨rfl, rfl⟩
set_option maxHeartbeats 8000000 in
set_option maxRecDepth 100000 in
theorem ref_low (w : World) : Calls Tryz.prog 146 #[] w fun e w' => e = .returned (.slice (some ⟨w.heap.size, 0, none⟩) 28 28) /\ w' = w.alloc (.cells (lowK.flatMap stC).toArray 195) := by
 go_enter Tryz.func146, Tryz.ntmps146
 go_wp2_with fail
 go_ret
 exact ⟨rfl, rfl⟩
set_option maxHeartbeats 8000000 in
set_option maxRecDepth 100000 in
theorem XF (w : World) : Calls Tryz.prog 147 #[] w fun e w' => e = .returned (.slice (some ⟨w.heap.size, 0, none⟩) 33 33) /\ w' = w.alloc (.cells (midK.flatMap stC).toArray 195) := by
 go_enter Tryz.func147, Tryz.ntmps147
 go_wp2_with fail
 go_ret
 exact ⟨rfl, rfl⟩
set_option maxHeartbeats 8000000 in
set_option maxRecDepth 100000 in
theorem ref_high (w : World) : Calls Tryz.prog 148 #[] w fun e w' => e = .returned (.slice (some ⟨w.heap.size, 0, none⟩) 23 23) /\ w' = w.alloc (.cells (j9.flatMap stC).toArray 195) := by
 go_enter Tryz.func148, Tryz.ntmps148
 go_wp2_with fail
 go_ret
 exact ⟨rfl, rfl⟩
end
end
section
open Go Go.RowKit Go.Sort
section
structure Bq (w : World) (b : Nat) (vs : List Value) : Prop where
 c : ∀ i v, vs[i]? = some v -> w.cell? ⟨b, i, none⟩ = some v
theorem Bq.new (w : World) (vs : List Value) (T : TypeId) : Bq (w.alloc (.cells vs.toArray T)) w.heap.size vs := ⟨fun i v h => (qw w vs T i v h).1⟩
theorem Bq.keep {w w' : World} {B b : Nat} {vs : List Value} (h : Bq w b vs) (hb : Below B w w') (hB : b < B) : Bq w' b vs := ⟨fun i v e => (hb.cell (p := ⟨b, i, none⟩) hB).trans (h.c i v e)⟩
theorem Bq.draw {w : World} {b : Nat} {vs : List Value} (h : Bq w b vs) (n : Nat) : Bq (w.drewN n) b vs := ⟨h.c⟩
theorem j5 {B : Nat} {w : World} (q : Nat) : ∀ W, Below B w W -> Below B w (W.drewN q) := by
 induction q with
 | zero => exact fun W h => h
 | succ q ih => exact fun W h => (ih W h).drew
def SeesR (w : World) (g : Nat) (L : List (Int × Int × Int)) : Prop := ∀ j, (hj : j < L.length) -> w.cell? ⟨g, j * 3, none⟩ = some (.int .i32 (L[j]).1) /\ w.cell? ⟨g, j * 3 + 1, none⟩ = some (.int .i32 (L[j]).2.1) /\ w.cell? ⟨g, j * 3 + 2, none⟩ = some (.int .i8 (L[j]).2.2)
theorem stC_at : ∀ (L : List (Int × Int × Int)) (j : Nat) (hj : j < L.length), (L.flatMap stC)[j * 3]? = some (.int .i32 (L[j]).1) /\ (L.flatMap stC)[j * 3 + 1]? = some (.int .i32 (L[j]).2.1) /\ (L.flatMap stC)[j * 3 + 2]? = some (.int .i8 (L[j]).2.2)
 | [], j, h => by cases h
 | p :: l, 0, _ => ⟨rfl, rfl, rfl⟩
 | p :: l, j + 1, h => by
  have ih := stC_at l j (by simpa using h)
  have e : (p :: l).flatMap stC = .int .i32 p.1 :: .int .i32 p.2.1 :: .int .i8 p.2.2 :: l.flatMap stC := rfl
  rw [e, show (j + 1) * 3 = j * 3 + 1 + 1 + 1 by omega]
  simpa using ih
theorem SeesR.new (w : World) (L : List (Int × Int × Int)) (T : TypeId) : SeesR (w.alloc (.cells (L.flatMap stC).toArray T)) w.heap.size L := fun j hj => by
 have h := stC_at L j hj
 exact ⟨(qw w (L.flatMap stC) T _ _ h.1).1, (qw w (L.flatMap stC) T _ _ h.2.1).1, (qw w (L.flatMap stC) T _ _ h.2.2).1⟩
def tabK (r : Int) : List (Int × Int × Int) := if 10175 < r then j9 else if 8960 <= r then midK else lowK
theorem tabK_len (r : Int) : (tabK r).length <= 33 := by
 unfold tabK
 split
 ·decide
 ·split <;> decide
theorem XG {L : List (Int × Int × Int)} {r : Int} {k : Nat} (hk : k < L.length) : qV (L.drop k) r = if (L[k]).1 <= r /\ r <= (L[k]).2.1 then (L[k]).2.2 else qV (L.drop (k + 1)) r := by
 rw [List.drop_eq_getElem_cons hk]
 obtain ⟨a, e, c⟩ := L[k]
 rfl
set_option maxHeartbeats 16000000 in
set_option maxRecDepth 100000 in
theorem xu (r : Int) (w : World) : Calls Tryz.prog 140 #[.int .i32 r] w fun e w' => e = .returned (.int .i8 (za r)) /\ Below w.heap.size w w' := by
 have KI : Hid (za r = if r < 0 \/ 1114111 < r then 0 else if 32 <= r /\ r < 127 then 9 else qV (tabK r) r) := Vd rfl
 generalize za r = kd at *
 by_cases h1 : r < 0
 ·have R : Hid (kd = 0) := Vd (by rw [KI.out, if_pos (Or.inl h1)])
  go_enter Tryz.func140, Tryz.ntmps140
  go_wp2_with fail
  go_ret
  exact ⟨by rw [R.out]; rfl, Below.refl _ _⟩
 by_cases h2 : 1114111 < r
 ·have R : Hid (kd = 0) := Vd (by rw [KI.out, if_pos (Or.inr h2)])
  go_enter Tryz.func140, Tryz.ntmps140
  go_wp2_with fail
  go_ret
  exact ⟨by rw [R.out]; rfl, Below.refl _ _⟩
 by_cases h3 : 32 <= r /\ r < 127
 ·have R : Hid (kd = 9) := Vd (by rw [KI.out, if_neg (by omega), if_pos h3])
  obtain ⟨h4, h5⟩ := h3
  go_enter Tryz.func140, Tryz.ntmps140
  go_wp2_with fail
  go_ret
  exact ⟨by rw [R.out]; rfl, Below.refl _ _⟩
 have R : Hid (kd = qV (tabK r) r) := Vd (by rw [KI.out, if_neg (by omega), if_neg h3])
 have h3 : 32 <= r -> ¬ r < 127 := fun a b => h3 ⟨a, b⟩
 clear KI
 have TL := Vd (tabK_len r)
 obtain ⟨L, hL⟩ : ∃ L, L = tabK r := ⟨_, rfl⟩
 have HL := Vd hL
 rw [<- hL] at R TL
 clear hL
 have LW := Vd (ref_low w)
 go_enter Tryz.func140, Tryz.ntmps140
 go_upto_region 3 with fail
 go_cut [16] from 11 to 16 (fun s16 wx => s16 = .bool false /\ wx = w)
 case first =>
  by_cases h4 : 32 <= r
  ·have h5 := h3 h4
   go_wp2_with fail
   go_meet
   exact ⟨rfl, rfl⟩
  ·go_wp2_with fail
   go_meet
   exact ⟨rfl, rfl⟩
 case rest =>
 obtain ⟨rfl, hwc⟩ := hcut
 rw [hwc]
 clear hwc
 go_wp2_with fail
 refine LW.out.mono ?_; rintro e w1 ⟨rfl, hw⟩
 have b1 : Below w.heap.size w w1 := by rw [hw]; exact (Below.refl _ w).alloc Vf _
 have S1 := SeesR.new w lowK 195
 rw [<- hw] at S1
 have g1 : w.heap.size < w1.heap.size := by rw [hw]; simp
 have HB1 := Vd b1
 have HS1 := Vd S1
 have HG1 := Vd g1
 clear hw LW b1 S1 g1
 go_upto_if 19 with fail
 go_cut [3] from 18 to 20 (fun s3 wx => ∃ (g n : Nat), s3 = .slice (some ⟨g, 0, none⟩) n n /\ Hid (n = (if 8960 <= r then midK else lowK).length) /\ Hid (SeesR wx g (if 8960 <= r then midK else lowK)) /\ Hid (g < wx.heap.size) /\ Hid (Below w.heap.size w wx))
 case first =>
  by_cases c1 : 8960 <= r
  ·have MW := Vd (XF w1)
   go_wp2_with fail
   refine MW.out.mono ?_; rintro e w2 ⟨rfl, hw⟩
   have b2 : Below w1.heap.size w1 w2 := by rw [hw]; exact (Below.refl _ w1).alloc Vf _
   have S2 := SeesR.new w1 midK 195
   rw [<- hw] at S2
   have B2 := Vd (HB1.out.trans (b2.mono HB1.out.size))
   have G2 : Hid (w1.heap.size < w2.heap.size) := Vd (by rw [hw]; simp)
   have S2 := Vd S2
   clear hw MW b2
   go_wp2_with fail
   go_meet
   exact ⟨_, _, rfl, Vd (by rw [if_pos c1]; rfl), by rw [if_pos c1]; exact S2, G2, B2⟩
  ·have EM := Vd (show (if 8960 <= r then midK else lowK) = lowK from if_neg c1)
   go_wp2_with fail
   go_meet
   exact ⟨_, _, rfl, Vd (by rw [EM.out]; rfl), by rw [EM.out]; exact HS1, HG1, HB1⟩
 case rest =>
 obtain ⟨g1, n1, rfl, hn1, hS1, hG1, hB1⟩ := hcut
 obtain ⟨w2, hW⟩ : ∃ w2, w2 = wc := ⟨_, rfl⟩
 rw [<- hW] at hS1 hG1 hB1 ⊢
 clear hW HB1 HS1 HG1
 go_upto_if 22 with fail
 go_cut [3] from 21 to 23 (fun s3 wx => ∃ (g n : Nat), s3 = .slice (some ⟨g, 0, none⟩) n n /\ n = L.length /\ Hid (SeesR wx g L) /\ Hid (Below w.heap.size w wx))
 case first =>
  by_cases c2 : 10175 < r
  ·have HW := Vd (ref_high w2)
   have EL : L = j9 := by rw [HL.out]; unfold tabK; rw [if_pos c2]
   go_wp2_with fail
   refine HW.out.mono ?_; rintro e w3 ⟨rfl, hw⟩
   have b3 : Below w2.heap.size w2 w3 := by rw [hw]; exact (Below.refl _ w2).alloc Vf _
   have S3 := SeesR.new w2 j9 195
   rw [<- hw] at S3
   have B3 := Vd (hB1.out.trans (b3.mono hB1.out.size))
   have S3 := Vd S3
   clear hw HW b3
   go_wp2_with fail
   go_meet
   exact ⟨_, _, rfl, by rw [EL]; rfl, by rw [EL]; exact S3, B3⟩
  ·have EL : L = if 8960 <= r then midK else lowK := by rw [HL.out]; unfold tabK; rw [if_neg c2]
   go_wp2_with fail
   go_meet
   exact ⟨_, _, rfl, by rw [EL]; exact hn1.out, by rw [EL]; exact hS1, hB1⟩
 case rest =>
  obtain ⟨g, n, rfl, hn, hS, hB⟩ := hcut
  have n33 : n <= 33 := by rw [hn]; exact TL.out
  have HN := Vd hn
  obtain ⟨W1, hW⟩ : ∃ W1, W1 = wc := ⟨_, rfl⟩
  rw [<- hW] at hS hB ⊢
  clear hW hn
  go_wp2_with fail
  go_loopw [4] (fun s4 wr => ∃ k : Nat, k <= n /\ s4 = .int .i64 (k : Int) /\ Hid (qV (L.drop k) r = kd) /\ wr = W1) (fun s4 _ => n - (intOf s4).toNat)
  case atStart => exact ⟨0, Nat.zero_le _, rfl, Vd (by rw [List.drop_zero]; exact R.out.symm), rfl⟩
  case round =>
   obtain ⟨k, hk, rfl, hI, hw⟩ := hrel
   rw [hw]
   clear hw
   by_cases lt : k < n
   ·have kl : k < L.length := by rw [<- HN.out]; exact lt
    have ST := hI.out
    rw [XG kl] at ST
    have ST := Vd ST
    obtain ⟨z0, z1, z2⟩ := hS.out k kl
    generalize (L[k]).1 = a at *
    generalize (L[k]).2.1 = b at *
    generalize (L[k]).2.2 = d at *
    have q0 : (0 : Int) <= (k : Int) := by omega
    have q5 : (k : Int) < (n : Int) := by omega
    have tn : (k : Int).toNat = k := by omega
    have wk := Ve ((k : Int) + 1) (by omega)
    clear hI
    by_cases c1 : a <= r
    ·by_cases c2 : r <= b
     ·have R2 : Hid (kd = d) := Vd (by rw [<- ST.out, if_pos ⟨c1, c2⟩])
      go_wp2_with fail
      go_ret
      exact ⟨by rw [R2.out]; rfl, hB.out⟩
     ·have NX := Vd (show qV (L.drop (k + 1)) r = kd by rw [<- ST.out, if_neg (fun z => c2 z.2)])
      go_wp2_with fail
      go_roundw
      case rel => exact ⟨k + 1, by omega, by go_num, NX, by first | rfl | trivial⟩
      case measure => simp [intOf]; omega
    ·have NX := Vd (show qV (L.drop (k + 1)) r = kd by rw [<- ST.out, if_neg (fun z => c1 z.1)])
     go_wp2_with fail
     go_roundw
     case rel => exact ⟨k + 1, by omega, by go_num, NX, by first | rfl | trivial⟩
     case measure => simp [intOf]; omega
   ·have e : k = n := by omega
    subst e
    have q5 : ¬ (k : Int) < (k : Int) := by omega
    have R2 : Hid (kd = 9) := Vd (by rw [<- hI.out, HN.out, List.drop_length]; rfl)
    go_wp2_with fail
    go_ret
    exact ⟨by rw [R2.out]; rfl, hB.out⟩
end
end
section
open Go Go.RowKit Go.Sort
section
theorem vF {k : Int} (h0 : 0 <= k) (h1 : k <= 9) : k = 0 \/ k = 1 \/ k = 2 \/ k = 3 \/ k = 4 \/ k = 5 \/ k = 6 \/ k = 7 \/ k = 8 \/ k = 9 := by omega
set_option maxHeartbeats 8000000 in
set_option maxRecDepth 100000 in
theorem XH (k : Int) (h0 : 0 <= k) (h1 : k <= 9) (w : World) : Calls Tryz.prog 149 #[.int .i8 k] w fun e w' => e = .returned (.bool (picK k)) /\ w' = w := by
 rcases vF h0 h1 with rfl | rfl | rfl | rfl | rfl | rfl | rfl | rfl | rfl | rfl
 all_goals
  go_enter Tryz.func149, Tryz.ntmps149
  go_wp2_with fail
  go_ret
  exact ⟨rfl, rfl⟩
set_option maxHeartbeats 16000000 in
set_option maxRecDepth 100000 in
theorem XI (base : Int) (h0 : 0 <= base) (h1 : base <= 9) (ahead next : Int) (w : World) : Calls Tryz.prog 141 #[.int .i8 base, .int .i32 ahead, .int .i32 next] w fun e w' => e = .returned (.bool (qF base ahead next)) /\ Below w.heap.size w w' := by
 have KN := Vd (xu next w)
 have KA := Vd (fun W => xu ahead W)
 have PB := Vd (fun W => XH base h0 h1 W)
 have rk := j4 next
 have TK : Hid (qF base ahead next = if za next = 2 \/ za next = 4 \/ za next = 3 then true else if za next = 5 then picK base else if za next = 7 \/ za next = 8 then picK base && decide (za ahead = 3) else false) := Vd rfl
 have ra := j4 ahead
 generalize qF base ahead next = T at *
 generalize picK base = pb at *
 generalize za next = kd at *
 generalize za ahead = ka at *
 have three : ∀ (e : Prop), e -> e := fun e h => h
 rcases vF rk.1 rk.2 with rfl | rfl | rfl | rfl | rfl | rfl | rfl | rfl | rfl | rfl
 case inl | inr.inl | inr.inr.inr.inr.inr.inr.inl | inr.inr.inr.inr.inr.inr.inr.inr.inr =>
  have R := Vd (show T = false by rw [TK.out]; rfl)
  go_enter Tryz.func141, Tryz.ntmps141
  go_wp2_with fail
  refine KN.out.mono ?_; rintro e w1 ⟨rfl, hb1⟩
  have HB := Vd hb1
  clear hb1
  go_wp2_with fail
  refine (PB.out _).mono ?_; rintro e w2 ⟨rfl, hw⟩
  rw [hw]
  clear hw
  go_wp2_with fail
  go_ret
  exact ⟨by rw [R.out]; rfl, HB.out⟩
 case inr.inr.inl | inr.inr.inr.inl | inr.inr.inr.inr.inl =>
  have R := Vd (show T = true by rw [TK.out]; rfl)
  go_enter Tryz.func141, Tryz.ntmps141
  go_wp2_with fail
  refine KN.out.mono ?_; rintro e w1 ⟨rfl, hb1⟩
  have HB := Vd hb1
  clear hb1
  go_wp2_with fail
  refine (PB.out _).mono ?_; rintro e w2 ⟨rfl, hw⟩
  rw [hw]
  clear hw
  go_wp2_with fail
  go_ret
  exact ⟨by rw [R.out]; rfl, HB.out⟩
 case inr.inr.inr.inr.inr.inl =>
  have R := Vd (show T = pb by rw [TK.out]; rfl)
  go_enter Tryz.func141, Tryz.ntmps141
  go_wp2_with fail
  refine KN.out.mono ?_; rintro e w1 ⟨rfl, hb1⟩
  have HB := Vd hb1
  clear hb1
  go_wp2_with fail
  refine (PB.out _).mono ?_; rintro e w2 ⟨rfl, hw⟩
  rw [hw]
  clear hw
  go_wp2_with fail
  go_ret
  exact ⟨by rw [R.out]; rfl, HB.out⟩
 all_goals
  have R := Vd (show T = (pb && decide (ka = 3)) by rw [TK.out]; rfl)
  cases pb with
  | false =>
   go_enter Tryz.func141, Tryz.ntmps141
   go_wp2_with fail
   refine KN.out.mono ?_; rintro e w1 ⟨rfl, hb1⟩
   have HB := Vd hb1
   clear hb1
   go_wp2_with fail
   refine (PB.out _).mono ?_; rintro e w2 ⟨rfl, hw⟩
   rw [hw]
   clear hw
   have KA := Vd (KA.out w1)
   go_wp2_with fail
   refine KA.out.mono ?_; rintro e w3 ⟨rfl, hb3⟩
   have HB3 := Vd (HB.out.trans (hb3.mono HB.out.size))
   clear hb3
   go_wp2_with fail
   go_ret
   exact ⟨by rw [R.out]; rfl, HB3.out⟩
  | true =>
   by_cases k3 : ka = 3
   ·have R2 := Vd (show T = true by rw [R.out, decide_eq_true k3]; rfl)
    have e3 : (ka == 3) = true := by rw [k3]; rfl
    go_enter Tryz.func141, Tryz.ntmps141
    go_wp2_with fail
    refine KN.out.mono ?_; rintro e w1 ⟨rfl, hb1⟩
    have HB := Vd hb1
    clear hb1
    go_wp2_with fail
    refine (PB.out _).mono ?_; rintro e w2 ⟨rfl, hw⟩
    rw [hw]
    clear hw
    have KA := Vd (KA.out w1)
    go_wp2_with fail
    refine KA.out.mono ?_; rintro e w3 ⟨rfl, hb3⟩
    have HB3 := Vd (HB.out.trans (hb3.mono HB.out.size))
    clear hb3
    go_wp2_with fail
    go_ret
    exact ⟨by rw [R2.out]; rfl, HB3.out⟩
   ·have R2 := Vd (show T = false by rw [R.out, decide_eq_false k3]; rfl)
    have e3 : (ka == 3) = false := by rw [beq_eq_false_iff_ne]; exact k3
    go_enter Tryz.func141, Tryz.ntmps141
    go_wp2_with fail
    refine KN.out.mono ?_; rintro e w1 ⟨rfl, hb1⟩
    have HB := Vd hb1
    clear hb1
    go_wp2_with fail
    refine (PB.out _).mono ?_; rintro e w2 ⟨rfl, hw⟩
    rw [hw]
    clear hw
    have KA := Vd (KA.out w1)
    go_wp2_with fail
    refine KA.out.mono ?_; rintro e w3 ⟨rfl, hb3⟩
    have HB3 := Vd (HB.out.trans (hb3.mono HB.out.size))
    clear hb3
    go_wp2_with fail
    go_ret
    exact ⟨by rw [R2.out]; rfl, HB3.out⟩
end
end
section
open Go Go.RowKit Go.Sort
section
set_option maxHeartbeats 16000000 in
set_option maxRecDepth 100000 in
theorem ref_wide (A : Option Addr) (c : Nat) (l : List Int) (hne : l ≠ []) (hl : l.length <= 35184372000000) (w : World) (S : Sees w w.heap.size A (rns l)) :
  Calls Tryz.prog 129 #[.slice A l.length c] w fun e w' => e = .returned (.int .i64 (qW l)) /\ Below w.heap.size w w' := by
 have pos : 0 < l.length := List.length_pos_iff.2 hne
 obtain ⟨ad, rfl, hab, c0⟩ := jd S 0 pos
 have ad0 : ad.add 0 = ad := by unfold Addr.add; rw [if_pos rfl]
 rw [ad0] at c0
 have K0 := Vd (xu (l.getD 0 0) w)
 have K1 := Vd (fun W => xu (l.getD 1 0) W)
 have C1 := Vd (fun (h : 1 < l.length) (W : World) (hb : Below w.heap.size w W) => show W.cell? ⟨ad.block, ad.off + 1, none⟩ = some (.int .i32 (l.getD 1 0)) from by
  rw [qi ad 1 (by decide)]
  obtain ⟨a2, e, _, h2⟩ := jd S 1 h
  cases e
  exact (hb.cell (p := ad.add 1) (by rw [zj]; exact hab)).trans h2)
 have rk := j4 (l.getD 0 0)
 have WC : Hid (qW l = if za (l.getD 0 0) = 1 \/ za (l.getD 0 0) = 2 \/ za (l.getD 0 0) = 4 \/ za (l.getD 0 0) = 3 then 0 else if za (l.getD 0 0) = 7 \/ za (l.getD 0 0) = 5 then 2 else if za (l.getD 0 0) = 8 then (if 1 < l.length /\ l.getD 1 0 = 65039 then 2 else 1) else if za (l.getD 0 0) = 6 then (if 1 < l.length /\ za (l.getD 1 0) = 6 then 2 else 1) else 1) := Vd rfl
 generalize qW l = V at *
 generalize za (l.getD 0 0) = kd at *
 generalize za (l.getD 1 0) = k1 at *
 generalize l.getD 0 0 = r0 at *
 generalize l.getD 1 0 = r1 at *
 generalize l.length = n at *
 have pos' : (0 : Int) < (n : Int) := by omega
 clear S hne
 rcases vF rk.1 rk.2 with rfl | rfl | rfl | rfl | rfl | rfl | rfl | rfl | rfl | rfl
 case inl | inr.inr.inr.inr.inr.inr.inr.inr.inr =>
  have R := Vd (show V = 1 by rw [WC.out]; rfl)
  go_enter Tryz.func129, Tryz.ntmps129
  go_wp2_with fail
  refine K0.out.mono ?_; rintro e w1 ⟨rfl, hb1⟩
  have HB := Vd hb1
  clear hb1
  go_wp2_with fail
  go_ret
  exact ⟨by rw [R.out]; rfl, HB.out⟩
 case inr.inl | inr.inr.inl | inr.inr.inr.inl | inr.inr.inr.inr.inl =>
  have R := Vd (show V = 0 by rw [WC.out]; rfl)
  go_enter Tryz.func129, Tryz.ntmps129
  go_wp2_with fail
  refine K0.out.mono ?_; rintro e w1 ⟨rfl, hb1⟩
  have HB := Vd hb1
  clear hb1
  go_wp2_with fail
  go_ret
  exact ⟨by rw [R.out]; rfl, HB.out⟩
 case inr.inr.inr.inr.inr.inl | inr.inr.inr.inr.inr.inr.inr.inl =>
  have R := Vd (show V = 2 by rw [WC.out]; rfl)
  go_enter Tryz.func129, Tryz.ntmps129
  go_wp2_with fail
  refine K0.out.mono ?_; rintro e w1 ⟨rfl, hb1⟩
  have HB := Vd hb1
  clear hb1
  go_wp2_with fail
  go_ret
  exact ⟨by rw [R.out]; rfl, HB.out⟩
 case inr.inr.inr.inr.inr.inr.inl =>
  have R := Vd (show V = if 1 < n /\ k1 = 6 then 2 else 1 by rw [WC.out]; rfl)
  by_cases n1 : 1 < n
  ·have n1' : (1 : Int) < (n : Int) := by omega
   have C1 := Vd (C1.out n1)
   by_cases e6 : k1 = 6
   ·have R := Vd (show V = 2 by rw [R.out, if_pos ⟨n1, e6⟩])
    have e6' : (k1 == 6) = true := by rw [e6]; rfl
    clear e6
    go_enter Tryz.func129, Tryz.ntmps129
    go_wp2_with fail
    refine K0.out.mono ?_; rintro e w1 ⟨rfl, hb1⟩
    have HB := Vd hb1
    have cx := C1.out w1 hb1
    have K1 := Vd (K1.out w1)
    clear hb1
    go_wp2_with fail
    refine K1.out.mono ?_; rintro e w2 ⟨rfl, hb2⟩
    have HB2 := Vd (HB.out.trans (hb2.mono HB.out.size))
    clear hb2
    go_wp2_with fail
    go_ret
    exact ⟨by rw [R.out]; rfl, HB2.out⟩
   ·have R := Vd (show V = 1 by rw [R.out, if_neg (fun z => e6 z.2)])
    have e6' : (k1 == 6) = false := by rw [beq_eq_false_iff_ne]; exact e6
    clear e6
    go_enter Tryz.func129, Tryz.ntmps129
    go_wp2_with fail
    refine K0.out.mono ?_; rintro e w1 ⟨rfl, hb1⟩
    have HB := Vd hb1
    have cx := C1.out w1 hb1
    have K1 := Vd (K1.out w1)
    clear hb1
    go_wp2_with fail
    refine K1.out.mono ?_; rintro e w2 ⟨rfl, hb2⟩
    have HB2 := Vd (HB.out.trans (hb2.mono HB.out.size))
    clear hb2
    go_wp2_with fail
    go_ret
    exact ⟨by rw [R.out]; rfl, HB2.out⟩
  ·have n1' : ¬ (1 : Int) < (n : Int) := by omega
   have R := Vd (show V = 1 by rw [R.out, if_neg (fun z => n1 z.1)])
   go_enter Tryz.func129, Tryz.ntmps129
   go_wp2_with fail
   refine K0.out.mono ?_; rintro e w1 ⟨rfl, hb1⟩
   have HB := Vd hb1
   clear hb1
   go_wp2_with fail
   go_ret
   exact ⟨by rw [R.out]; rfl, HB.out⟩
 case inr.inr.inr.inr.inr.inr.inr.inr.inl =>
  have R := Vd (show V = if 1 < n /\ r1 = 65039 then 2 else 1 by rw [WC.out]; rfl)
  by_cases n1 : 1 < n
  ·have n1' : (1 : Int) < (n : Int) := by omega
   have C1 := Vd (C1.out n1)
   by_cases e6 : r1 = 65039
   ·have R := Vd (show V = 2 by rw [R.out, if_pos ⟨n1, e6⟩])
    have e6' : (r1 == 65039) = true := by rw [e6]; rfl
    clear e6
    go_enter Tryz.func129, Tryz.ntmps129
    go_wp2_with fail
    refine K0.out.mono ?_; rintro e w1 ⟨rfl, hb1⟩
    have HB := Vd hb1
    have cx := C1.out w1 hb1
    clear hb1
    go_wp2_with fail
    go_ret
    exact ⟨by rw [R.out]; rfl, HB.out⟩
   ·have R := Vd (show V = 1 by rw [R.out, if_neg (fun z => e6 z.2)])
    have e6' : (r1 == 65039) = false := by rw [beq_eq_false_iff_ne]; exact e6
    clear e6
    go_enter Tryz.func129, Tryz.ntmps129
    go_wp2_with fail
    refine K0.out.mono ?_; rintro e w1 ⟨rfl, hb1⟩
    have HB := Vd hb1
    have cx := C1.out w1 hb1
    clear hb1
    go_wp2_with fail
    go_ret
    exact ⟨by rw [R.out]; rfl, HB.out⟩
  ·have n1' : ¬ (1 : Int) < (n : Int) := by omega
   have R := Vd (show V = 1 by rw [R.out, if_neg (fun z => n1 z.1)])
   go_enter Tryz.func129, Tryz.ntmps129
   go_wp2_with fail
   refine K0.out.mono ?_; rintro e w1 ⟨rfl, hb1⟩
   have HB := Vd hb1
   clear hb1
   go_wp2_with fail
   go_ret
   exact ⟨by rw [R.out]; rfl, HB.out⟩
end
end
end Go.Proofs.YtifoijbpbigaaaaGreatDoor
