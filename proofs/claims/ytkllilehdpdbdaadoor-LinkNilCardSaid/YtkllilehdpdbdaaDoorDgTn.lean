/- The sequence from one style to another one, the program's side: turned. -/
import Derived.Test.YtkllilehdpdbdaaDoorDfF
import Derived.Test.YtkllilehdpdbdaaDoorDfM
import Derived.Test.YtkllilehdpdbdaaDoorStyM
import Derived.Test.YtkllilehdpdbdaaDoorShelf
import Derived.Lib.ItoaLen
import Derived.Test.YtkllilehdpdbdaaDoorGen
import Derived.Test.YtkllilehdpdbdaaDoorMem
import Derived.Test.YtkllilehdpdbdaaDoorDfRi
import Derived.Test.YtkllilehdpdbdaaDoorStyQ
namespace Go.Proofs.YtkllilehdpdbdaaDoor
open Go.RowKit Go.Sort
set_option linter.unusedVariables false
set_option linter.unusedSimpArgs false

/-- what the tables hold that a frame's bytes are made by -/
structure EnvD (w : World) : Prop where
  st : EnvS w
  tab : Lib.TabIs Tryd.prog w "internal/strconv.uint64pow10" .u64 Lib.pow10Tab
  pg : 2 < w.heap.size
theorem EnvD.of_below {B : Nat} {w w' : World} (h : EnvD w) (hb : Below B w w') (hB : w.heap.size ≤ B) : EnvD w' where
  st := h.st.of_below hb hB
  tab := var?_below (g := 2) hb (by kernel_rfl) (Nat.lt_of_lt_of_le h.pg hB) h.tab
  pg := Nat.lt_of_lt_of_le h.pg hb.size

theorem d_Itoa (n : Int) (h0 : -1000000000 ≤ n) (h1 : n ≤ 1000000000) (w : World) (E : EnvD w) : Calls Tryd.prog 27 #[.int .i64 n] w fun e w' => e = .returned (.string (itB n)) ∧ Below w.heap.size w w' := by
  refine (Tryd.strconv_Itoa n (by omega) (by omega) w E.tab).mono ?_
  rintro e w' ⟨rfl, k, os, rfl⟩
  exact ⟨rfl, Lib.below_grow _ _ (Nat.le_refl _) _ _⟩
theorem itB_size (n : Int) (h0 : -1000000000 ≤ n) (h1 : n ≤ 1000000000) : (itB n).size ≤ 21 := by
  have := Lib.itoa_length_le n (by omega) (by omega)
  show (Lib.itoa n).toArray.size ≤ 21
  rwa [List.size_toArray]
theorem params_rng (f t : Sty) : ∀ n ∈ paramsL f t, 0 ≤ n ∧ n < 1000 := by
  intro n hn
  unfold paramsL at hn
  split at hn
  · cases hn
  · have a := inSty_pl t.fg
    have b := inSty_pl t.bg
    try simp only at hn
    split at hn
    · exact two_range _ a b n hn
    · exact one_range _ _ a b n hn
theorem semi_snoc (l : List Int) (n : Int) : semiB (l ++ [n]) = (if semiB l = zB then semiB l else semiB l ++ ⟨#[59]⟩) ++ itB n := by
  unfold semiB
  rw [List.foldl_append]
  rfl
theorem semi_len (L : List Int) (h : ∀ n ∈ L, 0 ≤ n ∧ n < 1000) : ∀ k, k ≤ L.length → (semiB (L.take k)).size ≤ 22 * k := by
  intro k
  induction k with
  | zero => intro _; simp [semiB, zB, ByteArray.size]
  | succ k ih =>
    intro hk
    rw [List.take_succ_eq_append_getElem (show k < L.length by omega), semi_snoc]
    have b := h L[k] (List.getElem_mem _)
    have i := itB_size L[k] (by omega) (by omega)
    have ih := ih (by omega)
    rw [ByteArray.size_append]
    split
    · omega
    · rw [ByteArray.size_append]
      have : (⟨#[59]⟩ : ByteArray).size = 1 := rfl
      omega
theorem str_nil (s : ByteArray) : s.toList = [] ↔ s = zB := by
  rw [ByteArray.toList_eq]
  constructor
  · intro h
    apply ByteArray.ext
    rw [← Array.toList_inj, h]
    rfl
  · intro h; rw [h]; rfl
theorem str_emp {s : ByteArray} (h : s = zB) : s.toList.isEmpty = true := by rw [(str_nil s).2 h]; rfl
theorem str_full {s : ByteArray} (h : ¬ s = zB) : s.toList.isEmpty = false := by
  cases e : s.toList.isEmpty with
  | false => rfl
  | true => exact absurd ((str_nil s).1 (List.isEmpty_iff.1 e)) h

set_option maxHeartbeats 16000000 in
set_option maxRecDepth 100000 in
theorem d_turned (f t : Sty) (w : World) (E : EnvD w) : Calls Tryd.prog 31 #[styV f.fg f.bg f.at_, styV t.fg t.bg t.at_] w fun e w' => e = .returned (.string (turnB f t)) ∧ Below w.heap.size w w' := by
  have PR := Lib.hid (params_rng f t)
  have SL := Lib.hid (semi_len (paramsL f t) (params_rng f t))
  have PL := params_len f t
  have TB : Hid (turnB f t = if semiB (paramsL f t) = zB then zB else (⟨#[27, 91]⟩ ++ semiB (paramsL f t)) ++ ⟨#[109]⟩) := Lib.hid rfl
  have PA := Lib.hid (fun W hE => st_Params f t W hE)
  have EH := Lib.hid E
  generalize turnB f t = R at *
  generalize paramsL f t = L at *
  clear E
  go_enter Tryd.func31, Tryd.ntmps31
  go_wp2_with fail
  have E2 := Lib.hid (EH.out.of_below (show Below w.heap.size w ((w.alloc (.cells #[.int .i32 f.fg, .int .i32 f.bg, .int .u8 (bI f.at_)] 49)).alloc (.cells #[.int .i32 t.fg, .int .i32 t.bg, .int .u8 (bI t.at_)] 49)) from ((Below.refl _ _).alloc (Nat.le_refl _) _).alloc (by simp) _) (Nat.le_refl _))
  refine (PA.out _ E2.out.st).mono ?_; rintro e w1 ⟨v, rfl, ho, hb⟩
  obtain ⟨A, c, rfl⟩ := own_slice' ho
  have S1 := Lib.hid (Sees.of_own ho)
  have B1 := Lib.hid (show Below w.heap.size w w1 from below_call (by go_grown) (by simp; omega) hb)
  have E3 := Lib.hid (E2.out.of_below hb (Nat.le_refl _))
  obtain ⟨n, hn⟩ : ∃ n, n = L.length := ⟨_, rfl⟩
  rw [← hn] at PL ⊢
  have HN := Lib.hid hn
  clear ho hb hn E2
  go_wp2_with fail
  go_loopw [5, 12] (fun s i wr => ∃ (k : Nat) (S : ByteArray), k ≤ n ∧ i = .int .i64 k ∧ s = .string S ∧ Hid (S = semiB (L.take k)) ∧ S.size ≤ 22 * k ∧ Hid (Below w1.heap.size w1 wr)) (fun _ i _ => n - (intOf i).toNat)
  case atStart => exact ⟨0, zB, Nat.zero_le _, rfl, rfl, Lib.hid rfl, by decide, Lib.hid (Below.refl _ _)⟩
  case round =>
    obtain ⟨k, S, hk, rfl, rfl, hS, hsz, hb⟩ := hrel
    by_cases lt : k < n
    · have kl : k < L.length := by rw [← HN.out]; exact lt
      obtain ⟨ad, rfl, ab, ac⟩ := S1.out.at (k := k) (by simpa [ints] using kl)
      have ac : w1.cell? (ad.add k) = some (.int .i64 L[k]) := by simpa [ints] using ac
      have ac := (hb.out.cell (p := ad.add k) (by rw [add_blk]; exact ab)).trans ac
      have rg := PR.out L[k] (List.getElem_mem _)
      have NX : Hid (semiB (L.take (k + 1)) = (if S = zB then S else S ++ ⟨#[59]⟩) ++ itB L[k]) := Lib.hid (by
        rw [List.take_succ_eq_append_getElem kl, semi_snoc, ← hS.out])
      have IS := itB_size L[k] (by omega) (by omega)
      have NS : Hid ((semiB (L.take (k + 1))).size ≤ 22 * (k + 1)) := Lib.hid (SL.out (k + 1) (by omega))
      have IT := Lib.hid (fun W hW => d_Itoa L[k] (by omega) (by omega) W hW)
      generalize L[k] = x at *
      by_cases z : S = zB
      · have NX : Hid (semiB (L.take (k + 1)) = S ++ itB x) := Lib.hid (by rw [NX.out, if_pos z])
        have z1 := str_emp z
        have HZ := Lib.hid z
        clear z
        have nov : (9223372036854775807 < S.size + (itB x).size) = False := eq_false (by omega)
        go_wp2_with fail
        refine (IT.out _ (E3.out.of_below hb.out (Nat.le_refl _))).mono ?_; rintro e w2 ⟨rfl, hb2⟩
        have B2 := Lib.hid (below_call hb.out hb.out.size hb2)
        clear hb2 hb
        go_wp2_with fail
        go_roundw
        case rel => exact ⟨k + 1, _, by omega, by go_num, rfl, Lib.hid NX.out.symm, by rw [← NX.out]; exact NS.out, B2⟩
        case measure => simp [intOf]; omega
      · have NX : Hid (semiB (L.take (k + 1)) = (S ++ ⟨#[59]⟩) ++ itB x) := Lib.hid (by rw [NX.out, if_neg z])
        have z1 := str_full z
        have HZ := Lib.hid z
        clear z
        have s1 : (⟨#[59]⟩ : ByteArray).size = 1 := rfl
        have nov : (9223372036854775807 < S.size + (⟨#[59]⟩ : ByteArray).size) = False := eq_false (by omega)
        have nov2 : (9223372036854775807 < (S ++ ⟨#[59]⟩).size + (itB x).size) = False := eq_false (by rw [ByteArray.size_append]; omega)
        clear s1
        go_wp2_with fail
        refine (IT.out _ (E3.out.of_below hb.out (Nat.le_refl _))).mono ?_; rintro e w2 ⟨rfl, hb2⟩
        have B2 := Lib.hid (below_call hb.out hb.out.size hb2)
        clear hb2 hb
        go_wp2_with fail
        go_roundw
        case rel => exact ⟨k + 1, _, by omega, by go_num, rfl, Lib.hid NX.out.symm, by rw [← NX.out]; exact NS.out, B2⟩
        case measure => simp [intOf]; omega
    · have e : k = n := by omega
      subst e
      have e2 : L.take k = L := List.take_of_length_le (by rw [← HN.out]; exact Nat.le_refl _)
      rw [e2] at hS
      have BB := Lib.hid (B1.out.trans (hb.out.mono B1.out.size))
      by_cases z : S = zB
      · have R1 : Hid (R = S) := Lib.hid (by rw [TB.out, ← hS.out, if_pos z]; exact z.symm)
        have z1 := str_emp z
        have HZ := Lib.hid z
        clear z hS hb e2
        go_wp2_with fail
        go_ret
        exact ⟨by rw [R1.out, HZ.out]; rfl, BB.out⟩
      · have R1 : Hid (R = (⟨#[27, 91]⟩ ++ S) ++ ⟨#[109]⟩) := Lib.hid (by rw [TB.out, ← hS.out, if_neg z])
        have z1 := str_full z
        have HZ := Lib.hid z
        clear z hS hb e2
        have s1 : (⟨#[27, 91]⟩ : ByteArray).size = 2 := rfl
        have s2 : (⟨#[109]⟩ : ByteArray).size = 1 := rfl
        have nov : (9223372036854775807 < (⟨#[27, 91]⟩ : ByteArray).size + S.size) = False := eq_false (by omega)
        have nov2 : (9223372036854775807 < (⟨#[27, 91]⟩ ++ S).size + (⟨#[109]⟩ : ByteArray).size) = False := eq_false (by rw [ByteArray.size_append]; omega)
        clear s1 s2
        go_wp2_with fail
        go_ret
        exact ⟨by rw [R1.out]; rfl, BB.out⟩
end Go.Proofs.YtkllilehdpdbdaaDoor

/- The first cells of a block, as a list (plain). -/
namespace Go.Proofs.YtkllilehdpdbdaaDoor
open Go.RowKit Go.Sort
set_option linter.unusedVariables false
set_option linter.unusedSimpArgs false

/-- a block's first cells are these, and may be written -/
structure Blk (w : World) (b : Nat) (vs : List Value) : Prop where
  c : ∀ i v, vs[i]? = some v → w.cell? ⟨b, i, none⟩ = some v
  f : ∀ i v, vs[i]? = some v → w.frozen? ⟨b, i, none⟩ = false
theorem Blk.lt {w : World} {b : Nat} {v : Value} {vs : List Value} (h : Blk w b (v :: vs)) : b < w.heap.size := block_lt_of_cell (h.c 0 v rfl)
theorem Blk.keep {w w' : World} {B b : Nat} {vs : List Value} (h : Blk w b vs) (hb : Below B w w') (hB : b < B) : Blk w' b vs :=
  ⟨fun i v hv => (hb.cell (p := ⟨b, i, none⟩) hB).trans (h.c i v hv), fun i v hv => (hb.frozen (p := ⟨b, i, none⟩) hB).trans (h.f i v hv)⟩
theorem Blk.new (w : World) (vs : List Value) (T : TypeId) : Blk (w.alloc (.cells vs.toArray T)) w.heap.size vs :=
  ⟨fun i v hv => (new_cell w vs T i v hv).1, fun i v hv => (new_cell w vs T i v hv).2⟩
theorem Blk.far {w : World} {b b' o : Nat} {vs : List Value} {y : Value} (h : Blk w b vs) (n : b ≠ b') : Blk (w.setCell ⟨b', o, none⟩ y) b vs :=
  ⟨fun i v hv => by have := h.c i v hv; simp [go_sem, *], fun i v hv => by have := h.f i v hv; simp [go_sem, *]⟩
theorem Blk.set {w : World} {b : Nat} {vs : List Value} (h : Blk w b vs) (i : Nat) (y x : Value) (hi : vs[i]? = some x) : Blk (w.setCell ⟨b, i, none⟩ y) b (vs.set i y) := by
  have ci := h.c i x hi
  have fi := h.f i x hi
  refine ⟨fun j v hv => ?_, fun j v hv => ?_⟩
  · rw [List.getElem?_set] at hv
    by_cases e : i = j
    · subst e
      rw [if_pos rfl] at hv
      split at hv
      · cases hv; simp [go_sem, *]
      · cases hv
    · rw [if_neg e] at hv
      have := h.c j v hv
      have e2 : j ≠ i := fun z => e z.symm
      simp [go_sem, *]
  · rw [List.getElem?_set] at hv
    by_cases e : i = j
    · subst e
      simp [go_sem, *]
    · rw [if_neg e] at hv
      have := h.f j v hv
      simp [go_sem, *]
theorem Blk.draw {w : World} {b : Nat} {vs : List Value} (h : Blk w b vs) (n : Nat) : Blk (w.drewN n) b vs := ⟨h.c, h.f⟩
theorem Blk.alloc {w : World} {b : Nat} {v : Value} {vs : List Value} (h : Blk w b (v :: vs)) (o : Obj) : Blk (w.alloc o) b (v :: vs) := h.keep ((Below.refl w.heap.size w).alloc (Nat.le_refl _) o) h.lt
theorem Blk.regrown {w : World} {b : Nat} {v : Value} {vs : List Value} (h : Blk w b (v :: vs)) (d : Nat) (os : Array Obj) : Blk (grow (redrawn w d) os) b (v :: vs) := h.keep (below_regrown w d os) h.lt
theorem grown_set (w : World) (a : Addr) (u : Value) : w.grownBy (w.setCell a u) (some a.block) :=
  ⟨rfl, rfl, rfl, by simp, fun k _ hk => heap_setCell_other w a k u (fun e => hk (by simp [e]))⟩
end Go.Proofs.YtkllilehdpdbdaaDoor

/- A writer made, and told anew: New, Reset; a screen made poorer: Reduced (the program's side). -/
namespace Go.Proofs.YtkllilehdpdbdaaDoor
open Go.RowKit Go.Sort
set_option linter.unusedVariables false
set_option linter.unusedSimpArgs false

/-- the cells of a writer -/
def wriV (d : Int) (told : Bool) (W H : Int) (A : Option Addr) (n c : Nat) (X Y : Int) (sh : Bool) (t : Tel) (shn : Bool) : List Value :=
  [.int .i64 d, .bool told, .int .i64 W, .int .i64 H, .slice A n c, .int .i64 X, .int .i64 Y, .bool sh, .bool t.place, .int .i64 t.x, .int .i64 t.y, .int .i32 t.st.fg, .int .i32 t.st.bg, .int .u8 (bI t.st.at_), .bool shn, .string t.text]
def tel0 : Tel := ⟨false, 0, 0, plainS, zB, zB⟩
def okD (d : Int) : Bool := decide (0 ≤ d) && decide (d ≤ 3)

set_option maxHeartbeats 4000000 in
theorem d_New_no (d : Int) (h : okD d = false) : Tells 17 #[.int .i64 d] (.tuple #[.pointer none, .int .i64 2]) := by
  intro w
  have h : d < 0 ∨ (0 ≤ d ∧ 3 < d) := by
    unfold okD at h
    simp only [Bool.and_eq_false_iff, decide_eq_false_iff_not] at h
    omega
  rcases h with h | ⟨h, g⟩
  all_goals
    go_enter Tryd.func17, Tryd.ntmps17
    go_wp2_with fail
    go_ret2
    exact ⟨rfl, rfl⟩
set_option maxHeartbeats 4000000 in
theorem d_New (d : Int) (h : okD d = true) (w : World) : Calls Tryd.prog 17 #[.int .i64 d] w fun e w' => e = .returned (.tuple #[.pointer (some ⟨w.heap.size, 0, none⟩), .int .i64 0]) ∧ w' = w.alloc (.cells (wriV d false 0 0 none 0 0 0 0 false tel0 false).toArray 60) := by
  have h : 0 ≤ d ∧ d ≤ 3 := by
    unfold okD at h
    simp only [Bool.and_eq_true, decide_eq_true_eq] at h
    exact h
  obtain ⟨h0, h1⟩ := h
  go_enter Tryd.func17, Tryd.ntmps17
  go_wp2_with fail
  go_ret2
  exact ⟨rfl, rfl⟩

theorem infoL : (Tryd.prog.info? 51).map (fun i => (i.zero, i.size, i.bytes)) = some (some (.agg #[.string ⟨#[]⟩, .int .i8 0, .int .i32 0, .int .i32 0, .int .u8 0]), 5, 32) := by kernel_rfl
theorem set5 (xs : List Value) (p : Nat) (v0 v1 v2 v3 v4 : Value) (h : p + 5 ≤ xs.length) : (((((xs.set p v0).set (p + 1) v1).set (p + 2) v2).set (p + 3) v3).set (p + 4) v4).take (p + 5) = xs.take p ++ [v0, v1, v2, v3, v4] := by
  refine List.ext_getElem (by simp; omega) fun i h1 h2 => ?_
  simp only [List.length_take, List.length_set] at h1
  rw [List.getElem_take]
  simp only [List.getElem_set]
  by_cases c : i < p
  · rw [List.getElem_append_left (by simp; omega), List.getElem_take]
    repeat rw [if_neg (by omega)]
  · rw [List.getElem_append_right (by simp; omega)]
    have l : (xs.take p).length = p := by simp; omega
    have : i = p ∨ i = p + 1 ∨ i = p + 2 ∨ i = p + 3 ∨ i = p + 4 := by omega
    simp only [l]
    rcases this with rfl | rfl | rfl | rfl | rfl
    · simp
    · simp
    · simp
    · simp
    · simp
/-- where a cell lies -/
theorem cel_nth {w : World} {B : Nat} {A : Option Addr} {L : List Cel} (h : Sees w B A (celsV L)) (k : Nat) (hk : k < L.length) : ∃ ad, A = some ad ∧ ad.block < B ∧ w.cell? (ad.add (k * 5)) = some (.string (L[k]).text) ∧ w.cell? ⟨(ad.add (k * 5)).block, (ad.add (k * 5)).off + 1, none⟩ = some (.int .i8 (L[k]).wide) ∧ w.cell? ⟨(ad.add (k * 5)).block, (ad.add (k * 5)).off + 2, none⟩ = some (.int .i32 (L[k]).st.fg) ∧ w.cell? ⟨(ad.add (k * 5)).block, (ad.add (k * 5)).off + 3, none⟩ = some (.int .i32 (L[k]).st.bg) ∧ w.cell? ⟨(ad.add (k * 5)).block, (ad.add (k * 5)).off + 4, none⟩ = some (.int .u8 (bI (L[k]).st.at_)) := by
  obtain ⟨ad, e, hb, _⟩ := h (fun e => by have := celsV_len L; rw [e] at this; simp at this; omega)
  subst e
  have S := h.dropV (k * 5)
  rw [← celsV_drop, List.drop_eq_getElem_cons hk] at S
  obtain ⟨ad', e, h1, h2, h3, h4, h5, h6⟩ := cel_at S
  cases e
  exact ⟨ad, rfl, hb, h2, h3, h4, h5, h6⟩

def zS : List Value := [.int .i64 0, .int .i64 0, .slice none 0 0, .int .i64 0, .int .i64 0, .bool false]
theorem own_callN {w w' : World} {base sz : Nat} {T : TypeId} {v : Value} {n : Nat} {xs : List Value} (h : w.ownsRow base T sz v n xs) (hb : Below w.heap.size w w') : w'.ownsRow base T sz v n xs :=
  h.kept (row := none) ⟨hb.os, hb.tape, hb.output, hb.size, fun k hk _ => hb.block k hk⟩ (by cases v.ownBlock <;> simp)
theorem own_far {w : World} {base sz : Nat} {T : TypeId} {g n c b o : Nat} {xs : List Value} {y : Value} (h : w.ownsRow base T sz (.slice (some ⟨g, 0, none⟩) n c) n xs) (ne : g ≠ b) : (w.setCell ⟨b, o, none⟩ y).ownsRow base T sz (.slice (some ⟨g, 0, none⟩) n c) n xs :=
  h.kept (grown_set w ⟨b, o, none⟩ y) (Or.inr (fun e => ne (Option.some.inj e)))

set_option maxHeartbeats 8000000 in
set_option maxRecDepth 100000 in
theorem d_Reduced_no (s : Scr) (d : Int) (A : Option Addr) (c : Nat) (hcp : s.cells.length ≤ c) (hA : A = none → c = 0) (hl : s.cells.length ≤ 1000000000000) (ho : ∀ x ∈ s.cells, okC x) (h : rightS s = false) (w : World) (S : Sees w w.heap.size A (celsV s.cells)) :
    Calls Tryd.prog 10 #[scrV s A c, .int .i64 d] w fun e w' => e = .returned (.tuple #[.agg zS.toArray, .int .i64 180]) ∧ Below w.heap.size w w' := by
  obtain ⟨Q, hQ⟩ : ∃ Q, Q = (w.alloc (.cells #[.int .i64 s.w, .int .i64 s.h, .slice A s.cells.length c, .int .i64 s.x, .int .i64 s.y, .bool s.shown] 24)).alloc (.cells #[.int .i64 0, .int .i64 0, .slice none 0 0, .int .i64 0, .int .i64 0, .bool false] 24) := ⟨_, rfl⟩
  have BQ : Below w.heap.size w Q := by rw [hQ]; exact ((Below.refl _ w).alloc (Nat.le_refl _) _).alloc (by simp) _
  have RG := Lib.hid (d_Right s A c hcp hA hl ho Q ((S.below BQ (Nat.le_refl _)).more BQ.size))
  rw [h] at RG
  have HB := Lib.hid BQ
  have KQ : Hid (Blk Q (w.heap.size + 1) zS) := Lib.hid (by
    have := Blk.new (w.alloc (.cells #[.int .i64 s.w, .int .i64 s.h, .slice A s.cells.length c, .int .i64 s.x, .int .i64 s.y, .bool s.shown] 24)) zS 24
    rw [hQ]
    have e : (w.alloc (.cells #[.int .i64 s.w, .int .i64 s.h, .slice A s.cells.length c, .int .i64 s.x, .int .i64 s.y, .bool s.shown] 24)).heap.size = w.heap.size + 1 := by simp
    rw [e] at this
    exact this)
  simp only [scrV] at RG ⊢
  clear S ho BQ h
  generalize s.cells.length = n at *
  go_enter Tryd.func10, Tryd.ntmps10
  go_wp2_with fail
  rw [← hQ]
  clear hQ
  refine RG.out.mono ?_; rintro e w1 ⟨rfl, hb1⟩
  have K := KQ.out.keep hb1 KQ.out.lt
  have BB := Lib.hid (HB.out.trans (hb1.mono HB.out.size))
  have k0 := K.c 0 _ rfl
  have k1 := K.c 1 _ rfl
  have k2 := K.c 2 _ rfl
  have k3 := K.c 3 _ rfl
  have k4 := K.c 4 _ rfl
  have k5 := K.c 5 _ rfl
  have f0 := K.f 0 _ rfl
  have f1 := K.f 1 _ rfl
  have f2 := K.f 2 _ rfl
  have f3 := K.f 3 _ rfl
  have f4 := K.f 4 _ rfl
  have f5 := K.f 5 _ rfl
  clear K hb1
  go_wp2_with fail
  refine bodyPost_ret (v := .tuple #[.agg zS.toArray, .int .i64 180]) (by simp [zS, results, Tryd.results10, go_sem, k0, k1, k2, k3, k4, k5]) rfl ⟨rfl, ?_⟩
  repeat (first | with_reducible exact BB.out | refine Below.setCell ?_ (by first | exact Nat.le_refl _ | exact Nat.le_succ _) _)

set_option maxHeartbeats 16000000 in
set_option maxRecDepth 100000 in
theorem d_Reduced (s : Scr) (d : Int) (A : Option Addr) (c : Nat) (hcp : s.cells.length ≤ c) (hA : A = none → c = 0) (hl : s.cells.length ≤ 1000000000000) (ho : ∀ x ∈ s.cells, okC x) (h : rightS s = true) (w : World) (S : Sees w w.heap.size A (celsV s.cells)) :
    Calls Tryd.prog 10 #[scrV s A c, .int .i64 d] w fun e w' => ∃ g, e = .returned (.tuple #[scrV (redS s d) (some ⟨g, 0, none⟩) s.cells.length, .int .i64 0]) ∧ w'.ownsRow w.heap.size 51 5 (.slice (some ⟨g, 0, none⟩) s.cells.length s.cells.length) s.cells.length (celsV (redL s.cells d)) ∧ Below w.heap.size w w' := by
  obtain ⟨L, hL⟩ : ∃ L, L = s.cells := ⟨_, rfl⟩
  obtain ⟨N, hN⟩ : ∃ N, N = s.cells.length := ⟨_, rfl⟩
  have RN : redS s d = ⟨s.w, s.h, redL L d, s.x, s.y, s.shown⟩ := by rw [hL]; rfl
  have RL : (redL L d).length = N := by rw [hN, ← hL]; simp [redL]
  obtain ⟨Q, hQ⟩ : ∃ Q, Q = (w.alloc (.cells #[.int .i64 s.w, .int .i64 s.h, .slice A s.cells.length c, .int .i64 s.x, .int .i64 s.y, .bool s.shown] 24)).alloc (.cells #[.int .i64 0, .int .i64 0, .slice none 0 0, .int .i64 0, .int .i64 0, .bool false] 24) := ⟨_, rfl⟩
  have BQ : Below w.heap.size w Q := by rw [hQ]; exact ((Below.refl _ w).alloc (Nat.le_refl _) _).alloc (by simp) _
  have QS : Q.heap.size = w.heap.size + 2 := by rw [hQ]; simp
  have RG := Lib.hid (d_Right s A c hcp hA hl ho Q ((S.below BQ (Nat.le_refl _)).more BQ.size))
  rw [h] at RG
  obtain ⟨i0, hi0, hz0, hz1, hz2⟩ := info_parts infoL
  have N20 : N ≤ 1048576 := by
    obtain ⟨r1, r2, _⟩ := right_parts h
    have := (sized_parts r1).2.2.2.2
    omega
  have SA : Hid (∀ w', Below w.heap.size w w' → Sees w' w.heap.size A (celsV L)) := Lib.hid (fun w' hb => by rw [hL]; exact S.below hb (Nat.le_refl _))
  have HB := Lib.hid BQ
  have KQ : Hid (Blk Q (w.heap.size + 1) zS) := Lib.hid (by
    have := Blk.new (w.alloc (.cells #[.int .i64 s.w, .int .i64 s.h, .slice A s.cells.length c, .int .i64 s.x, .int .i64 s.y, .bool s.shown] 24)) zS 24
    rw [hQ]
    have e : (w.alloc (.cells #[.int .i64 s.w, .int .i64 s.h, .slice A s.cells.length c, .int .i64 s.x, .int .i64 s.y, .bool s.shown] 24)).heap.size = w.heap.size + 1 := by simp
    rw [e] at this
    exact this)
  have KB : Hid (Blk Q w.heap.size [.int .i64 s.w, .int .i64 s.h, .slice A N c, .int .i64 s.x, .int .i64 s.y, .bool s.shown]) := Lib.hid (by
    rw [hQ, hN]
    exact (Blk.new w [.int .i64 s.w, .int .i64 s.h, .slice A s.cells.length c, .int .i64 s.x, .int .i64 s.y, .bool s.shown] 24).alloc _)
  have HLN : Hid (N = L.length) := Lib.hid (by rw [hN, hL])
  rw [RN]
  simp only [scrV] at RG ⊢
  rw [RL]
  rw [← hN] at RG hcp hl ⊢
  rw [← hN] at hQ
  rw [← hL]
  have QSH := Lib.hid QS
  clear S ho BQ h hL hN RN RL QS
  have hmk1 : i0.bytes * N ≤ 281474976710656 := by rw [hz2]; omega
  have hmk2 : N ≤ maxLen := by unfold maxLen; omega
  go_enter Tryd.func10, Tryd.ntmps10
  go_wp2_with fail
  rw [← hQ]
  clear hQ
  refine RG.out.mono ?_; rintro e w1 ⟨rfl, hb1⟩
  have qs := QSH.out
  have x2 := (hb1.cell (p := ⟨w.heap.size, 2, none⟩) KB.out.lt).trans (KB.out.c 2 _ rfl)
  have lb := hb1.size
  have HB1 := Lib.hid hb1
  clear hb1
  go_wp2_with (at_make; refine wpList_make_full _ rfl _ _ _ rfl (w.heap.size + 2) 51 i0 (.agg #[.string ⟨#[]⟩, .int .i8 0, .int .i32 0, .int .i32 0, .int .u8 0]) 5 Tryd.underlying22 hi0 hz0 hz1 .i64 .i64 N N N rfl rfl rfl rfl hmk1 hmk2 (by omega) ?_; intro w2 hown hg2; have x2 := ((hg2.block w.heap.size (by omega) (by simp)) |> fun e => World.cell?_of_block (a := ⟨w.heap.size, 2, none⟩) e).trans x2)
  have R0 : Hid (∃ xs, w2.ownsRow (w.heap.size + 2) 51 5 (.slice (some ⟨w1.heap.size, 0, none⟩) N N) N xs ∧ xs.take (0 * 5) = celsV (redL (L.take 0) d) ∧ Below (w.heap.size + 2) Q w2) := Lib.hid ⟨_, hown, by simp [redL, celsV], (HB1.out.mono (by omega)).grown hg2 (by omega) (by simp)⟩
  obtain ⟨g, hg⟩ : ∃ g, g = w1.heap.size := ⟨_, rfl⟩
  rw [← hg] at R0 ⊢
  have hgb : w.heap.size + 2 ≤ g := by omega
  clear hown hg2 x2 lb hg
  go_loopw [20] (fun i wr => ∃ k : Nat, k ≤ N ∧ i = .int .i64 k ∧ Hid (∃ xs, wr.ownsRow (w.heap.size + 2) 51 5 (.slice (some ⟨g, 0, none⟩) N N) N xs ∧ xs.take (k * 5) = celsV (redL (L.take k) d) ∧ Below (w.heap.size + 2) Q wr)) (fun i _ => N - (intOf i).toNat)
  case atStart => exact ⟨0, Nat.zero_le _, rfl, R0⟩
  case round =>
    obtain ⟨k, hk, rfl, hr⟩ := hrel
    clear R0
    by_cases lt : k < N
    · have kl : k < L.length := by rw [← HLN.out]; exact lt
      obtain ⟨xs, own, tk, bq⟩ := hr.out
      obtain ⟨ad, rfl, ab, z0, z1, z2, z3, z4⟩ := cel_nth (SA.out wr (HB.out.trans (bq.mono (by omega)))) k kl
      have OW := Lib.hid own
      have TK := Lib.hid tk
      have BQ := Lib.hid bq
      have NL : Hid (redL (L.take (k + 1)) d = redL (L.take k) d ++ [redC d L[k]]) := Lib.hid (by rw [List.take_succ_eq_append_getElem kl]; unfold redL; rw [List.map_append]; rfl)
      have SR := Lib.hid (fun W => st_Reduce (L[k]).st d W)
      generalize L[k] = a at *
      obtain ⟨t, wd, ⟨fg, bg, at_⟩⟩ := a
      simp only at z0 z1 z2 z3 z4 SR
      clear own tk bq hr
      go_wp2_with fail
      refine (SR.out _).mono ?_; rintro e w3 ⟨rfl, hb3⟩
      obtain ⟨rr, hrr⟩ : ∃ rr, rr = reduceS ⟨fg, bg, at_⟩ d := ⟨_, rfl⟩
      rw [← hrr]
      have RC : Hid (celV (redC d ⟨t, wd, ⟨fg, bg, at_⟩⟩) = [.string t, .int .i8 wd, .int .i32 rr.fg, .int .i32 rr.bg, .int .u8 (bI rr.at_)]) := Lib.hid (by rw [hrr]; rfl)
      clear hrr
      have ws : w.heap.size + 2 ≤ wr.heap.size := by have := BQ.out.size; omega
      have K8 : Blk w3 wr.heap.size [.string t, .int .i8 wd, .int .i32 fg, .int .i32 bg, .int .u8 (bI at_)] := (Blk.new wr [.string t, .int .i8 wd, .int .i32 fg, .int .i32 bg, .int .u8 (bI at_)] 51).keep hb3 (by simp)
      have O3 := own_callN (OW.out.alloc (.cells #[.string t, .int .i8 wd, .int .i32 fg, .int .i32 bg, .int .u8 (bI at_)] 51)) hb3
      have B3 := Lib.hid ((BQ.out.alloc ws (.cells #[.string t, .int .i8 wd, .int .i32 fg, .int .i32 bg, .int .u8 (bI at_)] 51)).trans (hb3.mono (by simp; omega)))
      have xl : xs.length = N * 5 := O3.1
      have rc : ∀ j, j < 5 → ∃ v, xs[k * 5 + j]? = some v := fun j hj => ⟨_, List.getElem?_eq_getElem (by omega)⟩
      obtain ⟨v0, hv0⟩ := rc 0 (by decide)
      obtain ⟨v1, hv1⟩ := rc 1 (by decide)
      obtain ⟨v2, hv2⟩ := rc 2 (by decide)
      obtain ⟨v3, hv3⟩ := rc 3 (by decide)
      obtain ⟨v4, hv4⟩ := rc 4 (by decide)
      have y0 : w3.cell? ⟨g, k * 5, none⟩ = some v0 := (O3.cellAt (k * 5) (by omega)).trans hv0
      have y1 : w3.cell? ⟨g, k * 5 + 1, none⟩ = some v1 := (O3.cellAt (k * 5 + 1) (by omega)).trans hv1
      have y2 : w3.cell? ⟨g, k * 5 + 2, none⟩ = some v2 := (O3.cellAt (k * 5 + 2) (by omega)).trans hv2
      have y3 : w3.cell? ⟨g, k * 5 + 3, none⟩ = some v3 := (O3.cellAt (k * 5 + 3) (by omega)).trans hv3
      have y4 : w3.cell? ⟨g, k * 5 + 4, none⟩ = some v4 := (O3.cellAt (k * 5 + 4) (by omega)).trans hv4
      have p0 := O3.frozenAt (k * 5)
      have p1 := O3.frozenAt (k * 5 + 1)
      have p2 := O3.frozenAt (k * 5 + 2)
      have p3 := O3.frozenAt (k * 5 + 3)
      have p4 := O3.frozenAt (k * 5 + 4)
      have ne : g ≠ wr.heap.size := by
        have h1 := (OW.out.cellAt (k * 5) (by omega)).trans hv0
        have := block_lt_of_cell h1
        simp only at this
        omega
      have k0 := K8.c 0 _ rfl
      have k1 := K8.c 1 _ rfl
      have k2 := K8.c 2 _ rfl
      have k3 := K8.c 3 _ rfl
      have k4 := K8.c 4 _ rfl
      have f2 := K8.f 2 _ rfl
      have f3 := K8.f 3 _ rfl
      have f4 := K8.f 4 _ rfl
      have NO : Hid (∃ xs, ((((((((w3.setCell ⟨wr.heap.size, 2, none⟩ (.int .i32 rr.fg)).setCell ⟨wr.heap.size, 3, none⟩ (.int .i32 rr.bg)).setCell ⟨wr.heap.size, 4, none⟩ (.int .u8 (bI rr.at_))).setCell ⟨g, k * 5, none⟩ (.string t)).setCell ⟨g, k * 5 + 1, none⟩ (.int .i8 wd)).setCell ⟨g, k * 5 + 2, none⟩ (.int .i32 rr.fg)).setCell ⟨g, k * 5 + 3, none⟩ (.int .i32 rr.bg)).setCell ⟨g, k * 5 + 4, none⟩ (.int .u8 (bI rr.at_))).ownsRow (w.heap.size + 2) 51 5 (.slice (some ⟨g, 0, none⟩) N N) N xs ∧ xs.take ((k + 1) * 5) = celsV (redL (L.take (k + 1)) d) ∧ Below (w.heap.size + 2) Q ((((((((w3.setCell ⟨wr.heap.size, 2, none⟩ (.int .i32 rr.fg)).setCell ⟨wr.heap.size, 3, none⟩ (.int .i32 rr.bg)).setCell ⟨wr.heap.size, 4, none⟩ (.int .u8 (bI rr.at_))).setCell ⟨g, k * 5, none⟩ (.string t)).setCell ⟨g, k * 5 + 1, none⟩ (.int .i8 wd)).setCell ⟨g, k * 5 + 2, none⟩ (.int .i32 rr.fg)).setCell ⟨g, k * 5 + 3, none⟩ (.int .i32 rr.bg)).setCell ⟨g, k * 5 + 4, none⟩ (.int .u8 (bI rr.at_)))) := Lib.hid (by
        refine ⟨_, (((((((((own_far (own_far (own_far O3 ne) ne) ne).stored (k * 5) (.string t)).1).stored (k * 5 + 1) (.int .i8 wd)).1).stored (k * 5 + 2) (.int .i32 rr.fg)).1).stored (k * 5 + 3) (.int .i32 rr.bg)).1.stored (k * 5 + 4) (.int .u8 (bI rr.at_))).1, ?_, ?_⟩
        · rw [show (k + 1) * 5 = k * 5 + 5 by omega, set5 _ _ _ _ _ _ _ (by omega), TK.out, NL.out, celsV_app, ← RC.out]
          rw [show celsV [redC d ⟨t, wd, ⟨fg, bg, at_⟩⟩] = celV (redC d ⟨t, wd, ⟨fg, bg, at_⟩⟩) by simp [celsV]]
        · exact (((((((B3.out.setCell (p := ⟨wr.heap.size, 2, none⟩) ws _).setCell (p := ⟨wr.heap.size, 3, none⟩) ws _).setCell (p := ⟨wr.heap.size, 4, none⟩) ws _).setCell (p := ⟨g, k * 5, none⟩) hgb _).setCell (p := ⟨g, k * 5 + 1, none⟩) hgb _).setCell (p := ⟨g, k * 5 + 2, none⟩) hgb _).setCell (p := ⟨g, k * 5 + 3, none⟩) hgb _).setCell (p := ⟨g, k * 5 + 4, none⟩) hgb _)
      clear K8 O3 rc hv0 hv1 hv2 hv3 hv4 hb3 xl z0 z1 z2 z3 z4
      go_wp2_with fail
      go_roundw
      case rel => exact ⟨k + 1, by omega, by go_num, NO⟩
      case measure => simp [intOf]; omega
    · have e : k = N := by omega
      subst e
      obtain ⟨xs, own, tk, bq⟩ := hr.out
      have xl : xs.length = k * 5 := own.1
      rw [List.take_of_length_le (by omega), List.take_of_length_le (by rw [← HLN.out]; exact Nat.le_refl _)] at tk
      subst tk
      have KB := KB.out.keep bq (by omega)
      have KR := KQ.out.keep bq (by omega)
      have OW := Lib.hid own
      have BB := Lib.hid (HB.out.trans (bq.mono (by omega)))
      have b0 := KB.c 0 _ rfl
      have b1 := KB.c 1 _ rfl
      have b2 := KB.c 2 _ rfl
      have b3 := KB.c 3 _ rfl
      have b4 := KB.c 4 _ rfl
      have b5 := KB.c 5 _ rfl
      have g2 := KB.f 2 _ rfl
      have k0 := KR.c 0 _ rfl
      have k1 := KR.c 1 _ rfl
      have k2 := KR.c 2 _ rfl
      have k3 := KR.c 3 _ rfl
      have k4 := KR.c 4 _ rfl
      have k5 := KR.c 5 _ rfl
      have f0 := KR.f 0 _ rfl
      have f1 := KR.f 1 _ rfl
      have f2 := KR.f 2 _ rfl
      have f3 := KR.f 3 _ rfl
      have f4 := KR.f 4 _ rfl
      have f5 := KR.f 5 _ rfl
      clear own bq hr KB KR xl
      go_wp2_with fail
      refine bodyPost_ret (v := .tuple #[.agg #[.int .i64 s.w, .int .i64 s.h, .slice (some ⟨g, 0, none⟩) k k, .int .i64 s.x, .int .i64 s.y, .bool s.shown], .int .i64 0]) (by simp [results, Tryd.results10, go_sem, k0, k1, k2, k3, k4, k5]) rfl ⟨g, rfl, ?_, ?_⟩
      · refine own_low (base := w.heap.size + 2) ?_ (by omega)
        repeat (refine own_far ?_ (by omega))
        exact OW.out
      · repeat (first | with_reducible exact BB.out | refine Below.setCell ?_ (by first | exact Nat.le_refl _ | exact Nat.le_succ _) _)
end Go.Proofs.YtkllilehdpdbdaaDoor
