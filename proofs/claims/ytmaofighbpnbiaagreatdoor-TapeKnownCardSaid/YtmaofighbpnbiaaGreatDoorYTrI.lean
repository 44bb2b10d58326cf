/- TapeKnown: the walk. -/
import Derived.Test.YtmaofighbpnbiaaGreatDoorYTrDk
import Derived.Test.YtmaofighbpnbiaaGreatDoorYTqU
import Derived.Lib.ConvBytes
import Derived.Lib.SlBytesConst
namespace Go.Proofs.YtmaofighbpnbiaaGreatDoor
open Go Go.RowKit Go.Sort
set_option linter.unusedVariables false
set_option linter.unusedSimpArgs false
section
def zfa (t : Int) : FA := ⟨t, ⟨none, 0, []⟩⟩
theorem byte_nil (w : World) (B : Nat) : ByteD w B ⟨none, 0, []⟩ := ⟨fun _ => rfl, Nat.le_refl _, Nat.zero_le _, Sees.nil _ _ _, fun b m => by cases m⟩
theorem zfa_ok (w : World) (B : Nat) (t : Int) (ht : -9223372036854775808 ≤ t ∧ t ≤ 9223372036854775807) : FrD w B (zfa t) := ⟨byte_nil w B, ht⟩
theorem frs_nil (w : World) (B : Nat) : FrsD w B none 0 [] := ⟨fun _ => rfl, Nat.le_refl _, Nat.zero_le _, Sees.nil _ _ _, fun x m => by cases m⟩
theorem frs_new {w : World} (L : List FA) (h : ∀ x ∈ L, FrD w w.heap.size x) (hl : L.length ≤ 1000000) : FrsD (w.alloc (.cells (L.flatMap frV).toArray 47)) (w.alloc (.cells (L.flatMap frV).toArray 47)).heap.size (some ⟨w.heap.size, 0, none⟩) L.length L := by
 have bu : Below w.heap.size w (w.alloc (.cells (L.flatMap frV).toArray 47)) := (Below.refl _ w).alloc (Nat.le_refl _) _
 exact ⟨(fun z => by cases z), Nat.le_refl _, by omega, fun ne => ⟨_, rfl, by simp, fun j u hj => cells_new w (L.flatMap frV) 47 j u hj⟩, fun x m => ((h x m).below bu (Nat.le_refl _)).more bu.size⟩
def EncN (V : World) (n : Nat) (D : List Int) (k : Int) (e : Ending) (w' : World) : Prop := ∃ A c, e = .returned (.tuple #[.slice A n c, .int .i64 k]) ∧ ByteD w' w'.heap.size ⟨A, c, D⟩ ∧ Below V.heap.size V w'
theorem t_EncodeL {V V0 : World} {w h : Int} {A : Option Addr} {c : Nat} (L : List FA) (F : FrsD V V.heap.size A c L) (hb : Below V0.heap.size V0 V) (D : List Int) (n : Nat) (k : Int) (hn : D.length = n) (ee : encT w h (frms L) = (D, k)) (rng : Byt D) (ln : n ≤ 1000) :
  Calls Tryz.prog 16 #[.agg #[.int .i64 w, .int .i64 h], .slice A L.length c] V (EncN V0 n D k) := by
 refine (t_Encode w h A c L V.heap.size V F (Nat.le_refl _)).mono ?_
 intro e w' hR
 obtain ⟨A', c', e1, b1, b2⟩ := hR.open ee rng (by omega)
 rw [hn] at e1
 exact ⟨A', c', e1, b1, hb.trans (b2.mono hb.size)⟩
theorem t_EncodeN {V : World} {w h : Int} (L : List FA) (hF : ∀ x ∈ L, FrD V V.heap.size x) (hl : L.length ≤ 1000000) (D : List Int) (n : Nat) (k : Int) (hn : D.length = n) (ee : encT w h (frms L) = (D, k)) (rng : Byt D) (ln : n ≤ 1000) :
  Calls Tryz.prog 16 #[.agg #[.int .i64 w, .int .i64 h], .slice (some ⟨V.heap.size, 0, none⟩) L.length L.length] (V.alloc (.cells (L.flatMap frV).toArray 47)) (EncN V n D k) := t_EncodeL L (frs_new L hF hl) ((Below.refl _ V).alloc (Nat.le_refl _) _) D n k hn ee rng ln
theorem made_at (a b : Value) (n j : Nat) (hj : j < n) : (madeCells #[a, b] n)[j]? = some (if j % 2 = 0 then a else b) := by
 have h2 : j % 2 = 0 ∨ j % 2 = 1 := by omega
 rcases h2 with h | h <;> (simp [madeCells, h]; exact ⟨j, by simp [hj], by simp [h]⟩)
theorem rep_frV (n j : Nat) (u : Value) (h : ((List.replicate n (zfa 0)).flatMap frV)[j]? = some u) : j < n * 2 ∧ u = if j % 2 = 0 then .int .i64 0 else .slice none 0 0 := by
 obtain ⟨i, k, x, e, hk, hx, hu⟩ := flat_at frV 2 (by decide) (fun _ => rfl) _ j u h
 rw [List.getElem?_replicate] at hx
 split at hx
 ·rename_i lt
  cases hx
  refine ⟨by omega, ?_⟩
  have : k = 0 ∨ k = 1 := by omega
  rcases this with rfl | rfl
  ·have : j % 2 = 0 := by omega
   rw [if_pos this]; simpa [frV, zfa] using hu.symm
  ·have : ¬ j % 2 = 0 := by omega
   rw [if_neg this]; simpa [frV, zfa] using hu.symm
 ·cases hx
theorem make_frames (W : World) (n : Nat) (hn : n ≤ 100000) : ∃ V, (Instr.makeSlice 24 (.int .i64 (n : Int)) (.int .i64 (n : Int))).run Tryz.prog W = .ok (.slice (some ⟨W.heap.size, 0, none⟩) n n) V ∧ FrsD V V.heap.size (some ⟨W.heap.size, 0, none⟩) n (List.replicate n (zfa 0)) ∧ Below W.heap.size W V := by
 obtain ⟨i, z, hi, hz, hz1, hz2, hz3⟩ := infoF
 have hz0 : z.cells = #[.int .i64 0, .slice none 0 0] := by
  have h := infoFr
  rw [hi] at h
  simp only [Option.map_some, Option.some.injEq, Prod.mk.injEq, hz] at h
  exact h.1
 have r := run_make (P := Tryz.prog) W 24 47 i z Tryz.underlying24 hi hz .i64 .i64 (n : Int) (n : Int) (by omega) (by omega) (by rw [hz2]; omega) (by omega)
 simp only [Int.toNat_natCast, hz0, hz1] at r
 have bu : Below W.heap.size W (W.alloc (.cells (madeCells #[Value.int .i64 0, Value.slice none 0 0] (n * 2)) 47)) := (Below.refl _ W).alloc (Nat.le_refl _) _
 refine ⟨_, r, ⟨(fun z => by cases z), by rw [List.length_replicate]; exact Nat.le_refl _, by rw [List.length_replicate]; omega, fun ne => ⟨_, rfl, by simp, fun j u hj => ?_⟩, fun x m => ?_⟩, bu⟩
 ·obtain ⟨lt, e⟩ := rep_frV n j u hj
  rw [Addr.add_lit, Nat.zero_add, e]
  have h := World.alloc_heap_new W (.cells (madeCells #[Value.int .i64 0, Value.slice none 0 0] (n * 2)) 47)
  simp only [World.cell?, h]
  exact made_at _ _ (n * 2) j lt
 ·rw [List.eq_of_mem_replicate m]
  exact zfa_ok _ _ 0 (by decide)
set_option maxHeartbeats 4000000 in
set_option maxRecDepth 100000 in
theorem law_read (s : ByteArray) (D : List Int) (code at_ : Int) (W : World) (hs : s.data.toList.map (fun b => ((b.toNat : Nat) : Int)) = D) (hd : decT D = ⟨0, 0, [], code, at_⟩) (sl : s.size ≤ 1000) : Calls Tryz.prog 32 #[.string s, .int .i64 code, .int .i64 at_] W fun e w' => e = .returned (.bool true) ∧ Below W.heap.size W w' := by
 have CV := Lib.run_convert_string_bytes (P := Tryz.prog) W 9 27 5 s Tryz.underlying9 Tryz.underlying27 Tryz.underlying5
 obtain ⟨V, hV⟩ : ∃ V, V = Lib.bytesWorld W 5 s := ⟨_, rfl⟩
 rw [← hV] at CV
 have ln : D.length = s.size := by rw [← hs, List.length_map]; simp
 have vs : V.heap.size = W.heap.size + 1 := by rw [hV]; exact Lib.bytesWorld_size W _ s
 have BV : Below W.heap.size W V := by rw [hV]; exact ⟨rfl, rfl, rfl, by rw [Lib.bytesWorld_size]; omega, fun k hk => Lib.bytesWorld_at_old W _ s k hk⟩
 have rng : Byt D := fun b m => by
  rw [← hs] at m
  obtain ⟨x, _, rfl⟩ := List.mem_map.1 m
  have := x.toNat_lt
  omega
 obtain ⟨cc, hcc⟩ : ∃ cc, cc = grownCap W s.size 0 5 := ⟨_, rfl⟩
 have ge : s.size ≤ cc := by rw [hcc]; exact grownCap_ge W s.size 0 5
 rw [← hcc] at CV
 have BD : ByteD V V.heap.size ⟨some ⟨W.heap.size, 0, none⟩, cc, D⟩ := by
  refine ⟨(fun z => by cases z), by show D.length ≤ cc; omega, by show D.length ≤ _; omega, fun ne => ⟨_, rfl, by show W.heap.size < V.heap.size; omega, fun j u hj => ?_⟩, rng⟩
  have lj := (List.getElem?_eq_some_iff.1 hj).1
  rw [List.length_map] at lj
  have lj : j < s.size := by rw [← ln]; exact lj
  rw [Addr.add_lit, Nat.zero_add, hV, Lib.bytesWorld_cell W _ s j lj]
  have hj : (D.map (Value.int .u8))[j]? = some u := hj
  rw [← hs, List.map_map, List.getElem?_map] at hj
  rw [List.getD_eq_getElem?_getD]
  cases e : s.data.toList[j]? with
  | none => rw [e] at hj; cases hj
  | some x => rw [e] at hj; simpa using hj
 have DC := t_Decode (some ⟨W.heap.size, 0, none⟩) cc D V.heap.size V BD (Nat.le_refl _)
 rw [ln] at DC
 unfold DecR at DC
 rw [hd] at DC
 have DC := Lib.hid DC
 have HBV := Lib.hid BV
 clear hV BD ln vs rng hcc ge hs BV sl
 go_enter Tryz.func32, Tryz.ntmps32
 go_wp2_with fail
 refine DC.out.mono ?_; rintro e V2 ⟨v, rfl, C⟩
 obtain ⟨A, c, L, rfl, eL, _⟩ := C.read (by decide) (by decide)
 have l0 : L.length = 0 := (frms_nil_iff L).1 eL
 rw [l0]
 have HB2 := Lib.hid (HBV.out.trans (C.1.mono HBV.out.size))
 obtain ⟨V3, h3⟩ : ∃ V3, V3 = V2.alloc (.cells #[.int .i64 0, .int .i64 0] 23) := ⟨_, rfl⟩
 have b3 : Below V2.heap.size V2 V3 := by rw [h3]; exact (Below.refl _ _).alloc (Nat.le_refl _) _
 have k3 : Bk V3 V2.heap.size [.int .i64 0, .int .i64 0] 23 := by rw [h3]; exact Bk.new _ _ _
 have t0 := k3.c 0 _ rfl
 have t1 := k3.c 1 _ rfl
 have HB3 := Lib.hid (HB2.out.trans (b3.mono HB2.out.size))
 have H3 := Lib.hid h3
 clear DC C eL l0 h3 b3 k3 CV
 go_upto_region 2 with fail
 rw [← H3.out]
 clear H3
 go_wp2_with fail
 go_ret
 exact ⟨by rfl, HB3.out⟩
theorem rep_frms (n : Nat) : frms (List.replicate n (zfa 0)) = List.replicate n ⟨0, []⟩ := by unfold frms; rw [List.map_replicate]; rfl
theorem rep_long (n : Nat) : longB (List.replicate n ⟨0, []⟩) = false := by
 unfold longB
 rw [List.any_eq_false]
 intro x m
 rw [List.eq_of_mem_replicate m]
 decide
theorem rep_timed : ∀ n : Nat, timedF 0 (List.replicate n ⟨0, []⟩) = true
 | 0 => rfl
 | n + 1 => by
  rw [List.replicate_succ, timedF, rep_timed n]
  rfl
theorem rep_last : ∀ n : Nat, lastAt (List.replicate n ⟨0, []⟩) = 0
 | 0 => rfl
 | 1 => rfl
 | n + 2 => rep_last (n + 1)
theorem rep_many (n : Nat) (h : n ≤ 16384) : manyB (List.replicate n ⟨0, []⟩) = false := by
 unfold manyB
 rw [rep_long, List.length_replicate, decide_eq_false (show ¬ 16384 < n by omega)]
 rfl
theorem known_u : ∃ r, joinT [List.replicate 10000 ⟨0, []⟩, List.replicate 6384 ⟨0, []⟩] = (r, 0) ∧ r.length = 16384 := by
 refine ⟨([] ++ shiftL (lastAt []) (List.replicate 10000 ⟨0, []⟩)) ++ shiftL (lastAt ([] ++ shiftL (lastAt []) (List.replicate 10000 ⟨0, []⟩))) (List.replicate 6384 ⟨0, []⟩), join_of (longT_of (rep_many _ (by decide)) (by rw [List.length_replicate]; decide) (longT_of (rep_many _ (by decide)) (by rw [List.length_replicate, List.length_replicate]; decide) rfl)) ?_, ?_⟩
 ·have e : lastAt ([] ++ shiftL (lastAt []) (List.replicate 10000 ⟨0, []⟩)) = 0 := by rw [List.nil_append, last_nil, shift_zero, rep_last]
  rw [join_go (rep_timed _) (fun _ => by rw [rep_last, last_nil]; decide), join_go (rep_timed _) (fun _ => by rw [rep_last, e]; decide)]
  rfl
 ·rw [List.length_append, List.nil_append, shift_len, shift_len, List.length_replicate, List.length_replicate]
theorem known_v : joinT [List.replicate 10000 ⟨0, []⟩, List.replicate 6384 ⟨0, []⟩, [⟨0, []⟩]] = ([], 3) := by
 unfold joinT
 rw [if_pos]
 unfold longT longT longT
 rw [List.length_replicate, List.length_replicate, decide_eq_true (show 16384 < 0 + 10000 + 6384 + [(⟨0, []⟩ : Frm)].length by decide)]
 simp only [Bool.or_true, Bool.true_or]
theorem known_big : encT 5 1 (frms (List.replicate 16385 (zfa 0))) = ([], 3) := by
 have m : manyB (frms (List.replicate 16385 (zfa 0))) = true := by
  unfold manyB
  rw [frms_len, List.length_replicate, decide_eq_true (show 16384 < 16385 by decide), Bool.or_true]
 have c : checkT (frms (List.replicate 16385 (zfa 0))) = 3 := by unfold checkT; rw [m]; rfl
 unfold encT
 rw [if_neg (by decide), c, if_pos (by decide)]
theorem known_half (h : List Int) (hl : h.length = 524288) : encT 5 1 [⟨0, h⟩, ⟨0, h⟩] = ([], 3) := by
 have c : checkT [⟨0, h⟩, ⟨0, h⟩] = 0 := by
  refine check_of ?_ (by show 2 ≤ 16384; decide) (by rfl)
  unfold longB
  simp [hl]
 have e : encF (headL 5 1 (2 : Nat)) 0 [⟨0, h⟩, ⟨0, h⟩] = none := by
  have h6 : (headL 5 1 (2 : Nat)).length = 6 := by decide +kernel
  rw [encF, if_neg (by show ¬ 1048576 < _ + h.length; omega), encF, if_pos]
  simp only [List.length_append]
  have := numF_pos 9 (0 - 0)
  show 1048576 < _ + (numL (0 - 0)).length + _ + h.length + h.length
  unfold numL
  omega
 unfold encT
 rw [if_neg (by decide), if_neg (by rw [c]; decide)]
 have e2 : encF (headL 5 1 (([⟨0, h⟩, ⟨0, h⟩] : List Frm).length : Nat)) 0 [⟨0, h⟩, ⟨0, h⟩] = none := e
 rw [e2]
def kA : List Int := [70, 77, 1, 5, 1, 0, 155, 0, 64, 3]
def kB : List Int := (encT 5 1 [⟨300, [97]⟩, ⟨300, [98]⟩]).1
theorem kA_enc : encT 5 1 (frms []) = (kA, 0) := by decide +kernel
theorem kB_enc : encT 5 1 [⟨300, [97]⟩, ⟨300, [98]⟩] = (kB, 0) := by decide +kernel
theorem kB_len : kB.length = 17 := by decide +kernel
theorem kB_take : kB.take 13 = [70, 77, 1, 5, 1, 2, 172, 2, 1, 97, 0, 1, 98] := by decide +kernel
theorem nil_byt : Byt [] := fun b m => by cases m
theorem kA_byt : Byt kA := by
 intro b m
 have : ∀ b ∈ kA, decide (0 ≤ b ∧ b < 256) = true := by decide +kernel
 exact of_decide_eq_true (this b m)
theorem kB_byt : Byt kB := by
 intro b m
 have : ∀ b ∈ kB, decide (0 ≤ b ∧ b < 256) = true := by decide +kernel
 exact of_decide_eq_true (this b m)
theorem ByteD.takeB {w : World} {B c : Nat} {A : Option Addr} {D : List Int} (h : ByteD w B ⟨A, c, D⟩) (n : Nat) : ByteD w B ⟨A, c, D.take n⟩ := by
 have cp : D.length ≤ c := h.cap
 have sz : D.length ≤ 140737488355328 := h.sz
 exact ⟨h.nil, by show (D.take n).length ≤ c; rw [List.length_take]; omega, by show (D.take n).length ≤ _; rw [List.length_take]; omega, sees_take h.sees n, fun b m => h.rng b (List.mem_of_mem_take m)⟩
theorem FrsD.takeF {w : World} {B c : Nat} {A : Option Addr} {L : List FA} (h : FrsD w B A c L) (n : Nat) : FrsD w B A c (L.take n) := by
 refine ⟨h.nil, by have := h.cap; rw [List.length_take]; omega, by have := h.sz; rw [List.length_take]; omega, ?_, fun x m => h.ok x (List.mem_of_mem_take m)⟩
 have e : L.flatMap frV = (L.take n).flatMap frV ++ (L.drop n).flatMap frV := by rw [← List.flatMap_append, List.take_append_drop]
 intro ne
 obtain ⟨ad, a1, a2, a3⟩ := h.sees (by rw [e]; intro z; exact ne (List.append_eq_nil_iff.1 z).1)
 exact ⟨ad, a1, a2, fun j u hj => a3 j u (by rw [e, List.getElem?_append_left (List.getElem?_eq_some_iff.1 hj).1]; exact hj)⟩
theorem make_zero (W : World) (n : Nat) (hn : n ≤ 100000000000) : ∃ V, (Instr.makeSlice 27 (.int .i64 (n : Int)) (.int .i64 (n : Int))).run Tryz.prog W = .ok (.slice (some ⟨W.heap.size, 0, none⟩) n n) V ∧ ByteD V V.heap.size ⟨some ⟨W.heap.size, 0, none⟩, n, List.replicate n 0⟩ ∧ Below W.heap.size W V := by
 obtain ⟨i, hi, hz0, hz1, hz2⟩ := info_parts infoB
 have r := run_make (P := Tryz.prog) W 27 5 i (.int .u8 0) Tryz.underlying27 hi hz0 .i64 .i64 (n : Int) (n : Int) (by omega) (by omega) (by rw [hz2]; omega) (by omega)
 rw [hz1] at r
 simp only [Int.toNat_natCast] at r
 have bu : Below W.heap.size W (W.alloc (.cells (madeCells (Value.int .u8 0).cells (n * 1)) 5)) := (Below.refl _ W).alloc (Nat.le_refl _) _
 refine ⟨_, r, ⟨(fun z => by cases z), by show (List.replicate n (0 : Int)).length ≤ n; rw [List.length_replicate]; exact Nat.le_refl _, by show (List.replicate n (0 : Int)).length ≤ _; rw [List.length_replicate]; omega, fun ne => ⟨_, rfl, by simp, fun j u hj => ?_⟩, fun b m => ?_⟩, bu⟩
 ·have hj : ((List.replicate n (0 : Int)).map (Value.int .u8))[j]? = some u := hj
  rw [List.map_replicate, List.getElem?_replicate] at hj
  split at hj
  ·rename_i lt
   rw [Addr.add_lit, Nat.zero_add]
   have h := World.alloc_heap_new W (.cells (madeCells (Value.int .u8 0).cells (n * 1)) 5)
   simp only [World.cell?, h]
   rw [← hj]
   have e := toList_madeCells_one (.int .u8 0) (n * 1)
   have e2 : (madeCells (Value.int .u8 0).cells (n * 1)).toList[j]? = some (.int .u8 0) := by
    show (madeCells #[Value.int .u8 0] (n * 1)).toList[j]? = _
    rw [e, List.getElem?_replicate, if_pos (by omega)]
   rw [Array.getElem?_toList] at e2
   exact e2
  ·cases hj
 ·rw [List.eq_of_mem_replicate m]; decide
theorem ByteD.up {w w' : World} {x : BA} (h : ByteD w w.heap.size x) (hb : Below w.heap.size w w') : ByteD w' w'.heap.size x := (h.below hb (Nat.le_refl _)).more hb.size
theorem FrsD.up {w w' : World} {A : Option Addr} {c : Nat} {L : List FA} (h : FrsD w w.heap.size A c L) (hb : Below w.heap.size w w') : FrsD w' w'.heap.size A c L := (h.below hb (Nat.le_refl _)).more hb.size
theorem FrsD.fr {w : World} {B : Nat} {A : Option Addr} {c : Nat} {L : List FA} (h : FrsD w B A c L) (t : Int) (l : List Frm) (e : frms L = l) (i : Nat) (hi : i < l.length) (ht : (l[i]).at_ = t) : ∃ ad, A = some ad ∧ w.cell? (ad.add (i * 2)) = some (.int .i64 t) := by
 subst e
 have hi2 : i < L.length := by rw [← frms_len]; exact hi
 obtain ⟨ad, e, _, z, _⟩ := h.at i hi2
 rw [frms_get L i hi2] at ht
 have ht : (L[i]).at_ = t := ht
 rw [ht] at z
 exact ⟨ad, e, z⟩
theorem lit_byte {V : World} (b : Int) (hb : 0 ≤ b ∧ b < 256) : (convert 27 27 (.slice (some ⟨V.heap.size, 0, none⟩) 1 1)).run Tryz.prog (V.alloc (.cells #[.int .u8 b] 5)) = .ok (.slice (some ⟨V.heap.size, 0, none⟩) 1 1) (V.alloc (.cells #[.int .u8 b] 5 (1, 2))) ∧ ByteD (V.alloc (.cells #[.int .u8 b] 5 (1, 2))) (V.alloc (.cells #[.int .u8 b] 5 (1, 2))).heap.size ⟨some ⟨V.heap.size, 0, none⟩, 1, [b]⟩ ∧ Below V.heap.size V (V.alloc (.cells #[.int .u8 b] 5 (1, 2))) := by
 have k : (V.alloc (.cells [Value.int .u8 b].toArray 5 (1, 2))).heap[V.heap.size]? = some (.cells [Value.int .u8 b].toArray 5 (1, 2)) := World.alloc_heap_new V _
 refine ⟨Lib.run_convert_bytes_const (P := Tryz.prog) V 27 5 #[.int .u8 b] 1 1 Tryz.underlying27 Tryz.underlying5, ⟨(fun z => by cases z), Nat.le_refl _, by show 1 ≤ _; decide, bts_sees k (by simp), fun x m => ?_⟩, (Below.refl _ V).alloc (Nat.le_refl _) _⟩
 have : x = b := by simpa using m
 rw [this]; exact hb
set_option maxHeartbeats 64000000 in
set_option maxRecDepth 100000 in
theorem tapeKnown_walk (W : World) (E : EnvV W) : Calls Tryz.prog 8 #[] W fun e w' => e = .returned (.bool true) ∧ Below W.heap.size W w' := by
 obtain ⟨V0, hQ⟩ : ∃ Q, Q = W.alloc (.cells #[.int .i64 5, .int .i64 1] 23) := ⟨_, rfl⟩
 have BQ : Below W.heap.size W V0 := by rw [hQ]; exact (Below.refl _ W).alloc (Nat.le_refl _) _
 have KQ : Bk V0 W.heap.size [.int .i64 5, .int .i64 1] 23 := by rw [hQ]; exact Bk.new W _ _
 have HQ := Lib.hid hQ
 have HB := Lib.hid BQ
 have HK := Lib.hid KQ
 have HE := Lib.hid E
 clear hQ BQ KQ E
 go_enter Tryz.func8, Tryz.ntmps8
 go_upto_region 2 with fail
 rw [← HQ.out]
 clear HQ
 have s0 := HK.out.c 0 _ rfl
 have s1 := HK.out.c 1 _ rfl
 have EN : Hid (Calls Tryz.prog 16 #[.agg #[.int .i64 5, .int .i64 1], .slice none 0 0] V0 (EncN V0 10 kA 0)) := Lib.hid (t_EncodeL [] (frs_nil _ _) (Below.refl _ _) kA 10 0 rfl kA_enc kA_byt (by decide))
 go_wp2_with fail
 refine EN.out.mono ?_; rintro e V1 ⟨Aa, ca, rfl, BDa, Bx⟩
 have HA := Lib.hid BDa
 replace HB := Lib.hid (HB.out.trans (Bx.mono HB.out.size))
 replace HK := Lib.hid (HK.out.of_eq (Bx.block _ HK.out.lt))
 clear EN BDa Bx s0 s1
 have EN : Hid (Calls Tryz.prog 16 #[.agg #[.int .i64 (-1), .int .i64 0], .slice none 0 0] V1 (EncN V1 0 [] 5)) := Lib.hid (t_EncodeL [] (frs_nil _ _) (Below.refl _ _) [] 0 5 rfl (by decide +kernel) nil_byt (by decide))
 go_wp2_with fail
 refine EN.out.mono ?_; rintro e V2 ⟨Az, cz, rfl, BDz, Bx⟩
 replace HB := Lib.hid (HB.out.trans (Bx.mono HB.out.size))
 replace HK := Lib.hid (HK.out.of_eq (Bx.block _ HK.out.lt))
 replace HA := Lib.hid (HA.out.up Bx)
 clear EN Bx BDz
 have s0 := HK.out.c 0 _ rfl
 have s1 := HK.out.c 1 _ rfl
 have EN : Hid (Calls Tryz.prog 16 #[.agg #[.int .i64 5, .int .i64 1], .slice (some ⟨V2.heap.size, 0, none⟩) 2 2] (V2.alloc (.cells #[.int .i64 5, .slice none 0 0, .int .i64 4, .slice none 0 0] 47)) (EncN V2 0 [] 301)) := Lib.hid (t_EncodeN [zfa 5, zfa 4] (fun x m => by simp at m; rcases m with rfl | rfl <;> exact zfa_ok _ _ _ (by decide)) (by decide) [] 0 301 rfl (by decide +kernel) nil_byt (by decide))
 go_wp2_with fail
 refine EN.out.mono ?_; rintro e V3 ⟨Az2, cz2, rfl, BDz, Bx⟩
 replace HB := Lib.hid (HB.out.trans (Bx.mono HB.out.size))
 replace HK := Lib.hid (HK.out.of_eq (Bx.block _ HK.out.lt))
 replace HA := Lib.hid (HA.out.up Bx)
 clear EN Bx BDz s0 s1
 have s0 := HK.out.c 0 _ rfl
 have s1 := HK.out.c 1 _ rfl
 have EN : Hid (Calls Tryz.prog 16 #[.agg #[.int .i64 5, .int .i64 1], .slice (some ⟨V3.heap.size, 0, none⟩) 1 1] (V3.alloc (.cells #[.int .i64 (-1), .slice none 0 0] 47)) (EncN V3 0 [] 301)) := Lib.hid (t_EncodeN [zfa (-1)] (fun x m => by simp at m; subst m; exact zfa_ok _ _ _ (by decide)) (by decide) [] 0 301 rfl (by decide +kernel) nil_byt (by decide))
 go_wp2_with fail
 refine EN.out.mono ?_; rintro e V4 ⟨Az3, cz3, rfl, BDz, Bx⟩
 replace HB := Lib.hid (HB.out.trans (Bx.mono HB.out.size))
 replace HK := Lib.hid (HK.out.of_eq (Bx.block _ HK.out.lt))
 replace HA := Lib.hid (HA.out.up Bx)
 clear EN Bx BDz s0 s1
 have s0 := HK.out.c 0 _ rfl
 have s1 := HK.out.c 1 _ rfl
 have EN : Hid (Calls Tryz.prog 16 #[.agg #[.int .i64 5, .int .i64 1], .slice (some ⟨V4.heap.size, 0, none⟩) 1 1] (V4.alloc (.cells #[.int .i64 1099511627777, .slice none 0 0] 47)) (EncN V4 0 [] 301)) := Lib.hid (t_EncodeN [zfa 1099511627777] (fun x m => by simp at m; subst m; exact zfa_ok _ _ _ (by decide)) (by decide) [] 0 301 rfl (by decide +kernel) nil_byt (by decide))
 go_wp2_with fail
 refine EN.out.mono ?_; rintro e V5 ⟨Az4, cz4, rfl, BDz, Bx⟩
 replace HB := Lib.hid (HB.out.trans (Bx.mono HB.out.size))
 replace HK := Lib.hid (HK.out.of_eq (Bx.block _ HK.out.lt))
 replace HA := Lib.hid (HA.out.up Bx)
 clear EN Bx BDz s0 s1
 obtain ⟨V5m, RC, FM, BM⟩ := make_frames V5.drew 16385 (by decide)
 have bd : Below V5.heap.size V5 V5.drew := (Below.refl _ V5).drew
 have bm := bd.trans BM
 have k5 := HK.out.of_eq (bm.block _ HK.out.lt)
 have s0 := HK.out.c 0 _ rfl
 have s1 := HK.out.c 1 _ rfl
 have m0 := k5.c 0 _ rfl
 have m1 := k5.c 1 _ rfl
 have EN : Hid (Calls Tryz.prog 16 #[.agg #[.int .i64 5, .int .i64 1], .slice (some ⟨V5.heap.size, 0, none⟩) 16385 16385] V5m (EncN V5 0 [] 3)) := Lib.hid (by
  have := t_EncodeL (w := 5) (h := 1) (List.replicate 16385 (zfa 0)) FM bm [] 0 3 rfl known_big nil_byt (by decide)
  rw [List.length_replicate] at this
  exact this)
 have RC : (Instr.makeSlice 24 (.int .i64 16385) (.int .i64 16385)).run Tryz.prog V5.drew = .ok (.slice (some ⟨V5.heap.size, 0, none⟩) 16385 16385) V5m := RC
 clear FM BM bd bm k5
 go_wp2_with fail
 go_cut [12, 13] from 66 to 71 (fun s12 s13 wx => (∃ A c, s12 = .slice A 0 c) ∧ s13 = .int .i64 3 ∧ Hid (Below V5.heap.size V5 wx))
 case first =>
  go_region_with (go_at_call 16; refine EN.out.mono ?_; rintro e V6 ⟨Az6, cz6, rfl, BDz, Bx⟩; have HB6 := Lib.hid Bx; clear Bx; skip)
  all_goals go_wp2_with fail
  all_goals go_meet
  all_goals exact ⟨⟨_, _, rfl⟩, rfl, HB6⟩
 case rest =>
 obtain ⟨⟨Az6, cz6, rfl⟩, rfl, hcb⟩ := hcut
 obtain ⟨V6, hV6⟩ : ∃ V6, V6 = wc := ⟨_, rfl⟩
 rw [← hV6] at hcb ⊢
 have Bx := hcb.out
 clear hV6 hcb EN RC s0 s1 m0 m1
 replace HB := Lib.hid (HB.out.trans (Bx.mono HB.out.size))
 replace HK := Lib.hid (HK.out.of_eq (Bx.block _ HK.out.lt))
 replace HA := Lib.hid (HA.out.up Bx)
 clear Bx
 obtain ⟨hz, hhz⟩ : ∃ hz : List Int, hz = List.replicate 524288 0 := ⟨_, rfl⟩
 have hl : hz.length = 524288 := by rw [hhz, List.length_replicate]
 obtain ⟨V8, RC, BH, Bx⟩ := make_zero V6 524288 (by decide)
 rw [← hhz] at BH
 have RC : (Instr.makeSlice 27 (.int .i64 524288) (.int .i64 524288)).run Tryz.prog V6 = .ok (.slice (some ⟨V6.heap.size, 0, none⟩) 524288 524288) V8 := RC
 replace HB := Lib.hid (HB.out.trans (Bx.mono HB.out.size))
 replace HK := Lib.hid (HK.out.of_eq (Bx.block _ HK.out.lt))
 replace HA := Lib.hid (HA.out.up Bx)
 have HHL := Lib.hid hl
 clear hhz Bx
 have s0 := HK.out.c 0 _ rfl
 have s1 := HK.out.c 1 _ rfl
 have EN := t_EncodeN (V := V8) (w := 5) (h := 1) [⟨0, ⟨some ⟨V6.heap.size, 0, none⟩, 524288, hz⟩⟩, ⟨0, ⟨some ⟨V6.heap.size, 0, none⟩, 524288, hz⟩⟩] (fun x m => by simp at m; subst m; exact ⟨BH, (by decide : -9223372036854775808 ≤ (0 : Int) ∧ (0 : Int) ≤ 9223372036854775807)⟩) (by show 2 ≤ 1000000; decide) [] 0 3 rfl (known_half hz hl) nil_byt (by decide)
 have EN : Hid (Calls Tryz.prog 16 #[.agg #[.int .i64 5, .int .i64 1], .slice (some ⟨V8.heap.size, 0, none⟩) 2 2] (V8.alloc (.cells #[.int .i64 0, .slice (some ⟨V6.heap.size, 0, none⟩) 524288 524288, .int .i64 0, .slice (some ⟨V6.heap.size, 0, none⟩) 524288 524288] 47)) (EncN V8 0 [] 3)) := Lib.hid (by
  have e : ([⟨0, ⟨some ⟨V6.heap.size, 0, none⟩, 524288, hz⟩⟩, ⟨0, ⟨some ⟨V6.heap.size, 0, none⟩, 524288, hz⟩⟩] : List FA).flatMap frV = [.int .i64 0, .slice (some ⟨V6.heap.size, 0, none⟩) 524288 524288, .int .i64 0, .slice (some ⟨V6.heap.size, 0, none⟩) 524288 524288] := by
   show [Value.int .i64 0, .slice (some ⟨V6.heap.size, 0, none⟩) hz.length 524288, .int .i64 0, .slice (some ⟨V6.heap.size, 0, none⟩) hz.length 524288] = _
   rw [hl]
  rw [e] at EN
  exact EN)
 clear hl BH
 generalize V6.heap.size = gh at *
 go_wp2_with fail
 refine EN.out.mono ?_; rintro e V9 ⟨Az9, cz9, rfl, BDz, Bx⟩
 replace HB := Lib.hid (HB.out.trans (Bx.mono HB.out.size))
 replace HK := Lib.hid (HK.out.of_eq (Bx.block _ HK.out.lt))
 replace HA := Lib.hid (HA.out.up Bx)
 clear EN Bx BDz s0 s1 RC HHL
 obtain ⟨cv0, bd0, bl0⟩ := lit_byte (V := V9) 97 (by decide)
 obtain ⟨Q9_0, hQ9_0⟩ : ∃ Q, Q = V9.alloc (.cells #[.int .u8 97] 5 (1, 2)) := ⟨_, rfl⟩
 rw [← hQ9_0] at cv0 bd0 bl0
 clear hQ9_0
 obtain ⟨cv1, bd1, bl1⟩ := lit_byte (V := Q9_0) 98 (by decide)
 obtain ⟨Q9_1, hQ9_1⟩ : ∃ Q, Q = Q9_0.alloc (.cells #[.int .u8 98] 5 (1, 2)) := ⟨_, rfl⟩
 rw [← hQ9_1] at cv1 bd1 bl1
 clear hQ9_1
 have bd0 := bd0.up bl1
 have s0 := HK.out.c 0 _ rfl
 have s1 := HK.out.c 1 _ rfl
 have bb := bl0.trans (bl1.mono bl0.size)
 have bu : Below Q9_1.heap.size Q9_1 (Q9_1.alloc (.cells (([⟨300, ⟨some ⟨V9.heap.size, 0, none⟩, 1, [97]⟩⟩, ⟨300, ⟨some ⟨Q9_0.heap.size, 0, none⟩, 1, [98]⟩⟩] : List FA).flatMap frV).toArray 47)) := (Below.refl _ _).alloc (Nat.le_refl _) _
 have EN : Hid (Calls Tryz.prog 16 #[.agg #[.int .i64 5, .int .i64 1], .slice (some ⟨Q9_1.heap.size, 0, none⟩) 2 2] (Q9_1.alloc (.cells #[.int .i64 300, .slice (some ⟨V9.heap.size, 0, none⟩) 1 1, .int .i64 300, .slice (some ⟨Q9_0.heap.size, 0, none⟩) 1 1] 47)) (EncN V9 17 kB 0)) := Lib.hid (t_EncodeL [⟨300, ⟨some ⟨V9.heap.size, 0, none⟩, 1, [97]⟩⟩, ⟨300, ⟨some ⟨Q9_0.heap.size, 0, none⟩, 1, [98]⟩⟩] (frs_new _ (fun x m => by
  rcases List.mem_cons.1 m with rfl | m
  ·exact ⟨bd0, (by decide : -9223372036854775808 ≤ (300 : Int) ∧ (300 : Int) ≤ 9223372036854775807)⟩
  ·rw [List.mem_singleton.1 m]; exact ⟨bd1, (by decide : -9223372036854775808 ≤ (300 : Int) ∧ (300 : Int) ≤ 9223372036854775807)⟩) (by show 2 ≤ 1000000; decide)) (bb.trans (bu.mono bb.size)) kB 17 0 kB_len kB_enc kB_byt (by decide))
 clear bb bu bd0 bd1 bl0 bl1
 go_wp2_with fail
 refine EN.out.mono ?_; rintro e V10 ⟨Ab, cb, rfl, BDb, Bx⟩
 have HBb := Lib.hid BDb
 replace HB := Lib.hid (HB.out.trans (Bx.mono HB.out.size))
 replace HK := Lib.hid (HK.out.of_eq (Bx.block _ HK.out.lt))
 replace HA := Lib.hid (HA.out.up Bx)
 clear EN Bx BDb s0 s1 cv0 cv1
 have cva : (convert 27 9 (.slice Aa 10 ca)).run Tryz.prog V10 = .ok (.string ⟨#[70, 77, 1, 5, 1, 0, 155, 0, 64, 3]⟩) V10 := by
  have := conv_sees HA.out
  rw [show barr kA = ⟨#[70, 77, 1, 5, 1, 0, 155, 0, 64, 3]⟩ by decide +kernel] at this
  exact this
 have cvb : (convert 27 9 (.slice Ab 13 cb)).run Tryz.prog V10 = .ok (.string ⟨#[70, 77, 1, 5, 1, 2, 172, 2, 1, 97, 0, 1, 98]⟩) V10 := by
  have := conv_sees (HBb.out.takeB 13)
  rw [show barr (kB.take 13) = ⟨#[70, 77, 1, 5, 1, 2, 172, 2, 1, 97, 0, 1, 98]⟩ by decide +kernel] at this
  have e : (kB.take 13).length = 13 := by rw [kB_take]; rfl
  simp only [e] at this
  exact this
 have cl : (13 : Int) ≤ (cb : Int) := by have := HBb.out.cap; have : kB.length ≤ cb := this; rw [kB_len] at this; omega
 have RD := Lib.hid (law_read ⟨#[]⟩ [] 6 0 V10 rfl (by kernel_rfl) (by decide))
 go_wp2_with fail
 refine RD.out.mono ?_; rintro e V11 ⟨rfl, Bx⟩
 replace HB := Lib.hid (HB.out.trans (Bx.mono HB.out.size))
 replace HK := Lib.hid (HK.out.of_eq (Bx.block _ HK.out.lt))
 clear Bx RD cva cvb cl
 have RD := Lib.hid (law_read ⟨#[70, 76]⟩ [70, 76] 300 1 V11 rfl (by kernel_rfl) (by decide))
 go_wp2_with fail
 refine RD.out.mono ?_; rintro e V12 ⟨rfl, Bx⟩
 replace HB := Lib.hid (HB.out.trans (Bx.mono HB.out.size))
 replace HK := Lib.hid (HK.out.of_eq (Bx.block _ HK.out.lt))
 clear Bx RD
 have RD := Lib.hid (law_read ⟨#[70, 77, 1, 5]⟩ [70, 77, 1, 5] 6 4 V12 rfl (by kernel_rfl) (by decide))
 go_wp2_with fail
 refine RD.out.mono ?_; rintro e V13 ⟨rfl, Bx⟩
 replace HB := Lib.hid (HB.out.trans (Bx.mono HB.out.size))
 replace HK := Lib.hid (HK.out.of_eq (Bx.block _ HK.out.lt))
 clear Bx RD
 have RD := Lib.hid (law_read ⟨#[70, 77, 1, 133, 0, 1, 0]⟩ [70, 77, 1, 133, 0, 1, 0] 300 3 V13 rfl (by kernel_rfl) (by decide))
 go_wp2_with fail
 refine RD.out.mono ?_; rintro e V14 ⟨rfl, Bx⟩
 replace HB := Lib.hid (HB.out.trans (Bx.mono HB.out.size))
 replace HK := Lib.hid (HK.out.of_eq (Bx.block _ HK.out.lt))
 clear Bx RD
 have RD := Lib.hid (law_read ⟨#[70, 77, 1, 129, 32, 1, 0]⟩ [70, 77, 1, 129, 32, 1, 0] 300 3 V14 rfl (by kernel_rfl) (by decide))
 go_wp2_with fail
 refine RD.out.mono ?_; rintro e V15 ⟨rfl, Bx⟩
 replace HB := Lib.hid (HB.out.trans (Bx.mono HB.out.size))
 replace HK := Lib.hid (HK.out.of_eq (Bx.block _ HK.out.lt))
 clear Bx RD
 obtain ⟨cv0, bd0, bl0⟩ := lit_byte (V := V15) 97 (by decide)
 obtain ⟨Q15_0, hQ15_0⟩ : ∃ Q, Q = V15.alloc (.cells #[.int .u8 97] 5 (1, 2)) := ⟨_, rfl⟩
 rw [← hQ15_0] at cv0 bd0 bl0
 clear hQ15_0
 obtain ⟨cv1, bd1, bl1⟩ := lit_byte (V := Q15_0) 98 (by decide)
 obtain ⟨Q15_1, hQ15_1⟩ : ∃ Q, Q = Q15_0.alloc (.cells #[.int .u8 98] 5 (1, 2)) := ⟨_, rfl⟩
 rw [← hQ15_1] at cv1 bd1 bl1
 clear hQ15_1
 have bd0 := bd0.up bl1
 obtain ⟨cv2, bd2, bl2⟩ := lit_byte (V := Q15_1) 99 (by decide)
 obtain ⟨Q15_2, hQ15_2⟩ : ∃ Q, Q = Q15_1.alloc (.cells #[.int .u8 99] 5 (1, 2)) := ⟨_, rfl⟩
 rw [← hQ15_2] at cv2 bd2 bl2
 clear hQ15_2
 have bd0 := bd0.up bl2
 have bd1 := bd1.up bl2
 have bb := (bl0.trans (bl1.mono bl0.size)).trans (bl2.mono (bl0.trans (bl1.mono bl0.size)).size)
 obtain ⟨V16, h16⟩ : ∃ V, V = Q15_2.alloc (.cells #[.int .i64 10, .slice (some ⟨V15.heap.size, 0, none⟩) 1 1, .int .i64 500, .slice (some ⟨Q15_0.heap.size, 0, none⟩) 1 1, .int .i64 500, .slice (some ⟨Q15_1.heap.size, 0, none⟩) 1 1] 47) := ⟨_, rfl⟩
 have FX := frs_new (w := Q15_2) [⟨10, ⟨some ⟨V15.heap.size, 0, none⟩, 1, [97]⟩⟩, ⟨500, ⟨some ⟨Q15_0.heap.size, 0, none⟩, 1, [98]⟩⟩, ⟨500, ⟨some ⟨Q15_1.heap.size, 0, none⟩, 1, [99]⟩⟩] (fun x m => by
  rcases List.mem_cons.1 m with rfl | m
  ·exact ⟨bd0, (by decide : -9223372036854775808 ≤ (10 : Int) ∧ (10 : Int) ≤ 9223372036854775807)⟩
  ·rcases List.mem_cons.1 m with rfl | m
   ·exact ⟨bd1, (by decide : -9223372036854775808 ≤ (500 : Int) ∧ (500 : Int) ≤ 9223372036854775807)⟩
   ·rw [List.mem_singleton.1 m]; exact ⟨bd2, (by decide : -9223372036854775808 ≤ (500 : Int) ∧ (500 : Int) ≤ 9223372036854775807)⟩) (by show 3 ≤ 1000000; decide)
 have FX : FrsD V16 V16.heap.size (some ⟨Q15_2.heap.size, 0, none⟩) 3 [⟨10, ⟨some ⟨V15.heap.size, 0, none⟩, 1, [97]⟩⟩, ⟨500, ⟨some ⟨Q15_0.heap.size, 0, none⟩, 1, [98]⟩⟩, ⟨500, ⟨some ⟨Q15_1.heap.size, 0, none⟩, 1, [99]⟩⟩] := by rw [h16]; exact FX
 have b16 : Below Q15_2.heap.size Q15_2 V16 := by rw [h16]; exact (Below.refl _ _).alloc (Nat.le_refl _) _
 have Bx := bb.trans (b16.mono bb.size)
 obtain ⟨LX, hLX⟩ : ∃ LX : List FA, LX = [⟨10, ⟨some ⟨V15.heap.size, 0, none⟩, 1, [97]⟩⟩, ⟨500, ⟨some ⟨Q15_0.heap.size, 0, none⟩, 1, [98]⟩⟩, ⟨500, ⟨some ⟨Q15_1.heap.size, 0, none⟩, 1, [99]⟩⟩] := ⟨_, rfl⟩
 rw [← hLX] at FX
 have eX : frms LX = [⟨10, [97]⟩, ⟨500, [98]⟩, ⟨500, [99]⟩] := by rw [hLX]; rfl
 have lX : LX.length = 3 := by rw [hLX]; rfl
 have HX := Lib.hid FX
 have HEX := Lib.hid (And.intro eX lX)
 have H16 := Lib.hid h16
 replace HB := Lib.hid (HB.out.trans (Bx.mono HB.out.size))
 replace HK := Lib.hid (HK.out.of_eq (Bx.block _ HK.out.lt))
 clear Bx bb FX b16 eX lX h16 bd0 bd1 bd2 bl0 bl1 bl2 hLX
 go_upto_region 15 with fail
 rw [← H16.out]
 clear H16 cv0 cv1 cv2
 generalize Q15_2.heap.size = gx at *
 have SQ := t_Squeeze (some ⟨gx, 0, none⟩) 3 LX 100 V16.heap.size V16 HX.out (Nat.le_refl _) (by rw [← frms_flat, HEX.out.1]; decide) (by decide)
 unfold SqR at SQ
 rw [HEX.out.1, HEX.out.2, show squeezeT [⟨10, [97]⟩, ⟨500, [98]⟩, ⟨500, [99]⟩] 100 = ([⟨10, [97]⟩, ⟨110, [98]⟩, ⟨110, [99]⟩], 0) by kernel_rfl] at SQ
 have SQ := Lib.hid SQ
 go_wp2_with fail
 refine SQ.out.mono ?_; rintro e V17 ⟨v, rfl, C⟩
 obtain ⟨Am, cm, Lm, rfl, em, Fm⟩ := C.read (by decide) (by decide)
 have lm : Lm.length = 3 := by rw [← frms_len, em]; rfl
 rw [lm]
 have Bx := C.1
 replace HB := Lib.hid (HB.out.trans (Bx.mono HB.out.size))
 replace HK := Lib.hid (HK.out.of_eq (Bx.block _ HK.out.lt))
 replace HX := Lib.hid (HX.out.up Bx)
 have HM := Lib.hid Fm
 have HEM := Lib.hid em
 clear SQ C Bx Fm em lm
 have SQ := t_Squeeze (some ⟨gx, 0, none⟩) 3 LX 0 V17.heap.size V17 HX.out (Nat.le_refl _) (by rw [← frms_flat, HEX.out.1]; decide) (by decide)
 unfold SqR at SQ
 rw [HEX.out.1, HEX.out.2, show squeezeT [⟨10, [97]⟩, ⟨500, [98]⟩, ⟨500, [99]⟩] 0 = ([⟨0, [97]⟩, ⟨0, [98]⟩, ⟨0, [99]⟩], 0) by kernel_rfl] at SQ
 have SQ := Lib.hid SQ
 go_wp2_with fail
 refine SQ.out.mono ?_; rintro e V18 ⟨v, rfl, C⟩
 obtain ⟨An, cn, Ln, rfl, en, Fn⟩ := C.read (by decide) (by decide)
 have ln : Ln.length = 3 := by rw [← frms_len, en]; rfl
 rw [ln]
 have Bx := C.1
 replace HB := Lib.hid (HB.out.trans (Bx.mono HB.out.size))
 replace HK := Lib.hid (HK.out.of_eq (Bx.block _ HK.out.lt))
 replace HX := Lib.hid (HX.out.up Bx)
 replace HM := Lib.hid (HM.out.up Bx)
 have HZ := Lib.hid Fn
 have HEZ := Lib.hid en
 clear SQ C Bx Fn en ln
 have SQ := t_Squeeze (some ⟨gx, 0, none⟩) 3 LX (-1) V18.heap.size V18 HX.out (Nat.le_refl _) (by rw [← frms_flat, HEX.out.1]; decide) (by decide)
 unfold SqR at SQ
 rw [HEX.out.1, HEX.out.2, show squeezeT [⟨10, [97]⟩, ⟨500, [98]⟩, ⟨500, [99]⟩] (-1) = ([], 2) by kernel_rfl] at SQ
 have SQ := Lib.hid SQ
 go_wp2_with fail
 refine SQ.out.mono ?_; rintro e V19 ⟨v, rfl, C⟩
 obtain ⟨Aq, cq, Lq, rfl, eq, Fq⟩ := C.read (by decide) (by decide)
 have lq : Lq.length = 0 := by rw [← frms_len, eq]; rfl
 rw [lq]
 have Bx := C.1
 replace HB := Lib.hid (HB.out.trans (Bx.mono HB.out.size))
 replace HK := Lib.hid (HK.out.of_eq (Bx.block _ HK.out.lt))
 replace HX := Lib.hid (HX.out.up Bx)
 replace HM := Lib.hid (HM.out.up Bx)
 replace HZ := Lib.hid (HZ.out.up Bx)
 clear SQ C Bx Fq eq lq
 have bu : Below V19.heap.size V19 (V19.alloc (.cells #[.int .i64 5, .slice none 0 0] 47)) := (Below.refl _ _).alloc (Nat.le_refl _) _
 have F5 : FrsD (V19.alloc (.cells #[.int .i64 5, .slice none 0 0] 47)) (V19.alloc (.cells #[.int .i64 5, .slice none 0 0] 47)).heap.size (some ⟨V19.heap.size, 0, none⟩) 1 [zfa 5] := frs_new (w := V19) [zfa 5] (fun x m => by rw [List.mem_singleton.1 m]; exact zfa_ok _ _ _ (by decide)) (by decide)
 have lt1 : (LX.take 1).length = 1 := by rw [List.length_take, HEX.out.2]; rfl
 have J := t_Join3 ((HX.out.up bu).takeF 1) (frs_nil (V19.alloc (.cells #[.int .i64 5, .slice none 0 0] 47)) _) F5
 rw [lt1] at J
 unfold JoinV at J
 rw [show joinT [frms (LX.take 1), frms [], frms [zfa 5]] = ([⟨10, [97]⟩, ⟨15, []⟩], 0) by rw [frms_take, HEX.out.1]; kernel_rfl] at J
 have sz : (V19.alloc (.cells #[.int .i64 5, .slice none 0 0] 47)).heap.size = V19.heap.size + 1 := by simp
 rw [sz] at J
 have J := Lib.hid J
 have HBU := Lib.hid bu
 clear F5 lt1 bu sz
 go_wp2_with fail
 refine J.out.mono ?_; rintro e V20 ⟨Ao, co, Lo, rfl, Bx, eo, Fo, _⟩
 have lo : Lo.length = 2 := by rw [← frms_len, eo]; rfl
 rw [lo]
 have Bx := HBU.out.trans (Bx.mono (Nat.le_succ _))
 replace HB := Lib.hid (HB.out.trans (Bx.mono HB.out.size))
 replace HK := Lib.hid (HK.out.of_eq (Bx.block _ HK.out.lt))
 replace HM := Lib.hid (HM.out.up Bx)
 replace HZ := Lib.hid (HZ.out.up Bx)
 have HO := Lib.hid Fo
 have HEO := Lib.hid eo
 clear J Bx Fo eo lo HBU HX HEX
 have J := t_Join none 0 [] V20.heap.size V20 ⟨Nat.le_refl _, Nat.zero_le _, Sees.nil _ _ _, fun t m => by cases m⟩ (Nat.le_refl _)
 have J : Hid (Calls Tryz.prog 34 #[.slice none 0 0] V20 (JoinR V20 [])) := Lib.hid J
 go_wp2_with fail
 refine J.out.mono ?_; intro e V21 hR
 obtain ⟨Ap, cp, Lp, rfl, Bx, ep, _, _⟩ := hR.open
 have lp : Lp.length = 0 := by rw [← frms_len, ep]; rfl
 rw [lp, show (joinT []).2 = 0 from rfl]
 replace HB := Lib.hid (HB.out.trans (Bx.mono HB.out.size))
 replace HK := Lib.hid (HK.out.of_eq (Bx.block _ HK.out.lt))
 replace HM := Lib.hid (HM.out.up Bx)
 replace HZ := Lib.hid (HZ.out.up Bx)
 replace HO := Lib.hid (HO.out.up Bx)
 clear J hR Bx ep lp
 have bu : Below V21.heap.size V21 (V21.alloc (.cells #[.int .i64 1099511627776, .slice none 0 0] 47)) := (Below.refl _ _).alloc (Nat.le_refl _) _
 obtain ⟨U1, hU1⟩ : ∃ U, U = V21.alloc (.cells #[.int .i64 1099511627776, .slice none 0 0] 47) := ⟨_, rfl⟩
 have G1 : FrsD U1 U1.heap.size (some ⟨V21.heap.size, 0, none⟩) 1 [zfa 1099511627776] := by rw [hU1]; exact frs_new (w := V21) [zfa 1099511627776] (fun x m => by rw [List.mem_singleton.1 m]; exact zfa_ok _ _ _ (by decide)) (by decide)
 obtain ⟨U2, hU2⟩ : ∃ U, U = U1.alloc (.cells #[.int .i64 1, .slice none 0 0] 47) := ⟨_, rfl⟩
 have bv : Below U1.heap.size U1 U2 := by rw [hU2]; exact (Below.refl _ _).alloc (Nat.le_refl _) _
 have G2 : FrsD U2 U2.heap.size (some ⟨U1.heap.size, 0, none⟩) 1 [zfa 1] := by rw [hU2]; exact frs_new (w := U1) [zfa 1] (fun x m => by rw [List.mem_singleton.1 m]; exact zfa_ok _ _ _ (by decide)) (by decide)
 have bu : Below V21.heap.size V21 U1 := by rw [hU1]; exact bu
 have bw := bu.trans (bv.mono bu.size)
 have J := t_Join2 (G1.up bv) G2
 unfold JoinV at J
 rw [show joinT [frms [zfa 1099511627776], frms [zfa 1]] = ([], 301) by kernel_rfl] at J
 have sz1 : U1.heap.size = V21.heap.size + 1 := by rw [hU1]; simp
 have sz2 : U2.heap.size = V21.heap.size + 1 + 1 := by rw [hU2, ← sz1]; simp
 rw [sz2, sz1, hU2, hU1] at J
 rw [hU2, hU1] at bw
 have J := Lib.hid J
 have HBW := Lib.hid bw
 clear G1 bv G2 hU2 hU1 bw sz1 sz2 bu
 go_wp2_with fail
 refine J.out.mono ?_; rintro e V22 ⟨Ar, cr, Lr, rfl, Bx, er, Fr, lr0⟩
 have lr : Lr.length = 0 := by rw [← frms_len, er]; rfl
 rw [lr]
 have Bx := HBW.out.trans (Bx.mono (Nat.le_succ_of_le (Nat.le_succ _)))
 replace HB := Lib.hid (HB.out.trans (Bx.mono HB.out.size))
 replace HK := Lib.hid (HK.out.of_eq (Bx.block _ HK.out.lt))
 replace HM := Lib.hid (HM.out.up Bx)
 replace HZ := Lib.hid (HZ.out.up Bx)
 replace HO := Lib.hid (HO.out.up Bx)
 clear J Bx er lr HBW Fr lr0
 obtain ⟨am, em0, m0⟩ := HM.out.fr 10 _ HEM.out 0 (by decide) rfl
 subst em0
 obtain ⟨am1, em1, m1⟩ := HM.out.fr 110 _ HEM.out 1 (by decide) rfl
 cases em1
 obtain ⟨am2, em2, m2⟩ := HM.out.fr 110 _ HEM.out 2 (by decide) rfl
 cases em2
 obtain ⟨an, en0, n2⟩ := HZ.out.fr 0 _ HEZ.out 2 (by decide) rfl
 subst en0
 obtain ⟨ao, eo0, o1⟩ := HO.out.fr 15 _ HEO.out 1 (by decide) rfl
 subst eo0
 have m0 : V22.cell? (am.add 0) = some (.int .i64 10) := m0
 have m00 : V22.cell? am = some (.int .i64 10) := m0
 have m1 : V22.cell? (am.add 2) = some (.int .i64 110) := m1
 have m2 : V22.cell? (am.add 4) = some (.int .i64 110) := m2
 have n2 : V22.cell? (an.add 4) = some (.int .i64 0) := n2
 have o1 : V22.cell? (ao.add 2) = some (.int .i64 15) := o1
 have m1b : V22.cell? ⟨am.block, am.off + 2, none⟩ = some (.int .i64 110) := by rw [add_ltt am 2 (by decide)]; exact m1
 have m2b : V22.cell? ⟨am.block, am.off + 4, none⟩ = some (.int .i64 110) := by rw [add_ltt am 4 (by decide)]; exact m2
 have n2b : V22.cell? ⟨an.block, an.off + 4, none⟩ = some (.int .i64 0) := by rw [add_ltt an 4 (by decide)]; exact n2
 have o1b : V22.cell? ⟨ao.block, ao.off + 2, none⟩ = some (.int .i64 15) := by rw [add_ltt ao 2 (by decide)]; exact o1
 obtain ⟨V23, RC, F6, Bx⟩ := make_frames V22 6384 (by decide)
 have RC : (Instr.makeSlice 24 (.int .i64 6384) (.int .i64 6384)).run Tryz.prog V22 = .ok (.slice (some ⟨V22.heap.size, 0, none⟩) 6384 6384) V23 := RC
 replace HB := Lib.hid (HB.out.trans (Bx.mono HB.out.size))
 replace HK := Lib.hid (HK.out.of_eq (Bx.block _ HK.out.lt))
 obtain ⟨V24, RD, F10, Bx⟩ := make_frames V23 10000 (by decide)
 have RD : (Instr.makeSlice 24 (.int .i64 10000) (.int .i64 10000)).run Tryz.prog V23 = .ok (.slice (some ⟨V23.heap.size, 0, none⟩) 10000 10000) V24 := RD
 replace F6 := F6.up Bx
 replace HB := Lib.hid (HB.out.trans (Bx.mono HB.out.size))
 replace HK := Lib.hid (HK.out.of_eq (Bx.block _ HK.out.lt))
 obtain ⟨ru, hu1, hu2⟩ := known_u
 have J := t_Join2 F10 F6
 unfold JoinV at J
 rw [List.length_replicate, List.length_replicate, rep_frms, rep_frms, hu1] at J
 have J := Lib.hid J
 have H6 := Lib.hid F6
 have HU := Lib.hid hu2
 clear F10 F6 Bx hu1 hu2 HM HZ HO HEM HEZ HEO
 generalize V22.heap.size = g6 at *
 go_wp2_with fail
 refine J.out.mono ?_; rintro e V25 ⟨Au, cu, Lu, rfl, Bx, eu, Fu, lu0⟩
 have lu : Lu.length = 16384 := by rw [← frms_len, eu]; exact HU.out
 rw [lu]
 replace HB := Lib.hid (HB.out.trans (Bx.mono HB.out.size))
 replace HK := Lib.hid (HK.out.of_eq (Bx.block _ HK.out.lt))
 replace H6 := Lib.hid (H6.out.up Bx)
 clear J Bx eu lu Fu lu0 HU RC RD m0 m00 m1 m2 n2 o1 m1b m2b n2b o1b
 obtain ⟨V26, RC, F10, Bx⟩ := make_frames V25 10000 (by decide)
 have RC : (Instr.makeSlice 24 (.int .i64 10000) (.int .i64 10000)).run Tryz.prog V25 = .ok (.slice (some ⟨V25.heap.size, 0, none⟩) 10000 10000) V26 := RC
 replace HB := Lib.hid (HB.out.trans (Bx.mono HB.out.size))
 replace HK := Lib.hid (HK.out.of_eq (Bx.block _ HK.out.lt))
 replace H6 := Lib.hid (H6.out.up Bx)
 have bu : Below V26.heap.size V26 (V26.alloc (.cells #[.int .i64 0, .slice none 0 0] 47)) := (Below.refl _ _).alloc (Nat.le_refl _) _
 have F0 : FrsD (V26.alloc (.cells #[.int .i64 0, .slice none 0 0] 47)) (V26.alloc (.cells #[.int .i64 0, .slice none 0 0] 47)).heap.size (some ⟨V26.heap.size, 0, none⟩) 1 [zfa 0] := frs_new (w := V26) [zfa 0] (fun x m => by rw [List.mem_singleton.1 m]; exact zfa_ok _ _ _ (by decide)) (by decide)
 have J := t_Join3 (F10.up bu) (H6.out.up bu) F0
 unfold JoinV at J
 have sz : (V26.alloc (.cells #[.int .i64 0, .slice none 0 0] 47)).heap.size = V26.heap.size + 1 := by simp
 rw [List.length_replicate, List.length_replicate, rep_frms, rep_frms, show frms [zfa 0] = [⟨0, []⟩] from rfl, known_v, sz] at J
 have J := Lib.hid J
 have HBU := Lib.hid bu
 clear F10 F0 bu sz Bx H6
 go_wp2_with fail
 refine J.out.mono ?_; rintro e V27 ⟨Av, cv, Lv, rfl, Bx, ev, Fv, lv0⟩
 have lv : Lv.length = 0 := by rw [← frms_len, ev]; rfl
 rw [lv]
 have Bx := HBU.out.trans (Bx.mono (Nat.le_succ _))
 replace HB := Lib.hid (HB.out.trans (Bx.mono HB.out.size))
 replace HK := Lib.hid (HK.out.of_eq (Bx.block _ HK.out.lt))
 clear J Bx ev lv Fv lv0 HBU RC
 have RD := Lib.hid (law_read ⟨#[70, 77, 1, 128, 32, 129, 2, 0]⟩ [70, 77, 1, 128, 32, 129, 2, 0] 300 5 V27 rfl (by kernel_rfl) (by decide))
 go_wp2_with fail
 refine RD.out.mono ?_; rintro e V28 ⟨rfl, Bx⟩
 replace HB := Lib.hid (HB.out.trans (Bx.mono HB.out.size))
 replace HK := Lib.hid (HK.out.of_eq (Bx.block _ HK.out.lt))
 clear Bx RD
 have s0 := HK.out.c 0 _ rfl
 have s1 := HK.out.c 1 _ rfl
 have NP := t_PNew 5 1 none 0 [] 7 V28.heap.size V28 (HE.out.mv (Mv.below (F := []) HB.out) (by simp)) (frs_nil _ _) (Nat.le_refl _) (by decide) (by decide)
 have NP : Hid (Calls Tryz.prog 25 #[.agg #[.int .i64 5, .int .i64 1], .slice none 0 0, .int .i64 7] V28 (NewR V28 5 1 [] 7)) := Lib.hid NP
 go_wp2_with fail
 refine NP.out.mono ?_; rintro e V29 ⟨vp, rfl, Bx, _, P1⟩
 obtain ⟨Wp, pb, ep, rfl, PP, _⟩ := P1 (by decide)
 rw [show newC 5 1 [] 7 = 0 by decide]
 replace HB := Lib.hid (HB.out.trans (Bx.mono HB.out.size))
 replace HK := Lib.hid (HK.out.of_eq (Bx.block _ HK.out.lt))
 have HPP := Lib.hid PP
 clear NP Bx P1 PP s0 s1
 have s0 := HK.out.c 0 _ rfl
 have s1 := HK.out.c 1 _ rfl
 have NP := t_PNew 5 1 none 0 [] 0 V29.heap.size V29 (HE.out.mv (Mv.below (F := []) HB.out) (by simp)) (frs_nil _ _) (Nat.le_refl _) (by decide) (by decide)
 have NP : Hid (Calls Tryz.prog 25 #[.agg #[.int .i64 5, .int .i64 1], .slice none 0 0, .int .i64 0] V29 (NewR V29 5 1 [] 0)) := Lib.hid NP
 go_wp2_with fail
 refine NP.out.mono ?_; rintro e V30 ⟨vq, rfl, Bx, _, _⟩
 rw [show newC 5 1 [] 0 = 2 by decide]
 replace HPP := Lib.hid (HPP.out.below Bx)
 replace HB := Lib.hid (HB.out.trans (Bx.mono HB.out.size))
 replace HK := Lib.hid (HK.out.of_eq (Bx.block _ HK.out.lt))
 have PL := Lib.hid (t_PLen HPP.out)
 clear NP Bx s0 s1
 go_wp2_with fail
 refine PL.out.mono ?_; rintro e V31 ⟨rfl, Bx⟩
 rw [show lastAt [] = 0 from rfl]
 replace HB := Lib.hid (HB.out.trans (Bx.mono HB.out.size))
 replace HK := Lib.hid (HK.out.of_eq (Bx.block _ HK.out.lt))
 clear Bx PL
 go_wp2_with fail
 go_ret
 exact ⟨by rfl, HB.out⟩
end
end Go.Proofs.YtmaofighbpnbiaaGreatDoor
