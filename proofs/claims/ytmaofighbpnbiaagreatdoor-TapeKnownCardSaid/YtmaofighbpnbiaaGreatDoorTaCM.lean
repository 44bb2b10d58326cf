/- What lies below tapes (kept of earlier texts: VzA, VyT, VzB, VyQ, VzC2). -/
import Derived.Test.YtmaofighbpnbiaaGreatDoorTaCL
/- slices.Clone of marks and of bytes; a decoder that is fed nothing. -/
namespace Go.Proofs.YtmaofighbpnbiaaGreatDoor
open Go Go.RowKit Go.Sort
set_option linter.unusedVariables false
set_option linter.unusedSimpArgs false
section
variable {w0 : World} {F0 : List Nat} {tb : Nat} {t t' : Trm} {W W' : World}
theorem boolsV_len1 (l : List Bool) : (boolsV l).length = l.length * 1 := by unfold boolsV; simp
theorem append_bools {w : World} {g : Nat} (hg : w.heap[g]? = some (.cells #[] 4 (0, 0))) (ad : Addr) (m c : Nat) (news : List Value) (hl : news.length = m * 1) (hn : ∀ j u, news[j]? = some u → w.cell? (ad.add j) = some u) (hm : m ≤ 1048576) (hm0 : 0 < m) :
  ∃ v' w', (Builtin.append_ #[101, 101] 101 #[.slice (some ⟨g, 0, none⟩) 0 0, .slice (some ad) m c]).run Tryz.prog w = .ok v' w' ∧ Below w.heap.size w w' ∧ NewRow w.heap.size 4 1 v' m news w' := by
 obtain ⟨i0, hi, hz⟩ := Option.map_eq_some_iff.1 infoBo
 simp only [Prod.mk.injEq] at hz
 obtain ⟨hz0, hz1, hz2⟩ := hz
 obtain ⟨z, hzz, hzc⟩ := Option.map_eq_some_iff.1 hz0
 obtain ⟨v', w', hr, ho, hgr⟩ := run_append_arg_grows (P := Tryz.prog) w 101 101 4 i0 z 1 1 Tryz.underlying101 hi hzz hz1 hz2 (by rw [hzc]; rfl) (by decide) ⟨g, 0, none⟩ 0 0 [] (by simp) (by simp) ad m c news hl hn (by omega) (by unfold maxLen; omega) (by omega)
 rw [Nat.zero_add] at ho
 rw [List.nil_append] at ho
 refine ⟨v', w', hr, ⟨hgr.os, hgr.tape, hgr.output, hgr.size, fun k hk => hgr.block k hk (by simp)⟩, ?_⟩
 rcases ho.2 with ⟨_, a⟩ | ⟨g2, cap, cur, rfl, h2, h3, h4, h5⟩
 ·omega
 ·have lo := own_low ho (Nat.zero_le _)
  refine ⟨RowAt.of_own lo (by omega), fun b hb => ?_⟩
  obtain ⟨c', rfl⟩ : ∃ c', cap = c' + 1 := ⟨cap - 1, by omega⟩
  have : b = g2 := by simpa [ob] using hb
  omega
theorem append_noneO {w : World} {g : Nat} (hg : w.heap[g]? = some (.cells #[] 4 (0, 0))) (ad : Addr) (c : Nat) :
  (Builtin.append_ #[101, 101] 101 #[.slice (some ⟨g, 0, none⟩) 0 0, .slice (some ad) 0 c]).run Tryz.prog w = .ok (.slice (some ⟨g, 0, none⟩) 0 0) w := by
 obtain ⟨i0, hi, _⟩ := Option.map_eq_some_iff.1 infoBo
 have := run_append_room_cells (P := Tryz.prog) w 101 101 4 i0 Tryz.underlying101 hi g 0 0 0 ad 0 c [] (by simp) (by simp) (by simp) (by omega) (by simp) (by simp)
 simpa [World.setCells] using this
theorem sl_noneO (n c : Nat) (w : World) : (binOp .eql 101 (.slice none n c) (.slice none 0 0)).run Tryz.prog w = .ok (.bool true) w := by kernel_rfl
theorem sl_someO (ad : Addr) (n c : Nat) (w : World) : (binOp .eql 101 (.slice (some ad) n c) (.slice none 0 0)).run Tryz.prog w = .ok (.bool false) w := by kernel_rfl
set_option maxHeartbeats 4000000 in
set_option maxRecDepth 100000 in
theorem d_CloneO (A : Option Addr) (l : List Bool) (c : Nat) (W : World) (K : RowAt W 4 1 (.slice A l.length c) l.length (boolsV l)) (hl : l.length ≤ 1048576) : Calls Tryz.prog 63 #[.slice A l.length c] W fun e w' => ∃ v, e = .returned v ∧ NewRow W.heap.size 4 1 v l.length (boolsV l) w' ∧ Below W.heap.size W w' := by
 have SN := sl_noneO
 have SS := sl_someO
 by_cases z : l.length = 0
 ·have e : l = [] := List.eq_nil_of_length_eq_zero z
  subst e
  cases A with
  | none =>
   clear K
   go_enter Tryz.func63, Tryz.ntmps63
   go_wp2_with fail
   go_ret
   exact ⟨_, rfl, ⟨Or.inl ⟨rfl, rfl, none, rfl⟩, fun g m => by simp [ob] at m⟩, Below.refl _ _⟩
  | some ad =>
   obtain ⟨V, hV⟩ : ∃ V, V = W.alloc (.cells #[] 4) := ⟨_, rfl⟩
   have BV : Below W.heap.size W V := by rw [hV]; exact (Below.refl _ W).alloc (Nat.le_refl _) _
   have AP := append_noneO (w := V) (g := W.heap.size) (by rw [hV]; exact World.alloc_heap_new W _) ad c
   clear K
   go_enter Tryz.func63, Tryz.ntmps63
   go_upto_region 3 with fail
   have BV := Lib.hid BV
   have AP := Lib.hid AP
   have HV := Lib.hid hV
   clear hV
   go_wp2_with (at_builtin; rw [← HV.out]; refine wpList_append_run rfl (.tmp 5) (.tmp 6) 101 101 rfl _ _ _ _ rfl rfl AP.out ?_)
   go_ret
   exact ⟨_, rfl, ⟨Or.inl ⟨rfl, rfl, _, rfl⟩, fun g m => by simp [ob] at m⟩, BV.out⟩
 ·have K0 := K
  obtain ⟨g, cap, ec, eo, ho, hc⟩ := K.slice (by omega)
  simp only [Value.slice.injEq] at ec
  obtain ⟨rfl, _, rfl⟩ := ec
  obtain ⟨V, hV⟩ : ∃ V, V = W.alloc (.cells #[] 4) := ⟨_, rfl⟩
  have BV : Below W.heap.size W V := by rw [hV]; exact (Below.refl _ W).alloc (Nat.le_refl _) _
  obtain ⟨v', w', AP, B2, NR⟩ := append_bools (w := V) (g := W.heap.size) (by rw [hV]; exact World.alloc_heap_new W _) ⟨g, 0, none⟩ l.length c (boolsV l) (by rw [boolsV_len1]) (fun j u hj => by
   rw [add_at, Nat.zero_add]
   have lj : j < l.length * 1 := by have := (List.getElem?_eq_some_iff.1 hj).1; rw [boolsV_len1] at this; exact this
   obtain ⟨cur, hcu⟩ := own_block ho
   exact (BV.cell (p := ⟨g, j, none⟩) (Array.getElem?_eq_some_iff.1 hcu).1).trans ((ho.cellAt j lj).trans hj)) hl (by omega)
  have NW : Hid (NewRow W.heap.size 4 1 v' l.length (boolsV l) w') := Lib.hid ⟨NR.1, fun b m => Nat.le_trans BV.size (NR.2 b m)⟩
  have BB : Hid (Below W.heap.size W w') := Lib.hid (BV.trans (B2.mono BV.size))
  have HV := Lib.hid hV
  have AP := Lib.hid AP
  clear K K0 eo ho hc hV BV B2 NR
  generalize boolsV l = xs at *
  generalize l.length = n at *
  go_enter Tryz.func63, Tryz.ntmps63
  go_wp2_with (at_builtin; rw [← HV.out]; refine wpList_append_run rfl (.tmp 5) (.tmp 6) 101 101 rfl _ _ _ _ rfl rfl AP.out ?_)
  go_ret
  exact ⟨_, rfl, NW.out, BB.out⟩
def NewKept (B : Nat) (v : Value) (s : ByteArray) (w : World) : Prop := KeptAt w v s ∧ ∀ g ∈ ob v, B ≤ g
theorem NewKept.below {B : Nat} {v : Value} {s : ByteArray} {w w' : World} (h : NewKept B v s w) (hb : Below w.heap.size w w') : NewKept B v s w' := ⟨h.1.keep (fun g m => hb.block g (h.1.lt g m)), h.2⟩
theorem append_noneB {w : World} {g : Nat} (hg : w.heap[g]? = some (.cells #[] 5 (0, 0))) (ad : Addr) (c : Nat) :
  (Builtin.append_ #[27, 27] 27 #[.slice (some ⟨g, 0, none⟩) 0 0, .slice (some ad) 0 c]).run Tryz.prog w = .ok (.slice (some ⟨g, 0, none⟩) 0 0) w := by
 obtain ⟨i0, hi, _⟩ := info_parts info8
 have := run_append_room_cells (P := Tryz.prog) w 27 27 5 i0 Tryz.underlying27 hi g 0 0 0 ad 0 c [] (by simp) (by simp) (by simp) (by omega) (by simp) (by simp)
 simpa [World.setCells] using this
theorem sl_noneB (n c : Nat) (w : World) : (binOp .eql 27 (.slice none n c) (.slice none 0 0)).run Tryz.prog w = .ok (.bool true) w := by kernel_rfl
theorem sl_someB (ad : Addr) (n c : Nat) (w : World) : (binOp .eql 27 (.slice (some ad) n c) (.slice none 0 0)).run Tryz.prog w = .ok (.bool false) w := by kernel_rfl
theorem kept_lit (W : World) (g : Nat) : KeptAt W (.slice (some ⟨g, 0, none⟩) 0 0) zB := ⟨some ⟨g, 0, none⟩, 0, rfl, Nat.le_refl _, by unfold maxLen; omega, (fun e => by cases e), fun h => absurd h (Nat.lt_irrefl 0)⟩
theorem zB_of {s : ByteArray} (h : s.size = 0) : s = zB := by
 rcases s with ⟨⟨l⟩⟩
 cases l with
 | nil => rfl
 | cons a l => simp [ByteArray.size] at h
set_option maxHeartbeats 4000000 in
set_option maxRecDepth 100000 in
theorem d_CloneB (A : Option Addr) (s : ByteArray) (n c : Nat) (hn : n = s.size) (W : World) (K : KeptAt W (.slice A s.size c) s) (hl : s.size ≤ 900000000) : Calls Tryz.prog 64 #[.slice A n c] W fun e w' => ∃ v, e = .returned v ∧ NewKept W.heap.size v s w' ∧ Below W.heap.size W w' := by
 have SN := sl_noneB
 have SS := sl_someB
 by_cases z : s.size = 0
 ·have e := zB_of z
  subst e
  have n0 : n = 0 := hn
  subst n0
  cases A with
  | none =>
   clear K hn
   go_enter Tryz.func64, Tryz.ntmps64
   go_wp2_with fail
   go_ret
   exact ⟨_, rfl, ⟨kept_none _, fun g m => by simp [ob] at m⟩, Below.refl _ _⟩
  | some ad =>
   obtain ⟨V, hV⟩ : ∃ V, V = W.alloc (.cells #[] 5) := ⟨_, rfl⟩
   have BV : Below W.heap.size W V := by rw [hV]; exact (Below.refl _ W).alloc (Nat.le_refl _) _
   have AP := append_noneB (w := V) (g := W.heap.size) (by rw [hV]; exact World.alloc_heap_new W _) ad c
   clear K hn
   go_enter Tryz.func64, Tryz.ntmps64
   go_upto_region 3 with fail
   have BV := Lib.hid BV
   have AP := Lib.hid AP
   have HV := Lib.hid hV
   clear hV
   go_wp2_with (at_builtin; rw [← HV.out]; refine wpList_append_run rfl (.tmp 5) (.tmp 6) 27 27 rfl _ _ _ _ rfl rfl AP.out ?_)
   go_ret
   exact ⟨_, rfl, ⟨kept_lit _ _, fun g m => by simp [ob] at m⟩, BV.out⟩
 ·obtain ⟨A', c', ec, h1, hm, h2, h3⟩ := K
  simp only [Value.slice.injEq] at ec
  obtain ⟨rfl, _, rfl⟩ := ec
  obtain ⟨g, o, cur, rfl, hg, hc, hs⟩ := h3 (by omega)
  obtain ⟨V, hV⟩ : ∃ V, V = W.alloc (.cells #[] 5) := ⟨_, rfl⟩
  have BV : Below W.heap.size W V := by rw [hV]; exact (Below.refl _ W).alloc (Nat.le_refl _) _
  obtain ⟨v', w', AP, ok⟩ := kept_append (kept_lit V W.heap.size) ⟨g, o, none⟩ c (x := s) (by omega) (fun j u hj => by
   rw [add_at]
   exact (BV.cell (p := ⟨g, o + j, none⟩) (Array.getElem?_eq_some_iff.1 hg).1).trans (cells_at hg hs j u hj |> fun h => by rw [add_at] at h; exact h)) (by show 0 + s.size ≤ _; omega)
  have ez : zB ++ s = s := by apply ByteArray.ext; simp [ByteArray.data_append]; rfl
  have NK : Hid (NewKept W.heap.size v' s w') := Lib.hid ⟨by have := ok.new; rw [ez] at this; exact this, fun b m => (ok.sub b m).elim (fun q => by simp [ob] at q) (fun q => Nat.le_trans BV.size q)⟩
  have BB : Hid (Below W.heap.size W w') := Lib.hid (BV.trans ((old_mv (by have := ok.mv; exact this)).mono BV.size))
  have HV := Lib.hid hV
  have AP := Lib.hid AP
  rw [← hn] at AP
  clear h1 hm h2 h3 hg hc hs hV BV ok
  go_enter Tryz.func64, Tryz.ntmps64
  go_wp2_with (at_builtin; rw [← HV.out]; refine wpList_append_run rfl (.tmp 5) (.tmp 6) 27 27 rfl _ _ _ _ rfl rfl AP.out ?_)
  go_ret
  exact ⟨_, rfl, NK.out, BB.out⟩
theorem append_zero {w : World} {g n c0 : Nat} (A : Option Addr) (c : Nat) (hn : n ≤ c0) : (Builtin.append_ #[27, 27] 27 #[.slice (some ⟨g, 0, none⟩) n c0, .slice A 0 c]).run Tryz.prog w = .ok (.slice (some ⟨g, 0, none⟩) n c0) w := by
 obtain ⟨i0, hi, hz0, hz1, hz2⟩ := info_parts info8
 cases A with
 | none => simp [Builtin.append_, run_underlying Tryz.underlying27, sizeOf, typeInfo, hi, hz1, Builtin.lenOf, Builtin.firstCells, hn, storeCells, Result.andThen]
 | some ad =>
  have := run_append_room_cells (P := Tryz.prog) w 27 27 5 i0 Tryz.underlying27 hi g 0 n c0 ad 0 c [] (by simp) (by simp) (by simp) (by omega) (by simp) (by simp)
  simpa [World.setCells] using this
set_option maxHeartbeats 8000000 in
set_option maxRecDepth 100000 in
theorem d_Feed0 (u : Nat) (A : Option Addr) (c : Nat) (W : World) (hd : DecAt W u zB) : Calls Tryz.prog 65 #[.pointer (some ⟨u, 0, none⟩), .slice A 0 c] W fun e w' => (∃ v, e = .returned v) ∧ DecAt w' u zB ∧ Mv [u] W w' := by
 obtain ⟨k, hk⟩ : ∃ k : ByteArray, k = zB := ⟨_, rfl⟩
 rw [← hk] at hd ⊢
 obtain ⟨b0, b1, b2, b3, hD, k4, ek⟩ := hd
 obtain ⟨n, hn0⟩ : ∃ n, n = k.size := ⟨_, rfl⟩
 have UL := Lib.hid hD.lt
 have HL := Lib.hid (fun w' (hb : Below W.heap.size W w') => hD.of_eq (hb.block u hD.lt))
 have kk := fun d os => (hD.regrown d os).c 4 _ rfl
 have NW : Hid (∀ w', Below W.heap.size W w' → ∀ j x, (Lib.strCells k)[j]? = some x → w'.cell? ((⟨u, 0, none⟩ : Addr).add j) = some x) := Lib.hid (fun w' hb j x hj => by
  rw [hk] at hj
  have e : Lib.strCells zB = [] := rfl
  rw [e] at hj
  simp at hj)
 have KL := Lib.hid (Lib.strCells_length k)
 have n00 : n = 0 := by rw [hn0, hk]; rfl
 have n0 : (0 : Int) ≤ (n : Int) := by omega
 have n4 : (n : Int) ≤ 4 := by omega
 rw [← hn0] at kk
 have HN := Lib.hid hn0
 have HZ := Lib.hid n00
 have HK0 := Lib.hid hk
 have HT : Hid (∀ x : B8, ∀ b1 b2 b3 : B8, Lib.strCells k = [Value.int .u8 (bI x), Value.int .u8 (bI b1), Value.int .u8 (bI b2), Value.int .u8 (bI b3)].take k.size) := Lib.hid (fun _ _ _ _ => by rw [hk]; rfl)
 clear hD ek k4 hn0 n00 hk
 go_enter Tryz.func65, Tryz.ntmps65
 go_wp2_with fail
 refine wp_region_spec 11 [(12, emptyS W.heap.size 5), (21, rowS W.heap.size 5 1 n (Lib.strCells k)), (5, boxS W.heap.size 27)] [5, 12, 21] (by kernel_rfl) (by kernel_rfl) (by kernel_rfl) (by intro t ht; simp at ht; rcases ht with rfl | rfl | rfl <;> (intro h; cases h)) ?_
 simp only [List.take_succ_cons, List.take_zero, List.drop_succ_cons, List.drop_zero]
 refine wpS_born 12 rfl (by simp) (by first | (simp; done) | simp [put_size]) (by rfl) (by rfl) (by intro _ _ h; cases h) (fun x => ?_) ?_
 ·go_simp
  exact ⟨(Below.refl _ _).alloc (Nat.le_refl _) _, ⟨_, rfl, by simp [redrawn], by rw [show (redrawn W x.d).heap.size + x.os.size = (grow (redrawn W x.d) x.os).heap.size by simp [grow]]; exact World.alloc_heap_new _ _⟩⟩
 repeat (refine wpS_step (by rfl) (fun K hK => ?_); go_simp; first | (refine hK _ ?_; clear hK K) | (apply Exists.intro; refine ⟨fun _ => ?_, hK _ ?_⟩; (fail); clear hK K))
 refine wpS_useborn 12 21 (by simp) (by first | (simp; done) | simp [put_size]) (by rfl) rfl (by simp) (by first | (simp; done) | simp [put_size]) (by rfl) (by rfl) (by rfl) (by intro _ _ h; cases h) (fun x u hu => ?_) ?_
 ·obtain ⟨g, rfl, hg1, hg2⟩ := hu
  obtain ⟨v', w', hr, hb, ho, hq⟩ := append_empty hg2 hg1 (below_regrown W x.d x.os).size ⟨u, 0, none⟩ n 4 (Lib.strCells k) (by rw [KL.out, HN.out]) (NW.out _ (below_regrown W x.d x.os)) (Lib.strCells_oneCell k) (by omega)
  simp [execOp, resolve, invoke, builtin, hr, Result.andThen, bornUpon, Act.eval, Act.put]
  exact ⟨by simpa using hb, ho, hq⟩
 refine wpS_born 5 rfl (by simp) (by first | (simp; done) | simp [put_size]) (by rfl) (by rfl) (by intro _ _ h; cases h) (fun x => ?_) ?_
 ·go_simp
  exact ⟨(Below.refl _ _).alloc (Nat.le_refl _) _, ⟨_, _, rfl, by simp [redrawn], by rw [show (redrawn W x.d).heap.size + x.os.size = (grow (redrawn W x.d) x.os).heap.size by simp [grow]]; exact World.alloc_heap_new _ _⟩⟩
 refine wpS_nil ?_
 intro W1 vs1 hl hv
 obtain ⟨g12, e12, q12⟩ := hv 12 (by simp) rfl
 obtain ⟨o21, g21, c21, e21⟩ := hv 21 (by simp) rfl
 obtain ⟨Bx, x5, e5, hB5, q5⟩ := hv 5 (by simp) rfl
 have UB : Hid (u ≠ Bx) := Lib.hid (by have := UL.out; omega)
 simp only [fillA, e12, e21, e5]
 have hb1 := later_below.1 hl
 have X5 : Bk W1 Bx [x5] 27 := q5
 obtain ⟨cu21, hg21⟩ := own_block (own_low (by rw [e21] at o21; exact o21) (Nat.zero_le _))
 have ne21 : g21 ≠ Bx := X5.ne hg21 (by decide)
 have j5 := X5.c 0 _ rfl
 have jf5 := X5.f 0
 have B1 := Lib.hid hb1
 have X5 := Lib.hid X5
 have NE := Lib.hid ne21
 have O21 : Hid (W1.ownsRow W.heap.size 5 1 (.slice (some ⟨g21, 0, none⟩) n c21) n (Lib.strCells k)) := Lib.hid (by rw [e21] at o21; exact o21)
 clear hl hv hb1 o21 q5 q12 hg21 ne21 e21
 go_upto_region 4 with fail
 obtain ⟨V1, hV⟩ : ∃ V, V = W1.setCell ⟨Bx, 0, none⟩ (.slice (some ⟨g21, 0, none⟩) n c21) := ⟨_, rfl⟩
 have B2 : Hid (Below W.heap.size W V1) := Lib.hid (by rw [hV]; exact B1.out.setCell (p := ⟨Bx, 0, none⟩) hB5 _)
 have X2 : Hid (Bk V1 Bx [.slice (some ⟨g21, 0, none⟩) n c21] 27) := Lib.hid (by rw [hV]; exact X5.out.set 0 _)
 have O2 : V1.ownsRow W.heap.size 5 1 (.slice (some ⟨g21, 0, none⟩) n c21) n (Lib.strCells k) := by
  rw [hV]
  have := O21.out.kept (grownBy_setCell' W1 Bx (.slice (some ⟨g21, 0, none⟩) n c21)) (Or.inr (by show some g21 ≠ some Bx; intro e; exact NE.out (Option.some.inj e)))
  exact this
 have D2 : Hid (Bk V1 u [.int .u8 (bI b0), .int .u8 (bI b1), .int .u8 (bI b2), .int .u8 (bI b3), .int .i64 (k.size : Int)] 116) := Lib.hid (HL.out V1 B2.out)
 have UL2 : Hid (u < V1.heap.size) := Lib.hid (D2.out.lt)
 rw [← hV]
 clear hV B1 X5 O21 j5 jf5 HL kk
 have u5 := X2.out.c 0 _ rfl
 have uf5 := X2.out.f 0
 have c6 := D2.out.c 4 _ rfl
 have cf6 := D2.out.f 4
 have n0' := HZ.out
 subst n0'
 have AZ := Lib.hid (fun w => append_zero (w := w) (g := g21) (n := 0) (c0 := c21) A c (Nat.zero_le _))
 obtain ⟨V5, hV5⟩ : ∃ V, V = (V1.setCell ⟨Bx, 0, none⟩ (.slice (some ⟨g21, 0, none⟩) 0 c21)).setCell ⟨u, 4, none⟩ (.int .i64 0) := ⟨_, rfl⟩
 have NEu : u ≠ Bx := UB.out
 have X6 : Bk V5 Bx [.slice (some ⟨g21, 0, none⟩) 0 c21] 27 := by
  rw [hV5]
  exact (X2.out.set 0 _).of_eq (heap_setCell_other _ ⟨u, 4, none⟩ Bx _ (fun e => NEu e.symm))
 have D6 : Bk V5 u [.int .u8 (bI b0), .int .u8 (bI b1), .int .u8 (bI b2), .int .u8 (bI b3), .int .i64 0] 116 := by
  rw [hV5]
  exact (D2.out.of_eq (heap_setCell_other _ ⟨Bx, 0, none⟩ u _ NEu)).set 4 _
 have M6 : Mv [u] W V5 := by
  rw [hV5]
  have m1 : Mv [] W V1 := Mv.below B2.out
  exact (m1.trans (F1 := [Bx]) (Mv.set (F := [Bx]) V1 (by simp)) (by intro b hb; rw [List.mem_singleton.1 hb]; exact Or.inr hB5) |> fun m => (⟨m.os, m.tape, m.output, m.size, fun k hk _ => m.blk k hk (by simp)⟩ : Mv [u] W _)).trans (F1 := [u]) (Mv.set (F := [u]) _ (by simp)) (by intro b hb; exact Or.inl hb)
 have j6 := X6.c 0 _ rfl
 have FIN : Hid (DecAt V5 u k ∧ Mv [u] W V5) := Lib.hid ⟨⟨b0, b1, b2, b3, by rw [← HN.out]; exact D6, by rw [← HN.out]; omega, HT.out _ _ _ _⟩, M6⟩
 have HV5 := Lib.hid hV5
 clear X6 D6 M6 X2 D2 B2 O2 hB5 NE HT KL NW HN HZ HK0 hV5
 go_wp2_with (at_builtin; refine wpList_append_run rfl (.tmp 22) (.tmp 23) 27 27 rfl _ _ _ _ rfl rfl (AZ.out _) ?_)
 rw [← HV5.out]
 go_wp2_with fail
 go_loopw [6] (fun s6 wr => s6 = .slice none 0 0 ∧ wr = V5) (fun _ _ => 0)
 case atStart => exact ⟨rfl, rfl⟩
 case round =>
  obtain ⟨rfl, rfl⟩ := hrel
  go_wp2_with fail
  go_ret
  exact ⟨⟨_, rfl⟩, FIN.out⟩
end
end Go.Proofs.YtmaofighbpnbiaaGreatDoor
/- The law's side and counted; bytes that a law is handed. -/
namespace Go.Proofs.YtmaofighbpnbiaaGreatDoor
open Go Go.RowKit Go.Sort
set_option linter.unusedVariables false
set_option linter.unusedSimpArgs false
section
structure ArgB (W : World) (A : Option Addr) (c : Nat) (D : List Int) : Prop where
 cap : D.length ≤ c
 rng : ∀ b ∈ D, 0 ≤ b ∧ b < 256
 sees : Sees W W.heap.size A (D.map (.int .u8))
theorem ArgB.fed {W V : World} {A : Option Addr} {c : Nat} {D : List Int} {F : List Nat} (h : ArgB W A c D) (hb : Below W.heap.size W V) (hF : ∀ b ∈ F, W.heap.size ≤ b) : FedAt V F A D := FedAt.old (B := W.heap.size) (fun k hk => by
 obtain ⟨ad, e, h1, h2⟩ := h.sees.at (k := k) (by simpa using hk)
 refine ⟨ad, e, h1, (hb.cell (by rw [add_blk]; exact h1)).trans ?_⟩
 rw [h2]
 simp [List.getD_eq_getElem?_getD, List.getElem?_eq_getElem hk]) hb.size hF
theorem St.fromN {W V : World} {nb : Nat} {t : Trm} (h : St W [] nb t V) : ∃ F, St V F nb t V ∧ (∀ t' W', St V F nb t' W' → St W [] nb t' W') ∧ ∀ b ∈ F, W.heap.size ≤ b := by
 obtain ⟨L, e, T, hf⟩ := h.lay
 have new : ∀ b ∈ L.fp, W.heap.size ≤ b := fun b m => (hf b m).elim (fun z => by simp at z) id
 have nv : ∀ b ∈ L.fp, NotV b := fun b hb => by
  have z := new b hb
  have a := block_lt_of_cell (h.g0.st.on 0 (by decide))
  have c := block_lt_of_cell (h.g0.st.off 0 (by decide))
  have d := h.g0.pg
  simp only at a c
  exact ⟨by omega, by omega, by omega⟩
 refine ⟨L.fp, ⟨h.env, Mv.refl _ _, nv, L, e, T, fun b hb => Or.inl hb⟩, fun t' W' k => ?_, new⟩
 obtain ⟨L', e', T', hf'⟩ := k.lay
 exact ⟨h.g0, h.mv.trans k.mv (fun b m => Or.inr (new b m)), h.ng, L', e', T', fun b hb => (hf' b hb).elim (fun m => Or.inr (new b m)) (fun z => Or.inr (Nat.le_trans h.mv.size z))⟩
theorem arg_feed {W V : World} {nb : Nat} {t : Trm} {A : Option Addr} {c : Nat} {D : List Int} (h : ArgB W A c D) (S : St W [] nb t V) (Lv : Live t) (hD : D.length ≤ 1048576) (hh : t.held.size + D.length ≤ 300000000) :
  Calls Tryz.prog 27 #[.pointer (some ⟨nb, 0, none⟩), .slice A D.length c] V fun e w' => e = .returned (.int .i64 0) ∧ St W [] nb (feedT t D) w' := by
 obtain ⟨F, h1, up, hF⟩ := S.fromN
 refine (t_Feed h1 Lv A c D hD hh h.rng (h.fed (old_mv S.mv) hF)).mono ?_
 rintro e w' ⟨h2, h3⟩
 exact ⟨h2, up _ _ h3⟩
theorem add_add (a : Addr) (m n : Nat) : (a.add m).add n = a.add (m + n) := by
 unfold Addr.add
 by_cases hm : m = 0
 ·subst hm; simp
 ·by_cases hn : n = 0
  ·subst hn; simp
  ·have : ¬ m + n = 0 := by omega
   simp [hm, hn, this, Nat.add_assoc]
end
end Go.Proofs.YtmaofighbpnbiaaGreatDoor
/- A terminal is cloned. -/
namespace Go.Proofs.YtmaofighbpnbiaaGreatDoor
open Go Go.RowKit Go.Sort
set_option linter.unusedVariables false
set_option linter.unusedSimpArgs false
section
variable {w0 : World} {F0 : List Nat} {tb : Nat} {t t' : Trm} {W W' : World}
structure Cn (W : World) (nb : Nat) (t : Trm) (L : Lay) (V : World) : Prop where
 bel : Below W.heap.size W V
 own : Bk V nb (trmV t L) 104
 ge : W.heap.size ≤ nb
theorem Cn.below {V V' : World} {nb : Nat} {L : Lay} (h : Cn W nb t L V) (hb : Below V.heap.size V V') : Cn W nb t L V' := ⟨h.bel.trans (hb.mono h.bel.size), h.own.of_eq (hb.block nb h.own.lt), h.ge⟩
theorem Cn.set {V : World} {nb : Nat} {L L' : Lay} (h : Cn W nb t L V) (i : Nat) (v : Value) (e : (trmV t L).set i v = trmV t L') : Cn W nb t L' (V.setCell ⟨nb, i, none⟩ v) := ⟨h.bel.setCell (p := ⟨nb, i, none⟩) h.ge v, by rw [← e]; exact h.own.set i v, h.ge⟩
theorem NewRow.far {V : World} {nb i sz n : Nat} {T : TypeId} {v y : Value} {xs : List Value} (h : NewRow (nb + 1) T sz v n xs V) : NewRow (nb + 1) T sz v n xs (V.setCell ⟨nb, i, none⟩ y) := ⟨h.1.keep (fun g m => heap_setCell_other V ⟨nb, i, none⟩ g y (fun e => by have := h.2 g m; simp only at e; omega)), h.2⟩
theorem NewKept.far {V : World} {nb i : Nat} {v y : Value} {s : ByteArray} (h : NewKept (nb + 1) v s V) : NewKept (nb + 1) v s (V.setCell ⟨nb, i, none⟩ y) := ⟨h.1.keep (fun g m => heap_setCell_other V ⟨nb, i, none⟩ g y (fun e => by have := h.2 g m; simp only at e; omega)), h.2⟩
theorem NewRow.up {V : World} {B nb sz n : Nat} {T : TypeId} {v : Value} {xs : List Value} (h : NewRow B T sz v n xs V) (hb : nb < B) : NewRow (nb + 1) T sz v n xs V := ⟨h.1, fun g m => by have := h.2 g m; omega⟩
theorem NewKept.up {V : World} {B nb : Nat} {v : Value} {s : ByteArray} (h : NewKept B v s V) (hb : nb < B) : NewKept (nb + 1) v s V := ⟨h.1, fun g m => by have := h.2 g m; omega⟩
structure P4 (W : World) (nb : Nat) (t : Trm) (L : Lay) (V : World) : Prop where
 cn : Cn W nb t L V
 c : NewRow (nb + 1) 79 5 L.c t.cells.length (celsV t.cells) V
 a : NewRow (nb + 1) 79 5 L.a t.away.length (celsV t.away) V
 ca : ∀ g ∈ ob L.c, g ∉ ob L.a
structure P5 (W : World) (nb : Nat) (t : Trm) (L : Lay) (V : World) : Prop where
 p : P4 W nb t L V
 s : NewRow (nb + 1) 4 1 L.s t.stops.length (boolsV t.stops) V
 w : NewRow (nb + 1) 4 1 L.w t.wrt.length (boolsV t.wrt) V
 sw : ∀ g ∈ ob L.s, g ∉ ob L.w
structure P6 (W : World) (nb : Nat) (t : Trm) (L : Lay) (V : World) : Prop where
 p : P5 W nb t L V
 r : NewKept (nb + 1) L.r t.reps V
 h : NewKept (nb + 1) L.h t.held V
 k : NewKept (nb + 1) L.k t.kept V
 rh : ∀ g ∈ ob L.r, g ∉ ob L.h
 rk : ∀ g ∈ ob L.r, g ∉ ob L.k
 hk : ∀ g ∈ ob L.h, g ∉ ob L.k
theorem P4.below {V V' : World} {nb : Nat} {L : Lay} (h : P4 W nb t L V) (hb : Below V.heap.size V V') : P4 W nb t L V' := ⟨h.cn.below hb, h.c.below hb, h.a.below hb, h.ca⟩
theorem P5.below {V V' : World} {nb : Nat} {L : Lay} (h : P5 W nb t L V) (hb : Below V.heap.size V V') : P5 W nb t L V' := ⟨h.p.below hb, h.s.below hb, h.w.below hb, h.sw⟩
theorem P6.below {V V' : World} {nb : Nat} {L : Lay} (h : P6 W nb t L V) (hb : Below V.heap.size V V') : P6 W nb t L V' := ⟨h.p.below hb, h.r.below hb, h.h.below hb, h.k.below hb, h.rh, h.rk, h.hk⟩
theorem P4.set {V : World} {nb : Nat} {L L' : Lay} (h : P4 W nb t L V) (i : Nat) (v : Value) (e : (trmV t L).set i v = trmV t L') (ec : L'.c = L.c) (ea : L'.a = L.a) : P4 W nb t L' (V.setCell ⟨nb, i, none⟩ v) := ⟨h.cn.set i v e, by rw [ec]; exact h.c.far, by rw [ea]; exact h.a.far, by rw [ec, ea]; exact h.ca⟩
theorem P5.set {V : World} {nb : Nat} {L L' : Lay} (h : P5 W nb t L V) (i : Nat) (v : Value) (e : (trmV t L).set i v = trmV t L') (ec : L'.c = L.c) (ea : L'.a = L.a) (es : L'.s = L.s) (ew : L'.w = L.w) : P5 W nb t L' (V.setCell ⟨nb, i, none⟩ v) := ⟨h.p.set i v e ec ea, by rw [es]; exact h.s.far, by rw [ew]; exact h.w.far, by rw [es, ew]; exact h.sw⟩
theorem new_apart {V V' : World} {v1 v2 : Value} (h1 : ∀ g ∈ ob v1, g < V.heap.size) (h2 : ∀ g ∈ ob v2, V.heap.size ≤ g) : ∀ g ∈ ob v1, g ∉ ob v2 := fun g m m2 => by have := h1 g m; have := h2 g m2; omega
theorem P6.set {V : World} {nb : Nat} {L L' : Lay} (h : P6 W nb t L V) (i : Nat) (v : Value) (e : (trmV t L).set i v = trmV t L') (ec : L'.c = L.c) (ea : L'.a = L.a) (es : L'.s = L.s) (ew : L'.w = L.w) (er : L'.r = L.r) (eh : L'.h = L.h) (ek : L'.k = L.k) : P6 W nb t L' (V.setCell ⟨nb, i, none⟩ v) := ⟨h.p.set i v e ec ea es ew, by rw [er]; exact h.r.far, by rw [eh]; exact h.h.far, by rw [ek]; exact h.k.far, by rw [er, eh]; exact h.rh, by rw [er, ek]; exact h.rk, by rw [eh, ek]; exact h.hk⟩
theorem d_FeedKept (u : Nat) (A : Option Addr) (n c : Nat) (k : ByteArray) (hn : n = k.size) (ko : KeptOk k) (V : World) (hd : DecAt V u zB) (K : KeptAt V (.slice A n c) k) : Calls Tryz.prog 65 #[.pointer (some ⟨u, 0, none⟩), .slice A n c] V fun e w' => (∃ v, e = .returned v) ∧ DecAt w' u k ∧ Mv [u] V w' := by
 rcases ko with z | o
 ·subst z
  have n0 : n = 0 := hn
  subst n0
  exact d_Feed0 u A c V hd
 ·have p := open_pos o
  have p3 := open_size o
  obtain ⟨A', c', ec, h1, hm, h2, h3⟩ := K
  simp only [Value.slice.injEq] at ec
  obtain ⟨rfl, _, rfl⟩ := ec
  obtain ⟨g, o', cur, rfl, hg, hc, hs⟩ := h3 (by omega)
  have e0 : zB ++ k = k := by apply ByteArray.ext; simp [ByteArray.data_append]; rfl
  have cb : certB k = ([], k) := by
   unfold certB
   obtain ⟨m, hm'⟩ : ∃ m, k.size = m + 1 := ⟨k.size - 1, by omega⟩
   rw [hm', certF, if_neg (by omega), if_pos o]
  have F := d_Feed u zB k ⟨g, o', none⟩ c V hd (by show 0 + k.size ≤ 4; omega) (by omega) (fun hne => ⟨_, rfl, (Array.getElem?_eq_some_iff.1 hg).1, fun j x hj => by
   rw [add_at]
   have := cells_at hg hs j x hj
   rw [add_at] at this
   exact this⟩) p
  rw [hn]
  refine F.mono ?_
  rintro e w' ⟨v, h4, _, h5, h6⟩
  rw [e0, cb] at h5
  exact ⟨⟨v, h4⟩, h5, h6⟩
theorem P6.done {V6 V7 w' : World} {nb : Nat} {L : Lay} (E : EnvV W) (h : P6 W nb t L V6) (e7 : V7 = (V6.alloc (.cells #[.int .u8 0, .int .u8 0, .int .u8 0, .int .u8 0, .int .i64 0] 116)).setCell ⟨nb, 30, none⟩ (.pointer (some ⟨V6.heap.size, 0, none⟩))) (D : DecAt w' V6.heap.size t.kept) (m : Mv [V6.heap.size] V7 w') : St W [] nb t w' := by
 have hb := (Below.refl _ V6).alloc (Nat.le_refl _) (.cells #[.int .u8 0, .int .u8 0, .int .u8 0, .int .u8 0, .int .i64 0] 116)
 have h7 : P6 W nb t { L with u := V6.heap.size } V7 := by
  rw [e7]
  exact (h.below hb).set 30 _ rfl rfl rfl rfl rfl rfl rfl rfl
 have sz : V7.heap.size = V6.heap.size + 1 := by rw [e7]; simp
 have kp : ∀ g, g < V6.heap.size → w'.heap[g]? = V7.heap[g]? := fun g lt => m.blk g (by omega) (by simp; omega)
 have ge := h.p.p.cn.ge
 have s6 := h.p.p.cn.bel.size
 refine ⟨E, Mv.below (m.old h7.p.p.cn.bel (by intro b hb; rw [List.mem_singleton.1 hb]; exact s6)), by simp, { L with b := nb, u := V6.heap.size }, rfl, ?_, fun g mg => Or.inr ?_⟩
 ·exact ⟨h7.p.p.cn.own.of_eq (kp _ h.p.p.cn.own.lt), D, h7.p.p.c.1.keep (fun g mg => kp g (h.p.p.c.1.lt g mg)), h7.p.p.a.1.keep (fun g mg => kp g (h.p.p.a.1.lt g mg)), h7.p.s.1.keep (fun g mg => kp g (h.p.s.1.lt g mg)), h7.p.w.1.keep (fun g mg => kp g (h.p.w.1.lt g mg)),
   h7.r.1.keep (fun g mg => kp g (h.r.1.lt g mg)), h7.h.1.keep (fun g mg => kp g (h.h.1.lt g mg)), h7.k.1.keep (fun g mg => kp g (h.k.1.lt g mg)), h.p.p.ca, h.p.sw, h.rh, h.rk, h.hk⟩
 ·rcases Lay.mem.1 mg with z | z | z | z | z | z | z | z | z
  ·rw [z]; exact ge
  ·rw [z]; exact s6
  ·have := h.p.p.c.2 g z; omega
  ·have := h.p.p.a.2 g z; omega
  ·have := h.p.s.2 g z; omega
  ·have := h.p.w.2 g z; omega
  ·have := h.r.2 g z; omega
  ·have := h.h.2 g z; omega
  ·have := h.k.2 g z; omega
set_option maxHeartbeats 8000000 in
set_option maxRecDepth 100000 in
theorem t_Clone (h : St w0 F0 tb t W) (f : Fine t) (ko : KeptOk t.kept) (hr : t.reps.size ≤ 65536) (hh : t.held.size ≤ 300000000) : Calls Tryz.prog 54 #[.pointer (some ⟨tb, 0, none⟩)] W fun e w' => ∃ nb, e = .returned (.pointer (some ⟨nb, 0, none⟩)) ∧ St W [] nb t w' := by
  obtain ⟨⟨Lb, Lu, Lc, La, Ls, Lw, Lr, Lh, Lk⟩, eb, T, _⟩ := h.lay
  dsimp only at eb
  subst eb
  obtain ⟨A1, c1, e1⟩ := T.c.asSlice
  obtain ⟨A2, c2, e2⟩ := T.a.asSlice
  obtain ⟨A3, c3, e3⟩ := T.s.asSlice
  obtain ⟨A4, c4, e4⟩ := T.w.asSlice
  obtain ⟨A5, c5, e5, q5⟩ := id T.r
  obtain ⟨A6, c6, e6, q6⟩ := id T.h
  obtain ⟨A7, c7, e7, q7⟩ := id T.k
  dsimp only at e1 e2 e3 e4 e5 e6 e7
  subst e1 e2 e3 e4 e5 e6 e7
  clear q5 q6 q7
  have cl : t.cells.length ≤ 1048576 := by have := f.cl; have := f.ar; omega
  have al : t.away.length ≤ 1048576 := by have := f.al; have := f.ar; omega
  have wl : t.wrt.length ≤ 1048576 := by have := f.wl; have := f.cl; have := f.ar; omega
  have sl : t.stops.length ≤ 1048576 := by have := f.sl; have := f.w1; omega
  have kl := kept_size ko
  obtain ⟨n1, hn1⟩ : ∃ n, n = t.cells.length := ⟨_, rfl⟩
  obtain ⟨n2, hn2⟩ : ∃ n, n = t.away.length := ⟨_, rfl⟩
  obtain ⟨n3, hn3⟩ : ∃ n, n = t.stops.length := ⟨_, rfl⟩
  obtain ⟨n4, hn4⟩ : ∃ n, n = t.wrt.length := ⟨_, rfl⟩
  obtain ⟨n5, hn5⟩ : ∃ n, n = t.reps.size := ⟨_, rfl⟩
  obtain ⟨n6, hn6⟩ : ∃ n, n = t.held.size := ⟨_, rfl⟩
  obtain ⟨n7, hn7⟩ : ∃ n, n = t.kept.size := ⟨_, rfl⟩
  have TX : Hid (∀ X, Below W.heap.size W X → TrmAt X ⟨Lb, Lu, .slice A1 t.cells.length c1, .slice A2 t.away.length c2, .slice A3 t.stops.length c3, .slice A4 t.wrt.length c4, .slice A5 t.reps.size c5, .slice A6 t.held.size c6, .slice A7 t.kept.size c7⟩ t) := Lib.hid (fun X hb => T.keep (fun g m => hb.block g (T.lt g m)))
  have C1 : Hid (∀ X, Below W.heap.size W X → Calls Tryz.prog 60 #[.slice A1 n1 c1] X fun e w' => ∃ v, e = .returned v ∧ NewRow X.heap.size 79 5 v t.cells.length (celsV t.cells) w' ∧ Below X.heap.size X w') := Lib.hid (fun X hb => by rw [hn1]; exact d_CloneC A1 t.cells c1 X (TX.out X hb).c cl)
  have C2 : Hid (∀ X, Below W.heap.size W X → Calls Tryz.prog 60 #[.slice A2 n2 c2] X fun e w' => ∃ v, e = .returned v ∧ NewRow X.heap.size 79 5 v t.away.length (celsV t.away) w' ∧ Below X.heap.size X w') := Lib.hid (fun X hb => by rw [hn2]; exact d_CloneC A2 t.away c2 X (TX.out X hb).a al)
  have C3 : Hid (∀ X, Below W.heap.size W X → Calls Tryz.prog 63 #[.slice A3 n3 c3] X fun e w' => ∃ v, e = .returned v ∧ NewRow X.heap.size 4 1 v t.stops.length (boolsV t.stops) w' ∧ Below X.heap.size X w') := Lib.hid (fun X hb => by rw [hn3]; exact d_CloneO A3 t.stops c3 X (TX.out X hb).s sl)
  have C4 : Hid (∀ X, Below W.heap.size W X → Calls Tryz.prog 63 #[.slice A4 n4 c4] X fun e w' => ∃ v, e = .returned v ∧ NewRow X.heap.size 4 1 v t.wrt.length (boolsV t.wrt) w' ∧ Below X.heap.size X w') := Lib.hid (fun X hb => by rw [hn4]; exact d_CloneO A4 t.wrt c4 X (TX.out X hb).w wl)
  have C5 : Hid (∀ X, Below W.heap.size W X → Calls Tryz.prog 64 #[.slice A5 n5 c5] X fun e w' => ∃ v, e = .returned v ∧ NewKept X.heap.size v t.reps w' ∧ Below X.heap.size X w') := Lib.hid (fun X hb => d_CloneB A5 t.reps n5 c5 hn5 X (TX.out X hb).r (by omega))
  have C6 : Hid (∀ X, Below W.heap.size W X → Calls Tryz.prog 64 #[.slice A6 n6 c6] X fun e w' => ∃ v, e = .returned v ∧ NewKept X.heap.size v t.held w' ∧ Below X.heap.size X w') := Lib.hid (fun X hb => d_CloneB A6 t.held n6 c6 hn6 X (TX.out X hb).h (by omega))
  have C7 : Hid (∀ X, Below W.heap.size W X → Calls Tryz.prog 64 #[.slice A7 n7 c7] X fun e w' => ∃ v, e = .returned v ∧ NewKept X.heap.size v t.kept w' ∧ Below X.heap.size X w') := Lib.hid (fun X hb => d_CloneB A7 t.kept n7 c7 hn7 X (TX.out X hb).k (by omega))
  obtain ⟨L0, hL0⟩ : ∃ L0 : Lay, L0 = ⟨Lb, Lu, .slice A1 t.cells.length c1, .slice A2 t.away.length c2, .slice A3 t.stops.length c3, .slice A4 t.wrt.length c4, .slice A5 t.reps.size c5, .slice A6 t.held.size c6, .slice A7 t.kept.size c7⟩ := ⟨_, rfl⟩
  have LD : Hid (∀ X, Below W.heap.size W X → X.cell? ⟨Lb, 2, none⟩ = some (.slice A1 n1 c1) ∧ X.cell? ⟨Lb, 9, none⟩ = some (.slice A2 n2 c2) ∧ X.cell? ⟨Lb, 23, none⟩ = some (.slice A3 n3 c3) ∧ X.cell? ⟨Lb, 27, none⟩ = some (.slice A4 n4 c4) ∧ X.cell? ⟨Lb, 26, none⟩ = some (.slice A5 n5 c5) ∧ X.cell? ⟨Lb, 29, none⟩ = some (.slice A6 n6 c6) ∧ X.cell? ⟨Lb, 31, none⟩ = some (.slice A7 n7 c7)) := Lib.hid (fun X hb => by
    have B := (TX.out X hb).own
    rw [hn1, hn2, hn3, hn4, hn5, hn6, hn7]
    exact ⟨B.c 2 _ rfl, B.c 9 _ rfl, B.c 23 _ rfl, B.c 27 _ rfl, B.c 26 _ rfl, B.c 29 _ rfl, B.c 31 _ rfl⟩)
  obtain ⟨cs, hc⟩ : ∃ cs, cs = (trmV t L0).toArray := ⟨_, rfl⟩
  have GN : Hid (W.heap[Lb]? = some (.cells cs 104 (0, 0))) := Lib.hid (by rw [hc, hL0]; exact T.own)
  have IH : Hid ((Tryz.prog.info? 104).map (·.size) = some cs.size) := Lib.hid (by rw [hc, hL0]; exact infoTrm)
  have H1 : Hid (cs.all (·.oneCell') = true) := Lib.hid (by rw [hc, hL0]; simp [trmV, Value.oneCell'])
  have HC := Lib.hid hc
  have EW := Lib.hid h.env
  have KO := Lib.hid ko
  have HS7 : Hid (n7 = t.kept.size) := Lib.hid hn7
  clear hc hL0 h T cl al wl sl kl ko hr hh f hn1 hn2 hn3 hn4 hn5 hn6 hn7
  go_enter Tryz.func54, Tryz.ntmps54
  go_upto_region 4 with (first | (refine wpList_load_row rfl 104 (.tmp 7) rfl Lb rfl 104 cs (0, 0) _ GN.out Tryz.underlying104 rfl IH.out ?_) | (refine wpList_store_row rfl 104 (.tmp 3) (.tmp 8) rfl _ cs rfl rfl 104 _ (World.alloc_heap_new W _) IH.out (by rw [HC.out]; rfl) H1.out ?_))
  obtain ⟨V1, hV1⟩ : ∃ V1, V1 = (W.alloc (.cells #[.int .i64 0, .int .i64 0, .slice none 0 0, .int .i64 0, .int .i64 0, .int .i32 0, .int .i32 0, .int .u8 0, .bool false, .slice none 0 0, .int .i64 0, .int .i64 0, .int .i32 0, .int .i32 0, .int .u8 0, .bool false, .bool false, .bool false, .bool false, .bool false, .bool false, .int .i64 0, .int .i64 0, .slice none 0 0, .int .i64 0, .string ⟨#[]⟩, .slice none 0 0, .slice none 0 0, .int .i8 0, .slice none 0 0, .pointer none, .slice none 0 0] 104)).setRow W.heap.size cs := ⟨_, rfl⟩
  obtain ⟨nb, hnb⟩ : ∃ nb, nb = W.heap.size := ⟨_, rfl⟩
  have Q1 : Cn W nb t L0 V1 := by
    rw [hV1, hnb]
    refine ⟨?_, ?_, Nat.le_refl _⟩
    · have b1 := (Below.refl _ W).alloc (Nat.le_refl _) (.cells #[.int .i64 0, .int .i64 0, .slice none 0 0, .int .i64 0, .int .i64 0, .int .i32 0, .int .i32 0, .int .u8 0, .bool false, .slice none 0 0, .int .i64 0, .int .i64 0, .int .i32 0, .int .i32 0, .int .u8 0, .bool false, .bool false, .bool false, .bool false, .bool false, .bool false, .int .i64 0, .int .i64 0, .slice none 0 0, .int .i64 0, .string ⟨#[]⟩, .slice none 0 0, .slice none 0 0, .int .i8 0, .slice none 0 0, .pointer none, .slice none 0 0] 104)
      exact ⟨b1.os, b1.tape, b1.output, by simp, fun k hk => (setRow_other _ _ _ _ (by omega)).trans (b1.block k hk)⟩
    · have := setRow_heap _ W.heap.size _ cs _ _ (World.alloc_heap_new W (.cells #[.int .i64 0, .int .i64 0, .slice none 0 0, .int .i64 0, .int .i64 0, .int .i32 0, .int .i32 0, .int .u8 0, .bool false, .slice none 0 0, .int .i64 0, .int .i64 0, .int .i32 0, .int .i32 0, .int .u8 0, .bool false, .bool false, .bool false, .bool false, .bool false, .bool false, .int .i64 0, .int .i64 0, .slice none 0 0, .int .i64 0, .string ⟨#[]⟩, .slice none 0 0, .slice none 0 0, .int .i8 0, .slice none 0 0, .pointer none, .slice none 0 0] 104))
      rw [HC.out] at this ⊢
      exact this
  rw [← hV1, ← hnb]
  have Q1 := Lib.hid Q1
  clear hV1 GN IH H1 hnb
  go_simp
  go_cut [] from 9 to 22 (fun wx => ∃ v1 v2, Hid (P4 W nb t { L0 with c := v1, a := v2 } wx))
  case first =>
    have CN := Lib.hid (Q1.out.below (Below.refl _ V1).drew)
    have l2 := (LD.out _ CN.out.bel).1
    have l9 := (LD.out _ CN.out.bel).2.1
    go_region_with (first
      | (go_at_call_of 60 (A1); refine (C1.out _ CN.out.bel).mono ?_; rintro e u1 ⟨v1, rfl, N1, hb⟩; obtain ⟨Bv1, dv1, ev1⟩ := N1.1.asSlice; subst ev1; have N1 := Lib.hid (N1.up CN.out.own.lt); have CN := Lib.hid (CN.out.below hb); clear hb; have l9 := (LD.out _ CN.out.bel).2.1; have k2 := CN.out.own.c 2 _ rfl; have f2 := CN.out.own.f 2)
      | (go_at_call_of 60 (A2); refine (C2.out _ CN.out.bel).mono ?_; rintro e u2 ⟨v2, rfl, N2, hb⟩; obtain ⟨Bv2, dv2, ev2⟩ := N2.1.asSlice; subst ev2; have DJ := Lib.hid (new_apart (V' := u2) N1.out.1.lt N2.2); have N1 := Lib.hid (N1.out.below hb); have N2 := Lib.hid (N2.up CN.out.own.lt); have CN := Lib.hid (CN.out.below hb); clear hb; have k2 := CN.out.own.c 2 _ rfl; have f2 := CN.out.own.f 2; have k9 := CN.out.own.c 9 _ rfl; have f9 := CN.out.own.f 9))
    all_goals (go_wp2_with fail)
    all_goals go_meet
    all_goals exact ⟨.slice Bv1 t.cells.length dv1, .slice Bv2 t.away.length dv2, Lib.hid ⟨(CN.out.set (L' := { L0 with c := .slice Bv1 t.cells.length dv1 }) 2 _ rfl).set 9 _ rfl, N1.out.far.far, N2.out.far.far, DJ.out⟩⟩
  case rest =>
    obtain ⟨v1, v2, Q4⟩ := hcut
    obtain ⟨w4, hw4⟩ : ∃ w4, w4 = wc := ⟨_, rfl⟩
    subst hw4
    obtain ⟨L4, hL4⟩ : ∃ L4, L4 = ({ L0 with c := v1, a := v2 } : Lay) := ⟨_, rfl⟩
    rw [← hL4] at Q4
    clear Q1 hL4 C1 C2
    go_upto_region 5 with fail
    go_cut [] from 23 to 34 (fun wx => ∃ v3 v4, Hid (P5 W nb t { L4 with s := v3, w := v4 } wx))
    case first =>
      have CN := Lib.hid (Q4.out.below (Below.refl _ w4).drew)
      have l23 := (LD.out _ CN.out.cn.bel).2.2.1
      have l27 := (LD.out _ CN.out.cn.bel).2.2.2.1
      go_region_with (first
        | (go_at_call_of 63 (A3); refine (C3.out _ CN.out.cn.bel).mono ?_; rintro e u1 ⟨v3, rfl, N3, hb⟩; obtain ⟨Bv3, dv3, ev3⟩ := N3.1.asSlice; subst ev3; have N3 := Lib.hid (N3.up CN.out.cn.own.lt); have CN := Lib.hid (CN.out.below hb); clear hb; have l27 := (LD.out _ CN.out.cn.bel).2.2.2.1; have k23 := CN.out.cn.own.c 23 _ rfl; have f23 := CN.out.cn.own.f 23)
        | (go_at_call_of 63 (A4); refine (C4.out _ CN.out.cn.bel).mono ?_; rintro e u2 ⟨v4, rfl, N4, hb⟩; obtain ⟨Bv4, dv4, ev4⟩ := N4.1.asSlice; subst ev4; have DJ := Lib.hid (new_apart (V' := u2) N3.out.1.lt N4.2); have N3 := Lib.hid (N3.out.below hb); have N4 := Lib.hid (N4.up CN.out.cn.own.lt); have CN := Lib.hid (CN.out.below hb); clear hb; have k23 := CN.out.cn.own.c 23 _ rfl; have f23 := CN.out.cn.own.f 23; have k27 := CN.out.cn.own.c 27 _ rfl; have f27 := CN.out.cn.own.f 27))
      all_goals (go_wp2_with fail)
      all_goals go_meet
      all_goals exact ⟨.slice Bv3 t.stops.length dv3, .slice Bv4 t.wrt.length dv4, Lib.hid ⟨(CN.out.set (L' := { L4 with s := .slice Bv3 t.stops.length dv3 }) 23 _ rfl rfl rfl).set 27 _ rfl rfl rfl, N3.out.far.far, N4.out.far.far, DJ.out⟩⟩
    case rest =>
      obtain ⟨v3, v4, Q5⟩ := hcut
      obtain ⟨w5, hw5⟩ : ∃ w5, w5 = wc := ⟨_, rfl⟩
      subst hw5
      obtain ⟨L5, hL5⟩ : ∃ L5, L5 = ({ L4 with s := v3, w := v4 } : Lay) := ⟨_, rfl⟩
      rw [← hL5] at Q5
      clear Q4 hL5 C3 C4
      go_upto_region 6 with fail
      go_cut [] from 35 to 52 (fun wx => ∃ v5 v6 v7, Hid (P6 W nb t { L5 with r := v5, h := v6, k := v7 } wx))
      case first =>
        have CN := Lib.hid (Q5.out.below (Below.refl _ w5).drew)
        have l26 := (LD.out _ CN.out.p.cn.bel).2.2.2.2.1
        have l29 := (LD.out _ CN.out.p.cn.bel).2.2.2.2.2.1
        have l31 := (LD.out _ CN.out.p.cn.bel).2.2.2.2.2.2
        go_region_with (first
          | (go_at_call_of 64 (A5); refine (C5.out _ CN.out.p.cn.bel).mono ?_; rintro e u1 ⟨v5, rfl, N5, hb⟩; obtain ⟨Bv5, dv5, ev5, _⟩ := id N5.1; subst ev5; have N5 := Lib.hid (N5.up CN.out.p.cn.own.lt); have CN := Lib.hid (CN.out.below hb); clear hb; have l29 := (LD.out _ CN.out.p.cn.bel).2.2.2.2.2.1; have l31 := (LD.out _ CN.out.p.cn.bel).2.2.2.2.2.2)
          | (go_at_call_of 64 (A6); refine (C6.out _ CN.out.p.cn.bel).mono ?_; rintro e u2 ⟨v6, rfl, N6, hb⟩; obtain ⟨Bv6, dv6, ev6, _⟩ := id N6.1; subst ev6; have DJ56 := Lib.hid (new_apart (V' := u2) N5.out.1.lt N6.2); have N5 := Lib.hid (N5.out.below hb); have N6 := Lib.hid (N6.up CN.out.p.cn.own.lt); have CN := Lib.hid (CN.out.below hb); clear hb; have l31 := (LD.out _ CN.out.p.cn.bel).2.2.2.2.2.2)
          | (go_at_call_of 64 (A7); refine (C7.out _ CN.out.p.cn.bel).mono ?_; rintro e u3 ⟨v7, rfl, N7, hb⟩; obtain ⟨Bv7, dv7, ev7, _⟩ := id N7.1; subst ev7; have DJ57 := Lib.hid (new_apart (V' := u3) N5.out.1.lt N7.2); have DJ67 := Lib.hid (new_apart (V' := u3) N6.out.1.lt N7.2); have N5 := Lib.hid (N5.out.below hb); have N6 := Lib.hid (N6.out.below hb); have N7 := Lib.hid (N7.up CN.out.p.cn.own.lt); have CN := Lib.hid (CN.out.below hb); clear hb
             have k26 := CN.out.p.cn.own.c 26 _ rfl; have f26 := CN.out.p.cn.own.f 26; have k29 := CN.out.p.cn.own.c 29 _ rfl; have f29 := CN.out.p.cn.own.f 29; have k31 := CN.out.p.cn.own.c 31 _ rfl; have f31 := CN.out.p.cn.own.f 31))
        all_goals (go_wp2_with fail)
        all_goals go_meet
        all_goals exact ⟨.slice Bv5 t.reps.size dv5, .slice Bv6 t.held.size dv6, .slice Bv7 t.kept.size dv7, Lib.hid ⟨((CN.out.set (L' := { L5 with r := .slice Bv5 t.reps.size dv5 }) 26 _ rfl rfl rfl rfl rfl).set (L' := { L5 with r := .slice Bv5 t.reps.size dv5, h := .slice Bv6 t.held.size dv6 }) 29 _ rfl rfl rfl rfl rfl).set 31 _ rfl rfl rfl rfl rfl, N5.out.far.far.far, N6.out.far.far.far, N7.out.far.far.far, DJ56.out, DJ57.out, DJ67.out⟩⟩
      case rest =>
        obtain ⟨v5, v6, v7, Q6⟩ := hcut
        obtain ⟨w6, hw6⟩ : ∃ w6, w6 = wc := ⟨_, rfl⟩
        subst hw6
        obtain ⟨L6, hL6⟩ : ∃ L6, L6 = ({ L5 with r := v5, h := v6, k := v7 } : Lay) := ⟨_, rfl⟩
        rw [← hL6] at Q6
        clear Q5 hL6 C5 C6 C7 LD TX
        have UN := Lib.hid (d_uNew w6)
        obtain ⟨A8, c8, e8, q8⟩ := id Q6.out.k.1
        clear q8
        obtain ⟨X6, hX6⟩ : ∃ X6, X6 = w6.alloc (.cells #[.int .u8 0, .int .u8 0, .int .u8 0, .int .u8 0, .int .i64 0] 116) := ⟨_, rfl⟩
        have BX : Below w6.heap.size w6 X6 := by rw [hX6]; exact (Below.refl _ w6).alloc (Nat.le_refl _) _
        have K6 := (Q6.out.below BX).p.p.cn.own
        have k30 := K6.c 30 _ rfl
        have f30 := K6.f 30
        obtain ⟨X7, hX7⟩ : ∃ X7, X7 = X6.setCell ⟨nb, 30, none⟩ (.pointer (some ⟨w6.heap.size, 0, none⟩)) := ⟨_, rfl⟩
        have K7 : Bk X7 nb (trmV t { L6 with u := w6.heap.size }) 104 := by rw [hX7]; exact K6.set 30 _
        have D7 : DecAt X7 w6.heap.size zB := by
          have nlt := Q6.out.p.p.cn.own.lt
          refine ⟨0, 0, 0, 0, ?_, by decide, rfl⟩
          rw [hX7]
          refine Bk.of_eq (W := X6) (by rw [hX6]; exact Bk.new w6 _ _) (heap_setCell_other X6 ⟨nb, 30, none⟩ w6.heap.size _ (by simp only; omega))
        have k30' := K7.c 30 _ rfl
        have k31' := K7.c 31 _ rfl
        rw [show ({ L6 with u := w6.heap.size } : Lay).k = .slice A8 t.kept.size c8 from e8] at k31'
        have KK : KeptAt X7 (.slice A8 t.kept.size c8) t.kept := by
          have := ((Q6.out.below BX).k.far (i := 30) (y := .pointer (some ⟨w6.heap.size, 0, none⟩))).1
          rw [← hX7, e8] at this
          exact this
        have FK := Lib.hid (d_FeedKept w6.heap.size A8 t.kept.size c8 t.kept rfl KO.out X7 D7 KK)
        have HX6 := Lib.hid hX6
        have HX7 := Lib.hid hX7
        have FIN : Hid (∀ w', DecAt w' w6.heap.size t.kept → Mv [w6.heap.size] X7 w' → St W [] nb t w') := Lib.hid (fun w' d m => P6.done EW.out Q6.out (by rw [hX7, hX6]) d m)
        clear Q6 BX K6 K7 D7 KK e8 EW KO hX6 hX7
        go_wp2_with fail
        refine UN.out.mono ?_; rintro e y7 ⟨rfl, ey⟩
        rw [ey, ← HX6.out]
        clear ey
        go_upto_region 8 with fail
        rw [← HX7.out]
        clear k30 f30
        go_wp2_with fail
        refine FK.out.mono ?_; rintro e y8 ⟨⟨vv, rfl⟩, d8, m8⟩
        have SS := Lib.hid (FIN.out y8 d8 m8)
        clear d8 m8
        go_wp2_with fail
        go_ret
        exact ⟨nb, rfl, SS.out⟩
end
end Go.Proofs.YtmaofighbpnbiaaGreatDoor
/- Two terminals side by side. -/
namespace Go.Proofs.YtmaofighbpnbiaaGreatDoor
open Go Go.RowKit Go.Sort
set_option linter.unusedVariables false
set_option linter.unusedSimpArgs false
section
variable {W V V' : World} {xb yb : Nat} {tx ty tx' ty' : Trm}
structure Two (W V : World) (xb : Nat) (tx : Trm) (yb : Nat) (ty : Trm) (Z : List Nat) : Prop where
 g0 : EnvV W
 bel : Below W.heap.size W V
 lay : ∃ L1 L2, L1.b = xb ∧ L2.b = yb ∧ TrmAt V L1 tx ∧ TrmAt V L2 ty ∧ (∀ g ∈ L1.fp, W.heap.size ≤ g) ∧ (∀ g ∈ L2.fp, W.heap.size ≤ g) ∧ (∀ g ∈ L1.fp, g ∉ L2.fp) ∧ ∀ z ∈ Z, z < V.heap.size ∧ z ∉ L1.fp ∧ z ∉ L2.fp
variable {Z : List Nat}
theorem new_notV (E : EnvV W) {b : Nat} (h : W.heap.size ≤ b) : NotV b := by
 have a := block_lt_of_cell (E.st.on 0 (by decide))
 have c := block_lt_of_cell (E.st.off 0 (by decide))
 have d := E.pg
 simp only at a c
 exact ⟨by omega, by omega, by omega⟩
end
section
end
end Go.Proofs.YtmaofighbpnbiaaGreatDoor
/- A herd: terminals that lie apart, each newer than a world. -/
namespace Go.Proofs.YtmaofighbpnbiaaGreatDoor
open Go Go.RowKit Go.Sort
set_option linter.unusedVariables false
set_option linter.unusedSimpArgs false
section
variable {W V V' : World} {T : List (Nat × Trm)} {Z : List Nat}
structure Herd (W V : World) (T : List (Nat × Trm)) (Z : List Nat) : Prop where
 g0 : EnvV W
 bel : Below W.heap.size W V
 lay : ∃ Lf : Nat → Lay, (∀ i p, T[i]? = some p → (Lf i).b = p.1 ∧ TrmAt V (Lf i) p.2 ∧ ∀ g ∈ (Lf i).fp, W.heap.size ≤ g) ∧ (∀ i j, i < T.length → j < T.length → i ≠ j → ∀ g ∈ (Lf i).fp, g ∉ (Lf j).fp) ∧ ∀ z ∈ Z, z < V.heap.size ∧ ∀ i, i < T.length → z ∉ (Lf i).fp
theorem Herd.nil (E : EnvV W) (hb : Below W.heap.size W V) : Herd W V [] [] := ⟨E, hb, fun _ => ⟨0, 0, .bool true, .bool true, .bool true, .bool true, .bool true, .bool true, .bool true⟩, fun i p h => by simp at h, fun i j h => by simp at h, fun z h => by simp at h⟩
theorem Herd.env (h : Herd W V T Z) : EnvV V := h.g0.mv (Mv.below (F := []) h.bel) (by simp)
theorem Herd.below (h : Herd W V T Z) (hb : Below V.heap.size V V') : Herd W V' T Z := by
 obtain ⟨Lf, a, d, z⟩ := h.lay
 refine ⟨h.g0, h.bel.trans (hb.mono h.bel.size), Lf, fun i p hi => ?_, d, fun k m => ⟨Nat.lt_of_lt_of_le (z k m).1 hb.size, (z k m).2⟩⟩
 obtain ⟨e1, e2, e3⟩ := a i p hi
 exact ⟨e1, e2.keep (fun k m => hb.block k (e2.lt k m)), e3⟩
theorem Herd.drop (h : Herd W V T Z) : Herd W V T [] := by
 obtain ⟨Lf, a, d, z⟩ := h.lay
 exact ⟨h.g0, h.bel, Lf, a, d, fun z m => by simp at m⟩
theorem Herd.atAt (h : Herd W V T Z) (hb : Below V.heap.size V V') {i b : Nat} {t : Trm} (hi : T[i]? = some (b, t)) : ∃ F, St V' F b t V' ∧ (∀ t' V'', St V' F b t' V'' → Herd W V'' (T.set i (b, t')) Z ∧ ∀ z ∈ Z, V''.heap[z]? = V'.heap[z]?) ∧ (∀ b ∈ F, W.heap.size ≤ b) ∧ ∀ b ∈ F, b < V.heap.size := by
 have h2 := h.below hb
 obtain ⟨Lf, a, d, z⟩ := h.lay
 have il : i < T.length := (List.getElem?_eq_some_iff.1 hi).1
 obtain ⟨e1, T0, n1⟩ := a i _ hi
 have T1 := T0.keep (fun k m => hb.block k (T0.lt k m))
 have zz : ∀ k ∈ Z, k < V'.heap.size := fun k m => Nat.lt_of_lt_of_le (z k m).1 hb.size
 refine ⟨(Lf i).fp, ⟨h2.env, Mv.refl _ _, fun b m => new_notV h2.g0 (n1 b m), Lf i, e1, T1, fun b m => Or.inl m⟩, fun t' V'' k => ⟨?_, fun j m => k.mv.blk j (zz j m) ((z j m).2 i il)⟩, n1, T0.lt⟩
 obtain ⟨L', e', T', f'⟩ := k.lay
 have old : ∀ j, j < V'.heap.size → j ∈ L'.fp → j ∈ (Lf i).fp := fun j lt m => (f' j m).elim id (fun q => by omega)
 refine ⟨h2.g0, ⟨k.mv.os.trans h2.bel.os, k.mv.tape.trans h2.bel.tape, k.mv.output.trans h2.bel.output, Nat.le_trans h2.bel.size k.mv.size, fun j hj => (k.mv.blk j (Nat.lt_of_lt_of_le hj h2.bel.size) (fun m => by have := n1 j m; omega)).trans (h2.bel.block j hj)⟩, fun j => if j = i then L' else Lf j, fun j p hj => ?_, fun j l hj hl ne => ?_, fun j m => ⟨Nat.lt_of_lt_of_le (zz j m) k.mv.size, fun l hl => ?_⟩⟩
 ·dsimp only
  by_cases e : j = i
  ·subst e
   rw [List.getElem?_set_self il] at hj
   cases hj
   rw [if_pos rfl]
   exact ⟨e', T', fun g m => (f' g m).elim (n1 g) (fun q => Nat.le_trans h2.bel.size q)⟩
  ·rw [List.getElem?_set_ne (fun q => e q.symm)] at hj
   rw [if_neg e]
   obtain ⟨q1, q2, q3⟩ := a j p hj
   have jl : j < T.length := (List.getElem?_eq_some_iff.1 hj).1
   have q2' := q2.keep (fun k m => hb.block k (q2.lt k m))
   exact ⟨q1, q2'.keep (fun g m => k.mv.blk g (q2'.lt g m) (fun m2 => d j i jl il e g m m2)), q3⟩
 ·rw [List.length_set] at hj hl
  have lo : ∀ x, x < T.length → ∀ g ∈ (Lf x).fp, g < V'.heap.size := fun x hx g m => by
   obtain ⟨_, q2, _⟩ := a x T[x] (List.getElem?_eq_getElem hx)
   exact Nat.lt_of_lt_of_le (q2.lt g m) hb.size
  intro g m m2
  dsimp only at m m2
  by_cases e : j = i
  ·subst e
   rw [if_pos rfl] at m
   rw [if_neg (fun q => ne q.symm)] at m2
   exact d j l hj hl ne g (old g (lo l hl g m2) m) m2
  ·rw [if_neg e] at m
   by_cases e2 : l = i
   ·subst e2
    rw [if_pos rfl] at m2
    exact d j l hj hl e g m (old g (lo j hj g m) m2)
   ·rw [if_neg e2] at m2
    exact d j l hj hl ne g m m2
 ·rw [List.length_set] at hl
  intro m2
  dsimp only at m2
  by_cases e : l = i
  ·subst e
   rw [if_pos rfl] at m2
   exact (z j m).2 l hl (old j (zz j m) m2)
  ·rw [if_neg e] at m2
   exact (z j m).2 l hl m2
theorem Herd.at (h : Herd W V T Z) {i b : Nat} {t : Trm} (hi : T[i]? = some (b, t)) : ∃ F, St V F b t V ∧ (∀ t' V'', St V F b t' V'' → Herd W V'' (T.set i (b, t')) Z ∧ ∀ z ∈ Z, V''.heap[z]? = V.heap[z]?) ∧ (∀ b ∈ F, W.heap.size ≤ b) ∧ ∀ b ∈ F, b < V.heap.size := h.atAt (Below.refl _ _) hi
theorem Herd.add (h : Herd W V T Z) {nb : Nat} {t : Trm} (hn : St V [] nb t V') : Herd W V' (T ++ [(nb, t)]) Z := by
 have hb : Below V.heap.size V V' := old_mv hn.mv
 have h2 := h.below hb
 obtain ⟨Lf, a, d, z⟩ := h.lay
 obtain ⟨L', e', T', f'⟩ := hn.lay
 have n2 : ∀ g ∈ L'.fp, V.heap.size ≤ g := fun g m => (f' g m).elim (fun z => by simp at z) id
 have lo : ∀ x, x < T.length → ∀ g ∈ (Lf x).fp, g < V.heap.size := fun x hx g m => by
  obtain ⟨_, q2, _⟩ := a x T[x] (List.getElem?_eq_getElem hx)
  exact q2.lt g m
 refine ⟨h2.g0, h2.bel, fun j => if j = T.length then L' else Lf j, fun j p hj => ?_, fun j l hj hl ne => ?_, fun j m => ⟨Nat.lt_of_lt_of_le (z j m).1 hb.size, fun l hl => ?_⟩⟩
 ·dsimp only
  by_cases e : j = T.length
  ·subst e
   rw [if_pos rfl]
   rw [List.getElem?_append_right (Nat.le_refl _), Nat.sub_self] at hj
   cases hj
   exact ⟨e', T', fun g m => Nat.le_trans h.bel.size (n2 g m)⟩
  ·rw [if_neg e]
   have jl : j < T.length := by
    have := (List.getElem?_eq_some_iff.1 hj).1
    simp only [List.length_append, List.length_cons, List.length_nil] at this
    omega
   rw [List.getElem?_append_left jl] at hj
   obtain ⟨q1, q2, q3⟩ := a j p hj
   exact ⟨q1, q2.keep (fun g m => hb.block g (q2.lt g m)), q3⟩
 ·simp only [List.length_append, List.length_cons, List.length_nil] at hj hl
  intro g m m2
  dsimp only at m m2
  by_cases e : j = T.length
  ·rw [if_pos e] at m
   rw [if_neg (fun q => ne (e.trans q.symm))] at m2
   have := lo l (by omega) g m2
   have := n2 g m
   omega
  ·rw [if_neg e] at m
   by_cases e2 : l = T.length
   ·rw [if_pos e2] at m2
    have := lo j (by omega) g m
    have := n2 g m2
    omega
   ·rw [if_neg e2] at m2
    exact d j l (by omega) (by omega) ne g m m2
 ·simp only [List.length_append, List.length_cons, List.length_nil] at hl
  intro m2
  dsimp only at m2
  by_cases e : l = T.length
  ·rw [if_pos e] at m2
   have := n2 j m2
   have := (z j m).1
   omega
  ·rw [if_neg e] at m2
   exact (z j m).2 l (by omega) m2
theorem Herd.other (h : Herd W V T Z) {g : Nat} {cur : Array Value} {Ty : TypeId} {fl : Nat × Nat} (hg : V.heap[g]? = some (.cells cur Ty fl)) (o : OtherT Ty) : Herd W V T (g :: Z) := by
 obtain ⟨Lf, a, d, z⟩ := h.lay
 refine ⟨h.g0, h.bel, Lf, a, d, fun j m => ?_⟩
 rcases List.mem_cons.1 m with rfl | m
 ·refine ⟨(Array.getElem?_eq_some_iff.1 hg).1, fun i hi => ?_⟩
  obtain ⟨_, q2, _⟩ := a i T[i] (List.getElem?_eq_getElem hi)
  exact q2.notTy hg o
 ·exact z j m
theorem Herd.newZ (h : Herd W V T Z) (hb : Below V.heap.size V V') {z : Nat} (h0 : V.heap.size ≤ z) (h1 : z < V'.heap.size) : Herd W V' T (z :: Z) := by
 have h2 := h.below hb
 obtain ⟨Lf, a, d, q⟩ := h.lay
 obtain ⟨Lf2, a2, d2, q2⟩ := h2.lay
 refine ⟨h2.g0, h2.bel, Lf, fun i p hi => ?_, d, fun j m => ?_⟩
 ·obtain ⟨e1, e2, e3⟩ := a i p hi
  exact ⟨e1, e2.keep (fun k m => hb.block k (e2.lt k m)), e3⟩
 ·rcases List.mem_cons.1 m with rfl | m
  ·refine ⟨h1, fun i hi m2 => ?_⟩
   obtain ⟨_, e2, _⟩ := a i T[i] (List.getElem?_eq_getElem hi)
   have := e2.lt j m2
   omega
  ·exact ⟨Nat.lt_of_lt_of_le (q j m).1 hb.size, (q j m).2⟩
theorem Herd.setZ (h : Herd W V T Z) {z i : Nat} (hz : z ∈ Z) (h0 : W.heap.size ≤ z) (v : Value) : Herd W (V.setCell ⟨z, i, none⟩ v) T Z := by
 obtain ⟨Lf, a, d, q⟩ := h.lay
 refine ⟨h.g0, h.bel.setCell (p := ⟨z, i, none⟩) h0 v, Lf, fun j p hj => ?_, d, fun j m => ⟨by simpa using (q j m).1, (q j m).2⟩⟩
 obtain ⟨e1, e2, e3⟩ := a j p hj
 exact ⟨e1, e2.keep (fun k m => heap_setCell_other V ⟨z, i, none⟩ k v (fun e => (q z hz).2 j (List.getElem?_eq_some_iff.1 hj).1 (by simp only at e; rw [← e]; exact m))), e3⟩
end
end Go.Proofs.YtmaofighbpnbiaaGreatDoor
/- The law's alike, with what lies beside. -/
namespace Go.Proofs.YtmaofighbpnbiaaGreatDoor
open Go Go.RowKit Go.Sort
set_option linter.unusedVariables false
set_option linter.unusedSimpArgs false
section
variable {W V : World} {xb yb : Nat} {tx ty : Trm} {Z : List Nat}
end
end Go.Proofs.YtmaofighbpnbiaaGreatDoor
