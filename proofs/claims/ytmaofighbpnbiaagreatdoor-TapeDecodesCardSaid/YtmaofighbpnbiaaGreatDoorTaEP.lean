/- What lies below tapes (kept of earlier texts: VzA, VyT, VzB, VyQ, VzC2, TqG, TqH, TqI). -/
import Derived.Test.YtmaofighbpnbiaaGreatDoorTaEO
set_option linter.unusedVariables false
set_option linter.unusedSimpArgs false
namespace Go.Proofs.YtmaofighbpnbiaaGreatDoor
section
open Go Go.RowKit Go.Sort
section
variable {w0 : World} {F0 : List Nat} {tb : Nat} {t t' : Trm} {W W' : World}
theorem zas (l : List Bool) : (zy l).length = l.length * 1 := by unfold zy; simp
theorem zdk {w : World} {g : Nat} (hg : w.heap[g]? = some (.cells #[] 4 (0, 0))) (ad : Addr) (m c : Nat) (news : List Value) (hl : news.length = m * 1) (hn : ∀ j u, news[j]? = some u -> w.cell? (ad.add j) = some u) (hm : m <= 1048576) (hm0 : 0 < m) :
  ∃ v' w', (Builtin.append_ #[101, 101] 101 #[.slice (some ⟨g, 0, none⟩) 0 0, .slice (some ad) m c]).run Tryz.prog w = .ok v' w' /\ Below w.heap.size w w' /\ NewRow w.heap.size 4 1 v' m news w' := by
 obtain ⟨i0, hi, hz⟩ := Option.map_eq_some_iff.1 Jm
 simp only [Prod.mk.injEq] at hz
 obtain ⟨hz0, hz1, hz2⟩ := hz
 obtain ⟨z, hzz, hzc⟩ := Option.map_eq_some_iff.1 hz0
 obtain ⟨v', w', hr, ho, hgr⟩ := run_append_arg_grows (P := Tryz.prog) w 101 101 4 i0 z 1 1 Tryz.underlying101 hi hzz hz1 hz2 (by rw [hzc]; rfl) (by decide) ⟨g, 0, none⟩ 0 0 [] (by simp) (by simp) ad m c news hl hn (by omega) (by unfold maxLen; omega) (by omega)
 rw [Nat.zero_add] at ho
 rw [List.nil_append] at ho
 refine ⟨v', w', hr, ⟨hgr.os, hgr.tape, hgr.output, hgr.size, fun k hk => hgr.block k hk (by simp)⟩, ?_⟩
 rcases ho.2 with ⟨_, a⟩ | ⟨g2, cap, cur, rfl, h2, h3, h4, h5⟩
 ·omega
 ·have lo := qG ho (Nat.zero_le _)
  refine ⟨RowAt.of_own lo (by omega), fun b hb => ?_⟩
  obtain ⟨c', rfl⟩ : ∃ c', cap = c' + 1 := ⟨cap - 1, by omega⟩
  have : b = g2 := by simpa [ob] using hb
  omega
theorem zdl {w : World} {g : Nat} (hg : w.heap[g]? = some (.cells #[] 4 (0, 0))) (ad : Addr) (c : Nat) :
  (Builtin.append_ #[101, 101] 101 #[.slice (some ⟨g, 0, none⟩) 0 0, .slice (some ad) 0 c]).run Tryz.prog w = .ok (.slice (some ⟨g, 0, none⟩) 0 0) w := by
 obtain ⟨i0, hi, _⟩ := Option.map_eq_some_iff.1 Jm
 have := run_append_room_cells (P := Tryz.prog) w 101 101 4 i0 Tryz.underlying101 hi g 0 0 0 ad 0 c [] (by simp) (by simp) (by simp) (by omega) (by simp) (by simp)
 simpa [World.setCells] using this
theorem sl_noneO (n c : Nat) (w : World) : (binOp .eql 101 (.slice none n c) (.slice none 0 0)).run Tryz.prog w = .ok (.bool true) w := by kernel_rfl
theorem sl_someO (ad : Addr) (n c : Nat) (w : World) : (binOp .eql 101 (.slice (some ad) n c) (.slice none 0 0)).run Tryz.prog w = .ok (.bool false) w := by kernel_rfl
set_option maxHeartbeats 4000000 in
set_option maxRecDepth 100000 in
theorem zat (A : Option Addr) (l : List Bool) (c : Nat) (W : World) (K : RowAt W 4 1 (.slice A l.length c) l.length (zy l)) (hl : l.length <= 1048576) : Calls Tryz.prog 63 #[.slice A l.length c] W fun e w' => ∃ v, e = .returned v /\ NewRow W.heap.size 4 1 v l.length (zy l) w' /\ Below W.heap.size W w' := by
 have SN := sl_noneO
 have SS := sl_someO
 by_cases z : l.length = 0
 ·have e : l = [] := List.eq_nil_of_length_eq_zero z
  subst e
  cases A with
  | none =>
   clear K
   go_enter Tryz.func63, Tryz.ntmps63
   go_wp2_with fail
   go_ret
   exact ⟨_, rfl, ⟨Or.inl ⟨rfl, rfl, none, rfl⟩, fun g m => by simp [ob] at m⟩, Below.refl _ _⟩
  | some ad =>
   obtain ⟨V, hV⟩ : ∃ V, V = W.alloc (.cells #[] 4) := ⟨_, rfl⟩
   have BV : Below W.heap.size W V := by rw [hV]; exact (Below.refl _ W).alloc zdA _
   have AP := zdl (w := V) (g := W.heap.size) (by rw [hV]; exact World.alloc_heap_new W _) ad c
   clear K
   go_enter Tryz.func63, Tryz.ntmps63
   go_upto_region 3 with fail
   have BV := zdy BV
   have AP := zdy AP
   have HV := zdy hV
   clear hV
   go_wp2_with (at_builtin; rw [<- HV.out]; refine jT rfl (.tmp 5) (.tmp 6) 101 101 rfl _ _ _ _ rfl rfl AP.out ?_)
   go_ret
   exact ⟨_, rfl, ⟨Or.inl ⟨rfl, rfl, _, rfl⟩, fun g m => by simp [ob] at m⟩, BV.out⟩
 ·have K0 := K
  obtain ⟨g, cap, ec, eo, ho, hc⟩ := K.slice (by omega)
  simp only [Value.slice.injEq] at ec
  obtain ⟨rfl, _, rfl⟩ := ec
  obtain ⟨V, hV⟩ : ∃ V, V = W.alloc (.cells #[] 4) := ⟨_, rfl⟩
  have BV : Below W.heap.size W V := by rw [hV]; exact (Below.refl _ W).alloc zdA _
  obtain ⟨v', w', AP, B2, NR⟩ := zdk (w := V) (g := W.heap.size) (by rw [hV]; exact World.alloc_heap_new W _) ⟨g, 0, none⟩ l.length c (zy l) (by rw [zas]) (fun j u hj => by
   rw [jf, Nat.zero_add]
   have lj : j < l.length * 1 := by have := (List.getElem?_eq_some_iff.1 hj).1; rw [zas] at this; exact this
   obtain ⟨cur, hcu⟩ := xI ho
   exact (BV.cell (p := ⟨g, j, none⟩) (Array.getElem?_eq_some_iff.1 hcu).1).trans ((ho.cellAt j lj).trans hj)) hl (by omega)
  have NW : Hid (NewRow W.heap.size 4 1 v' l.length (zy l) w') := zdy ⟨NR.1, fun b m => Nat.le_trans BV.size (NR.2 b m)⟩
  have BB : Hid (Below W.heap.size W w') := zdy (BV.trans (B2.mono BV.size))
  have HV := zdy hV
  have AP := zdy AP
  clear K K0 eo ho hc hV BV B2 NR
  generalize zy l = xs at *
  generalize l.length = n at *
  go_enter Tryz.func63, Tryz.ntmps63
  go_wp2_with (at_builtin; rw [<- HV.out]; refine jT rfl (.tmp 5) (.tmp 6) 101 101 rfl _ _ _ _ rfl rfl AP.out ?_)
  go_ret
  exact ⟨_, rfl, NW.out, BB.out⟩
def NewKept (B : Nat) (v : Value) (s : ByteArray) (w : World) : Prop := KeptAt w v s /\ ∀ g ∈ ob v, B <= g
theorem NewKept.below {B : Nat} {v : Value} {s : ByteArray} {w w' : World} (h : NewKept B v s w) (hb : Below w.heap.size w w') : NewKept B v s w' := ⟨h.1.keep (fun g m => hb.block g (h.1.lt g m)), h.2⟩
theorem zdm {w : World} {g : Nat} (hg : w.heap[g]? = some (.cells #[] 5 (0, 0))) (ad : Addr) (c : Nat) :
  (Builtin.append_ #[27, 27] 27 #[.slice (some ⟨g, 0, none⟩) 0 0, .slice (some ad) 0 c]).run Tryz.prog w = .ok (.slice (some ⟨g, 0, none⟩) 0 0) w := by
 obtain ⟨i0, hi, _⟩ := info_parts kR
 have := run_append_room_cells (P := Tryz.prog) w 27 27 5 i0 Tryz.underlying27 hi g 0 0 0 ad 0 c [] (by simp) (by simp) (by simp) (by omega) (by simp) (by simp)
 simpa [World.setCells] using this
theorem sl_noneB (n c : Nat) (w : World) : (binOp .eql 27 (.slice none n c) (.slice none 0 0)).run Tryz.prog w = .ok (.bool true) w := by kernel_rfl
theorem sl_someB (ad : Addr) (n c : Nat) (w : World) : (binOp .eql 27 (.slice (some ad) n c) (.slice none 0 0)).run Tryz.prog w = .ok (.bool false) w := by kernel_rfl
theorem zau (W : World) (g : Nat) : KeptAt W (.slice (some ⟨g, 0, none⟩) 0 0) zB := ⟨some ⟨g, 0, none⟩, 0, rfl, zdA, by unfold maxLen; omega, (fun e => by cases e), fun h => absurd h (Nat.lt_irrefl 0)⟩
theorem zB_of {s : ByteArray} (h : s.size = 0) : s = zB := by
 rcases s with ⟨⟨l⟩⟩
 cases l with
 | nil => rfl
 | cons a l => simp [ByteArray.size] at h
set_option maxHeartbeats 4000000 in
set_option maxRecDepth 100000 in
theorem Jp (A : Option Addr) (s : ByteArray) (n c : Nat) (hn : n = s.size) (W : World) (K : KeptAt W (.slice A s.size c) s) (hl : s.size <= 900000000) : Calls Tryz.prog 64 #[.slice A n c] W fun e w' => ∃ v, e = .returned v /\ NewKept W.heap.size v s w' /\ Below W.heap.size W w' := by
 have SN := sl_noneB
 have SS := sl_someB
 by_cases z : s.size = 0
 ·have e := zB_of z
  subst e
  have n0 : n = 0 := hn
  subst n0
  cases A with
  | none =>
   clear K hn
   go_enter Tryz.func64, Tryz.ntmps64
   go_wp2_with fail
   go_ret
   exact ⟨_, rfl, ⟨zdj _, fun g m => by simp [ob] at m⟩, Below.refl _ _⟩
  | some ad =>
   obtain ⟨V, hV⟩ : ∃ V, V = W.alloc (.cells #[] 5) := ⟨_, rfl⟩
   have BV : Below W.heap.size W V := by rw [hV]; exact (Below.refl _ W).alloc zdA _
   have AP := zdm (w := V) (g := W.heap.size) (by rw [hV]; exact World.alloc_heap_new W _) ad c
   clear K hn
   go_enter Tryz.func64, Tryz.ntmps64
   go_upto_region 3 with fail
   have BV := zdy BV
   have AP := zdy AP
   have HV := zdy hV
   clear hV
   go_wp2_with (at_builtin; rw [<- HV.out]; refine jT rfl (.tmp 5) (.tmp 6) 27 27 rfl _ _ _ _ rfl rfl AP.out ?_)
   go_ret
   exact ⟨_, rfl, ⟨zau _ _, fun g m => by simp [ob] at m⟩, BV.out⟩
 ·obtain ⟨A', c', ec, h1, hm, h2, h3⟩ := K
  simp only [Value.slice.injEq] at ec
  obtain ⟨rfl, _, rfl⟩ := ec
  obtain ⟨g, o, cur, rfl, hg, hc, hs⟩ := h3 (by omega)
  obtain ⟨V, hV⟩ : ∃ V, V = W.alloc (.cells #[] 5) := ⟨_, rfl⟩
  have BV : Below W.heap.size W V := by rw [hV]; exact (Below.refl _ W).alloc zdA _
  obtain ⟨v', w', AP, ok⟩ := VM (zau V W.heap.size) ⟨g, o, none⟩ c (x := s) (by omega) (fun j u hj => by
   rw [jf]
   exact (BV.cell (p := ⟨g, o + j, none⟩) (Array.getElem?_eq_some_iff.1 hg).1).trans (kS hg hs j u hj |> fun h => by rw [jf] at h; exact h)) (by show 0 + s.size <= _; omega)
  have ez : zB ++ s = s := by apply ByteArray.ext; simp [ByteArray.data_append]; rfl
  have NK : Hid (NewKept W.heap.size v' s w') := zdy ⟨by have := ok.new; rw [ez] at this; exact this, fun b m => (ok.sub b m).elim (fun q => by simp [ob] at q) (fun q => Nat.le_trans BV.size q)⟩
  have BB : Hid (Below W.heap.size W w') := zdy (BV.trans ((ki (by have := ok.mv; exact this)).mono BV.size))
  have HV := zdy hV
  have AP := zdy AP
  rw [<- hn] at AP
  clear h1 hm h2 h3 hg hc hs hV BV ok
  go_enter Tryz.func64, Tryz.ntmps64
  go_wp2_with (at_builtin; rw [<- HV.out]; refine jT rfl (.tmp 5) (.tmp 6) 27 27 rfl _ _ _ _ rfl rfl AP.out ?_)
  go_ret
  exact ⟨_, rfl, NK.out, BB.out⟩
theorem zdn {w : World} {g n c0 : Nat} (A : Option Addr) (c : Nat) (hn : n <= c0) : (Builtin.append_ #[27, 27] 27 #[.slice (some ⟨g, 0, none⟩) n c0, .slice A 0 c]).run Tryz.prog w = .ok (.slice (some ⟨g, 0, none⟩) n c0) w := by
 obtain ⟨i0, hi, hz0, hz1, hz2⟩ := info_parts kR
 cases A with
 | none => simp [Builtin.append_, run_underlying Tryz.underlying27, sizeOf, typeInfo, hi, hz1, Builtin.lenOf, Builtin.firstCells, hn, storeCells, Result.andThen]
 | some ad =>
  have := run_append_room_cells (P := Tryz.prog) w 27 27 5 i0 Tryz.underlying27 hi g 0 n c0 ad 0 c [] (by simp) (by simp) (by simp) (by omega) (by simp) (by simp)
  simpa [World.setCells] using this
set_option maxHeartbeats 8000000 in
set_option maxRecDepth 100000 in
theorem d_Feed0 (u : Nat) (A : Option Addr) (c : Nat) (W : World) (hd : DecAt W u zB) : Calls Tryz.prog 65 #[.pointer (some ⟨u, 0, none⟩), .slice A 0 c] W fun e w' => (∃ v, e = .returned v) /\ DecAt w' u zB /\ Mv [u] W w' := by
 obtain ⟨k, hk⟩ : ∃ k : ByteArray, k = zB := ⟨_, rfl⟩
 rw [<- hk] at hd ⊢
 obtain ⟨b0, b1, b2, b3, hD, k4, ek⟩ := hd
 obtain ⟨n, hn0⟩ : ∃ n, n = k.size := ⟨_, rfl⟩
 have UL := zdy hD.lt
 have HL := zdy (fun w' (hb : Below W.heap.size W w') => hD.of_eq (hb.block u hD.lt))
 have kk := fun d os => (hD.regrown d os).c 4 _ rfl
 have NW : Hid (∀ w', Below W.heap.size W w' -> ∀ j x, (Lib.strCells k)[j]? = some x -> w'.cell? ((⟨u, 0, none⟩ : Addr).add j) = some x) := zdy (fun w' hb j x hj => by
  rw [hk] at hj
  have e : Lib.strCells zB = [] := rfl
  rw [e] at hj
  simp at hj)
 have KL := zdy (Lib.strCells_length k)
 have n00 : n = 0 := by rw [hn0, hk]; rfl
 have n0 : (0 : Int) <= (n : Int) := by omega
 have n4 : (n : Int) <= 4 := by omega
 rw [<- hn0] at kk
 have HN := zdy hn0
 have HZ := zdy n00
 have HK0 := zdy hk
 have HT : Hid (∀ x : B8, ∀ b1 b2 b3 : B8, Lib.strCells k = [Value.int .u8 (bI x), Value.int .u8 (bI b1), Value.int .u8 (bI b2), Value.int .u8 (bI b3)].take k.size) := zdy (fun _ _ _ _ => by rw [hk]; rfl)
 clear hD ek k4 hn0 n00 hk
 go_enter Tryz.func65, Tryz.ntmps65
 go_wp2_with fail
 refine xF 11 [(12, emptyS W.heap.size 5), (21, rowS W.heap.size 5 1 n (Lib.strCells k)), (5, boxS W.heap.size 27)] [5, 12, 21] (by kernel_rfl) (by kernel_rfl) (by kernel_rfl) (by intro t ht; simp at ht; rcases ht with rfl | rfl | rfl <;> (intro h; cases h)) ?_
 simp only [zdB, zdC, zdD, zdE]
 refine jS 12 rfl (by simp) (by first | (simp; done) | simp [zQ]) (by rfl) (by rfl) (by intro _ _ h; cases h) (fun x => ?_) ?_
 ·go_simp
  exact ⟨(Below.refl _ _).alloc zdA _, ⟨_, rfl, by simp [redrawn], by rw [show (redrawn W x.d).heap.size + x.os.size = (grow (redrawn W x.d) x.os).heap.size by simp [grow]]; exact World.alloc_heap_new _ _⟩⟩
 repeat (refine xk (by rfl) (fun K hK => ?_); go_simp; first | (refine hK _ ?_; clear hK K) | (apply Exists.intro; refine ⟨fun _ => ?_, hK _ ?_⟩; (fail); clear hK K))
 refine kP 12 21 (by simp) (by first | (simp; done) | simp [zQ]) (by rfl) rfl (by simp) (by first | (simp; done) | simp [zQ]) (by rfl) (by rfl) (by rfl) (by intro _ _ h; cases h) (fun x u hu => ?_) ?_
 ·obtain ⟨g, rfl, hg1, hg2⟩ := hu
  obtain ⟨v', w', hr, hb, ho, hq⟩ := VB hg2 hg1 (below_regrown W x.d x.os).size ⟨u, 0, none⟩ n 4 (Lib.strCells k) (by rw [KL.out, HN.out]) (NW.out _ (below_regrown W x.d x.os)) (Lib.strCells_oneCell k) (by omega)
  simp [execOp, resolve, invoke, builtin, hr, Result.andThen, jB, Act.eval, Act.put]
  exact ⟨by simpa using hb, ho, hq⟩
 refine jS 5 rfl (by simp) (by first | (simp; done) | simp [zQ]) (by rfl) (by rfl) (by intro _ _ h; cases h) (fun x => ?_) ?_
 ·go_simp
  exact ⟨(Below.refl _ _).alloc zdA _, ⟨_, _, rfl, by simp [redrawn], by rw [show (redrawn W x.d).heap.size + x.os.size = (grow (redrawn W x.d) x.os).heap.size by simp [grow]]; exact World.alloc_heap_new _ _⟩⟩
 refine xE ?_
 intro W1 vs1 hl hv
 obtain ⟨g12, e12, q12⟩ := hv 12 (by simp) rfl
 obtain ⟨o21, g21, c21, e21⟩ := hv 21 (by simp) rfl
 obtain ⟨Bx, x5, e5, hB5, q5⟩ := hv 5 (by simp) rfl
 have UB : Hid (u ≠ Bx) := zdy (by have := UL.out; omega)
 simp only [zR, e12, e21, e5]
 have hb1 := jC.1 hl
 have X5 : Bk W1 Bx [x5] 27 := q5
 obtain ⟨cu21, hg21⟩ := xI (qG (by rw [e21] at o21; exact o21) (Nat.zero_le _))
 have ne21 : g21 ≠ Bx := X5.ne hg21 (by decide)
 have j5 := X5.c 0 _ rfl
 have jf5 := X5.f 0
 have B1 := zdy hb1
 have X5 := zdy X5
 have NE := zdy ne21
 have O21 : Hid (W1.ownsRow W.heap.size 5 1 (.slice (some ⟨g21, 0, none⟩) n c21) n (Lib.strCells k)) := zdy (by rw [e21] at o21; exact o21)
 clear hl hv hb1 o21 q5 q12 hg21 ne21 e21
 go_upto_region 4 with fail
 obtain ⟨V1, hV⟩ : ∃ V, V = W1.setCell ⟨Bx, 0, none⟩ (.slice (some ⟨g21, 0, none⟩) n c21) := ⟨_, rfl⟩
 have B2 : Hid (Below W.heap.size W V1) := zdy (by rw [hV]; exact B1.out.setCell (p := ⟨Bx, 0, none⟩) hB5 _)
 have X2 : Hid (Bk V1 Bx [.slice (some ⟨g21, 0, none⟩) n c21] 27) := zdy (by rw [hV]; exact X5.out.set 0 _)
 have O2 : V1.ownsRow W.heap.size 5 1 (.slice (some ⟨g21, 0, none⟩) n c21) n (Lib.strCells k) := by
  rw [hV]
  have := O21.out.kept (grownBy_setCell' W1 Bx (.slice (some ⟨g21, 0, none⟩) n c21)) (Or.inr (by show some g21 ≠ some Bx; intro e; exact NE.out (Option.some.inj e)))
  exact this
 have D2 : Hid (Bk V1 u [.int .u8 (bI b0), .int .u8 (bI b1), .int .u8 (bI b2), .int .u8 (bI b3), .int .i64 (k.size : Int)] 116) := zdy (HL.out V1 B2.out)
 have UL2 : Hid (u < V1.heap.size) := zdy (D2.out.lt)
 rw [<- hV]
 clear hV B1 X5 O21 j5 jf5 HL kk
 have u5 := X2.out.c 0 _ rfl
 have uf5 := X2.out.f 0
 have c6 := D2.out.c 4 _ rfl
 have cf6 := D2.out.f 4
 have n0' := HZ.out
 subst n0'
 have AZ := zdy (fun w => zdn (w := w) (g := g21) (n := 0) (c0 := c21) A c (Nat.zero_le _))
 obtain ⟨V5, hV5⟩ : ∃ V, V = (V1.setCell ⟨Bx, 0, none⟩ (.slice (some ⟨g21, 0, none⟩) 0 c21)).setCell ⟨u, 4, none⟩ (.int .i64 0) := ⟨_, rfl⟩
 have NEu : u ≠ Bx := UB.out
 have X6 : Bk V5 Bx [.slice (some ⟨g21, 0, none⟩) 0 c21] 27 := by
  rw [hV5]
  exact (X2.out.set 0 _).of_eq (heap_setCell_other _ ⟨u, 4, none⟩ Bx _ (fun e => NEu e.symm))
 have D6 : Bk V5 u [.int .u8 (bI b0), .int .u8 (bI b1), .int .u8 (bI b2), .int .u8 (bI b3), .int .i64 0] 116 := by
  rw [hV5]
  exact (D2.out.of_eq (heap_setCell_other _ ⟨Bx, 0, none⟩ u _ NEu)).set 4 _
 have M6 : Mv [u] W V5 := by
  rw [hV5]
  have m1 : Mv [] W V1 := Mv.below B2.out
  exact (m1.trans (F1 := [Bx]) (Mv.set (F := [Bx]) V1 (by simp)) (by intro b hb; rw [List.mem_singleton.1 hb]; exact Or.inr hB5) |> fun m => (⟨m.os, m.tape, m.output, m.size, fun k hk _ => m.blk k hk (by simp)⟩ : Mv [u] W _)).trans (F1 := [u]) (Mv.set (F := [u]) _ (by simp)) (by intro b hb; exact Or.inl hb)
 have j6 := X6.c 0 _ rfl
 have FIN : Hid (DecAt V5 u k /\ Mv [u] W V5) := zdy ⟨⟨b0, b1, b2, b3, by rw [<- HN.out]; exact D6, by rw [<- HN.out]; omega, HT.out _ _ _ _⟩, M6⟩
 have HV5 := zdy hV5
 clear X6 D6 M6 X2 D2 B2 O2 hB5 NE HT KL NW HN HZ HK0 hV5
 go_wp2_with (at_builtin; refine jT rfl (.tmp 22) (.tmp 23) 27 27 rfl _ _ _ _ rfl rfl (AZ.out _) ?_)
 rw [<- HV5.out]
 go_wp2_with fail
 go_loopw [6] (fun s6 wr => s6 = .slice none 0 0 /\ wr = V5) (fun _ _ => 0)
 case atStart => exact ⟨rfl, rfl⟩
 case round =>
  obtain ⟨rfl, rfl⟩ := hrel
  go_wp2_with fail
  go_ret
  exact ⟨⟨_, rfl⟩, FIN.out⟩
end
end
section
open Go Go.RowKit Go.Sort
section
structure ArgB (W : World) (A : Option Addr) (c : Nat) (D : List Int) : Prop where
 cap : D.length <= c
 rng : ∀ b ∈ D, 0 <= b /\ b < 256
 sees : Sees W W.heap.size A (D.map (.int .u8))
theorem ArgB.fed {W V : World} {A : Option Addr} {c : Nat} {D : List Int} {F : List Nat} (h : ArgB W A c D) (hb : Below W.heap.size W V) (hF : ∀ b ∈ F, W.heap.size <= b) : FedAt V F A D := FedAt.old (B := W.heap.size) (fun k hk => by
 obtain ⟨ad, e, h1, h2⟩ := h.sees.at (k := k) (by simpa using hk)
 refine ⟨ad, e, h1, (hb.cell (by rw [z8]; exact h1)).trans ?_⟩
 rw [h2]
 simp [List.getD_eq_getElem?_getD, List.getElem?_eq_getElem hk]) hb.size hF
theorem St.fromN {W V : World} {nb : Nat} {t : Trm} (h : St W [] nb t V) : ∃ F, St V F nb t V /\ (∀ t' W', St V F nb t' W' -> St W [] nb t' W') /\ ∀ b ∈ F, W.heap.size <= b := by
 obtain ⟨L, e, T, hf⟩ := h.lay
 have new : ∀ b ∈ L.fp, W.heap.size <= b := fun b m => (hf b m).elim (fun z => by simp at z) id
 have nv : ∀ b ∈ L.fp, NotV b := fun b hb => by
  have z := new b hb
  have a := block_lt_of_cell (h.g0.st.on 0 (by decide))
  have c := block_lt_of_cell (h.g0.st.off 0 (by decide))
  have d := h.g0.pg
  simp only at a c
  exact ⟨by omega, by omega, by omega⟩
 refine ⟨L.fp, ⟨h.env, Mv.refl _ _, nv, L, e, T, fun b hb => Or.inl hb⟩, fun t' W' k => ?_, new⟩
 obtain ⟨L', e', T', hf'⟩ := k.lay
 exact ⟨h.g0, h.mv.trans k.mv (fun b m => Or.inr (new b m)), h.ng, L', e', T', fun b hb => (hf' b hb).elim (fun m => Or.inr (new b m)) (fun z => Or.inr (Nat.le_trans h.mv.size z))⟩
theorem arg_feed {W V : World} {nb : Nat} {t : Trm} {A : Option Addr} {c : Nat} {D : List Int} (h : ArgB W A c D) (S : St W [] nb t V) (Lv : Live t) (hD : D.length <= 1048576) (hh : t.held.size + D.length <= 300000000) :
  Calls Tryz.prog 27 #[.pointer (some ⟨nb, 0, none⟩), .slice A D.length c] V fun e w' => e = .returned (.int .i64 0) /\ St W [] nb (qJ t D) w' := by
 obtain ⟨F, h1, up, hF⟩ := S.fromN
 refine (t_Feed h1 Lv A c D hD hh h.rng (h.fed (ki S.mv) hF)).mono ?_
 rintro e w' ⟨h2, h3⟩
 exact ⟨h2, up _ _ h3⟩
theorem add_add (a : Addr) (m n : Nat) : (a.add m).add n = a.add (m + n) := by
 unfold Addr.add
 by_cases hm : m = 0
 ·subst hm; simp
 ·by_cases hn : n = 0
  ·subst hn; simp
  ·have : ¬ m + n = 0 := by omega
   simp [hm, hn, this, Nat.add_assoc]
end
end
section
open Go Go.RowKit Go.Sort
section
variable {w0 : World} {F0 : List Nat} {tb : Nat} {t t' : Trm} {W W' : World}
structure Cn (W : World) (nb : Nat) (t : Trm) (L : Lay) (V : World) : Prop where
 bel : Below W.heap.size W V
 own : Bk V nb (trmV t L) 104
 ge : W.heap.size <= nb
theorem Cn.below {V V' : World} {nb : Nat} {L : Lay} (h : Cn W nb t L V) (hb : Below V.heap.size V V') : Cn W nb t L V' := ⟨h.bel.trans (hb.mono h.bel.size), h.own.of_eq (hb.block nb h.own.lt), h.ge⟩
theorem Cn.set {V : World} {nb : Nat} {L L' : Lay} (h : Cn W nb t L V) (i : Nat) (v : Value) (e : (trmV t L).set i v = trmV t L') : Cn W nb t L' (V.setCell ⟨nb, i, none⟩ v) := ⟨h.bel.setCell (p := ⟨nb, i, none⟩) h.ge v, by rw [<- e]; exact h.own.set i v, h.ge⟩
theorem NewRow.far {V : World} {nb i sz n : Nat} {T : TypeId} {v y : Value} {xs : List Value} (h : NewRow (nb + 1) T sz v n xs V) : NewRow (nb + 1) T sz v n xs (V.setCell ⟨nb, i, none⟩ y) := ⟨h.1.keep (fun g m => heap_setCell_other V ⟨nb, i, none⟩ g y (fun e => by have := h.2 g m; simp only at e; omega)), h.2⟩
theorem NewKept.far {V : World} {nb i : Nat} {v y : Value} {s : ByteArray} (h : NewKept (nb + 1) v s V) : NewKept (nb + 1) v s (V.setCell ⟨nb, i, none⟩ y) := ⟨h.1.keep (fun g m => heap_setCell_other V ⟨nb, i, none⟩ g y (fun e => by have := h.2 g m; simp only at e; omega)), h.2⟩
theorem NewRow.up {V : World} {B nb sz n : Nat} {T : TypeId} {v : Value} {xs : List Value} (h : NewRow B T sz v n xs V) (hb : nb < B) : NewRow (nb + 1) T sz v n xs V := ⟨h.1, fun g m => by have := h.2 g m; omega⟩
theorem NewKept.up {V : World} {B nb : Nat} {v : Value} {s : ByteArray} (h : NewKept B v s V) (hb : nb < B) : NewKept (nb + 1) v s V := ⟨h.1, fun g m => by have := h.2 g m; omega⟩
structure P4 (W : World) (nb : Nat) (t : Trm) (L : Lay) (V : World) : Prop where
 cn : Cn W nb t L V
 c : NewRow (nb + 1) 79 5 L.c t.cells.length (zd t.cells) V
 a : NewRow (nb + 1) 79 5 L.a t.away.length (zd t.away) V
 ca : ∀ g ∈ ob L.c, g ∉ ob L.a
structure P5 (W : World) (nb : Nat) (t : Trm) (L : Lay) (V : World) : Prop where
 p : P4 W nb t L V
 s : NewRow (nb + 1) 4 1 L.s t.stops.length (zy t.stops) V
 w : NewRow (nb + 1) 4 1 L.w t.wrt.length (zy t.wrt) V
 sw : ∀ g ∈ ob L.s, g ∉ ob L.w
structure P6 (W : World) (nb : Nat) (t : Trm) (L : Lay) (V : World) : Prop where
 p : P5 W nb t L V
 r : NewKept (nb + 1) L.r t.reps V
 h : NewKept (nb + 1) L.h t.held V
 k : NewKept (nb + 1) L.k t.kept V
 rh : ∀ g ∈ ob L.r, g ∉ ob L.h
 rk : ∀ g ∈ ob L.r, g ∉ ob L.k
 hk : ∀ g ∈ ob L.h, g ∉ ob L.k
theorem P4.below {V V' : World} {nb : Nat} {L : Lay} (h : P4 W nb t L V) (hb : Below V.heap.size V V') : P4 W nb t L V' := ⟨h.cn.below hb, h.c.below hb, h.a.below hb, h.ca⟩
theorem P5.below {V V' : World} {nb : Nat} {L : Lay} (h : P5 W nb t L V) (hb : Below V.heap.size V V') : P5 W nb t L V' := ⟨h.p.below hb, h.s.below hb, h.w.below hb, h.sw⟩
theorem P6.below {V V' : World} {nb : Nat} {L : Lay} (h : P6 W nb t L V) (hb : Below V.heap.size V V') : P6 W nb t L V' := ⟨h.p.below hb, h.r.below hb, h.h.below hb, h.k.below hb, h.rh, h.rk, h.hk⟩
theorem P4.set {V : World} {nb : Nat} {L L' : Lay} (h : P4 W nb t L V) (i : Nat) (v : Value) (e : (trmV t L).set i v = trmV t L') (ec : L'.c = L.c) (ea : L'.a = L.a) : P4 W nb t L' (V.setCell ⟨nb, i, none⟩ v) := ⟨h.cn.set i v e, by rw [ec]; exact h.c.far, by rw [ea]; exact h.a.far, by rw [ec, ea]; exact h.ca⟩
theorem P5.set {V : World} {nb : Nat} {L L' : Lay} (h : P5 W nb t L V) (i : Nat) (v : Value) (e : (trmV t L).set i v = trmV t L') (ec : L'.c = L.c) (ea : L'.a = L.a) (es : L'.s = L.s) (ew : L'.w = L.w) : P5 W nb t L' (V.setCell ⟨nb, i, none⟩ v) := ⟨h.p.set i v e ec ea, by rw [es]; exact h.s.far, by rw [ew]; exact h.w.far, by rw [es, ew]; exact h.sw⟩
theorem vI {V V' : World} {v1 v2 : Value} (h1 : ∀ g ∈ ob v1, g < V.heap.size) (h2 : ∀ g ∈ ob v2, V.heap.size <= g) : ∀ g ∈ ob v1, g ∉ ob v2 := fun g m m2 => by have := h1 g m; have := h2 g m2; omega
theorem P6.set {V : World} {nb : Nat} {L L' : Lay} (h : P6 W nb t L V) (i : Nat) (v : Value) (e : (trmV t L).set i v = trmV t L') (ec : L'.c = L.c) (ea : L'.a = L.a) (es : L'.s = L.s) (ew : L'.w = L.w) (er : L'.r = L.r) (eh : L'.h = L.h) (ek : L'.k = L.k) : P6 W nb t L' (V.setCell ⟨nb, i, none⟩ v) := ⟨h.p.set i v e ec ea es ew, by rw [er]; exact h.r.far, by rw [eh]; exact h.h.far, by rw [ek]; exact h.k.far, by rw [er, eh]; exact h.rh, by rw [er, ek]; exact h.rk, by rw [eh, ek]; exact h.hk⟩
theorem zdo (u : Nat) (A : Option Addr) (n c : Nat) (k : ByteArray) (hn : n = k.size) (ko : jL k) (V : World) (hd : DecAt V u zB) (K : KeptAt V (.slice A n c) k) : Calls Tryz.prog 65 #[.pointer (some ⟨u, 0, none⟩), .slice A n c] V fun e w' => (∃ v, e = .returned v) /\ DecAt w' u k /\ Mv [u] V w' := by
 rcases ko with z | o
 ·subst z
  have n0 : n = 0 := hn
  subst n0
  exact d_Feed0 u A c V hd
 ·have p := JK o
  have p3 := ZS o
  obtain ⟨A', c', ec, h1, hm, h2, h3⟩ := K
  simp only [Value.slice.injEq] at ec
  obtain ⟨rfl, _, rfl⟩ := ec
  obtain ⟨g, o', cur, rfl, hg, hc, hs⟩ := h3 (by omega)
  have e0 : zB ++ k = k := by apply ByteArray.ext; simp [ByteArray.data_append]; rfl
  have cb : zq k = ([], k) := by
   unfold zq
   obtain ⟨m, hm'⟩ : ∃ m, k.size = m + 1 := ⟨k.size - 1, by omega⟩
   rw [hm', zL, if_neg (by omega), if_pos o]
  have F := d_Feed u zB k ⟨g, o', none⟩ c V hd (by show 0 + k.size <= 4; omega) (by omega) (fun hne => ⟨_, rfl, (Array.getElem?_eq_some_iff.1 hg).1, fun j x hj => by
   rw [jf]
   have := kS hg hs j x hj
   rw [jf] at this
   exact this⟩) p
  rw [hn]
  refine F.mono ?_
  rintro e w' ⟨v, h4, _, h5, h6⟩
  rw [e0, cb] at h5
  exact ⟨⟨v, h4⟩, h5, h6⟩
theorem P6.done {V6 V7 w' : World} {nb : Nat} {L : Lay} (E : EnvV W) (h : P6 W nb t L V6) (e7 : V7 = (V6.alloc (.cells #[.int .u8 0, .int .u8 0, .int .u8 0, .int .u8 0, .int .i64 0] 116)).setCell ⟨nb, 30, none⟩ (.pointer (some ⟨V6.heap.size, 0, none⟩))) (D : DecAt w' V6.heap.size t.kept) (m : Mv [V6.heap.size] V7 w') : St W [] nb t w' := by
 have hb := (Below.refl _ V6).alloc zdA (.cells #[.int .u8 0, .int .u8 0, .int .u8 0, .int .u8 0, .int .i64 0] 116)
 have h7 : P6 W nb t { L with u := V6.heap.size } V7 := by
  rw [e7]
  exact (h.below hb).set 30 _ rfl rfl rfl rfl rfl rfl rfl rfl
 have sz : V7.heap.size = V6.heap.size + 1 := by rw [e7]; simp
 have kp : ∀ g, g < V6.heap.size -> w'.heap[g]? = V7.heap[g]? := fun g lt => m.blk g (by omega) (by simp; omega)
 have ge := h.p.p.cn.ge
 have s6 := h.p.p.cn.bel.size
 refine ⟨E, Mv.below (m.old h7.p.p.cn.bel (by intro b hb; rw [List.mem_singleton.1 hb]; exact s6)), by simp, { L with b := nb, u := V6.heap.size }, rfl, ?_, fun g mg => Or.inr ?_⟩
 ·exact ⟨h7.p.p.cn.own.of_eq (kp _ h.p.p.cn.own.lt), D, h7.p.p.c.1.keep (fun g mg => kp g (h.p.p.c.1.lt g mg)), h7.p.p.a.1.keep (fun g mg => kp g (h.p.p.a.1.lt g mg)), h7.p.s.1.keep (fun g mg => kp g (h.p.s.1.lt g mg)), h7.p.w.1.keep (fun g mg => kp g (h.p.w.1.lt g mg)),
   h7.r.1.keep (fun g mg => kp g (h.r.1.lt g mg)), h7.h.1.keep (fun g mg => kp g (h.h.1.lt g mg)), h7.k.1.keep (fun g mg => kp g (h.k.1.lt g mg)), h.p.p.ca, h.p.sw, h.rh, h.rk, h.hk⟩
 ·rcases Lay.mem.1 mg with z | z | z | z | z | z | z | z | z
  ·rw [z]; exact ge
  ·rw [z]; exact s6
  ·have := h.p.p.c.2 g z; omega
  ·have := h.p.p.a.2 g z; omega
  ·have := h.p.s.2 g z; omega
  ·have := h.p.w.2 g z; omega
  ·have := h.r.2 g z; omega
  ·have := h.h.2 g z; omega
  ·have := h.k.2 g z; omega
set_option maxHeartbeats 8000000 in
set_option maxRecDepth 100000 in
theorem zav (h : St w0 F0 tb t W) (f : Fine t) (ko : jL t.kept) (hr : t.reps.size <= 65536) (hh : t.held.size <= 300000000) : Calls Tryz.prog 54 #[.pointer (some ⟨tb, 0, none⟩)] W fun e w' => ∃ nb, e = .returned (.pointer (some ⟨nb, 0, none⟩)) /\ St W [] nb t w' := by
  obtain ⟨⟨Lb, Lu, Lc, La, Ls, Lw, Lr, Lh, Lk⟩, eb, T, _⟩ := h.lay
  dsimp only at eb
  subst eb
  obtain ⟨A1, c1, e1⟩ := T.c.asSlice
  obtain ⟨A2, c2, e2⟩ := T.a.asSlice
  obtain ⟨A3, c3, e3⟩ := T.s.asSlice
  obtain ⟨A4, c4, e4⟩ := T.w.asSlice
  obtain ⟨A5, c5, e5, q5⟩ := id T.r
  obtain ⟨A6, c6, e6, q6⟩ := id T.h
  obtain ⟨A7, c7, e7, q7⟩ := id T.k
  dsimp only at e1 e2 e3 e4 e5 e6 e7
  subst e1 e2 e3 e4 e5 e6 e7
  clear q5 q6 q7
  have cl : t.cells.length <= 1048576 := by have := f.cl; have := f.ar; omega
  have al : t.away.length <= 1048576 := by have := f.al; have := f.ar; omega
  have wl : t.wrt.length <= 1048576 := by have := f.wl; have := f.cl; have := f.ar; omega
  have sl : t.stops.length <= 1048576 := by have := f.sl; have := f.w1; omega
  have kl := JM ko
  obtain ⟨n1, hn1⟩ : ∃ n, n = t.cells.length := ⟨_, rfl⟩
  obtain ⟨n2, hn2⟩ : ∃ n, n = t.away.length := ⟨_, rfl⟩
  obtain ⟨n3, hn3⟩ : ∃ n, n = t.stops.length := ⟨_, rfl⟩
  obtain ⟨n4, hn4⟩ : ∃ n, n = t.wrt.length := ⟨_, rfl⟩
  obtain ⟨n5, hn5⟩ : ∃ n, n = t.reps.size := ⟨_, rfl⟩
  obtain ⟨n6, hn6⟩ : ∃ n, n = t.held.size := ⟨_, rfl⟩
  obtain ⟨n7, hn7⟩ : ∃ n, n = t.kept.size := ⟨_, rfl⟩
  have TX : Hid (∀ X, Below W.heap.size W X -> TrmAt X ⟨Lb, Lu, .slice A1 t.cells.length c1, .slice A2 t.away.length c2, .slice A3 t.stops.length c3, .slice A4 t.wrt.length c4, .slice A5 t.reps.size c5, .slice A6 t.held.size c6, .slice A7 t.kept.size c7⟩ t) := zdy (fun X hb => T.keep (fun g m => hb.block g (T.lt g m)))
  have C1 : Hid (∀ X, Below W.heap.size W X -> Calls Tryz.prog 60 #[.slice A1 n1 c1] X fun e w' => ∃ v, e = .returned v /\ NewRow X.heap.size 79 5 v t.cells.length (zd t.cells) w' /\ Below X.heap.size X w') := zdy (fun X hb => by rw [hn1]; exact Jo A1 t.cells c1 X (TX.out X hb).c cl)
  have C2 : Hid (∀ X, Below W.heap.size W X -> Calls Tryz.prog 60 #[.slice A2 n2 c2] X fun e w' => ∃ v, e = .returned v /\ NewRow X.heap.size 79 5 v t.away.length (zd t.away) w' /\ Below X.heap.size X w') := zdy (fun X hb => by rw [hn2]; exact Jo A2 t.away c2 X (TX.out X hb).a al)
  have C3 : Hid (∀ X, Below W.heap.size W X -> Calls Tryz.prog 63 #[.slice A3 n3 c3] X fun e w' => ∃ v, e = .returned v /\ NewRow X.heap.size 4 1 v t.stops.length (zy t.stops) w' /\ Below X.heap.size X w') := zdy (fun X hb => by rw [hn3]; exact zat A3 t.stops c3 X (TX.out X hb).s sl)
  have C4 : Hid (∀ X, Below W.heap.size W X -> Calls Tryz.prog 63 #[.slice A4 n4 c4] X fun e w' => ∃ v, e = .returned v /\ NewRow X.heap.size 4 1 v t.wrt.length (zy t.wrt) w' /\ Below X.heap.size X w') := zdy (fun X hb => by rw [hn4]; exact zat A4 t.wrt c4 X (TX.out X hb).w wl)
  have C5 : Hid (∀ X, Below W.heap.size W X -> Calls Tryz.prog 64 #[.slice A5 n5 c5] X fun e w' => ∃ v, e = .returned v /\ NewKept X.heap.size v t.reps w' /\ Below X.heap.size X w') := zdy (fun X hb => Jp A5 t.reps n5 c5 hn5 X (TX.out X hb).r (by omega))
  have C6 : Hid (∀ X, Below W.heap.size W X -> Calls Tryz.prog 64 #[.slice A6 n6 c6] X fun e w' => ∃ v, e = .returned v /\ NewKept X.heap.size v t.held w' /\ Below X.heap.size X w') := zdy (fun X hb => Jp A6 t.held n6 c6 hn6 X (TX.out X hb).h (by omega))
  have C7 : Hid (∀ X, Below W.heap.size W X -> Calls Tryz.prog 64 #[.slice A7 n7 c7] X fun e w' => ∃ v, e = .returned v /\ NewKept X.heap.size v t.kept w' /\ Below X.heap.size X w') := zdy (fun X hb => Jp A7 t.kept n7 c7 hn7 X (TX.out X hb).k (by omega))
  obtain ⟨L0, hL0⟩ : ∃ L0 : Lay, L0 = ⟨Lb, Lu, .slice A1 t.cells.length c1, .slice A2 t.away.length c2, .slice A3 t.stops.length c3, .slice A4 t.wrt.length c4, .slice A5 t.reps.size c5, .slice A6 t.held.size c6, .slice A7 t.kept.size c7⟩ := ⟨_, rfl⟩
  have LD : Hid (∀ X, Below W.heap.size W X -> X.cell? ⟨Lb, 2, none⟩ = some (.slice A1 n1 c1) /\ X.cell? ⟨Lb, 9, none⟩ = some (.slice A2 n2 c2) /\ X.cell? ⟨Lb, 23, none⟩ = some (.slice A3 n3 c3) /\ X.cell? ⟨Lb, 27, none⟩ = some (.slice A4 n4 c4) /\ X.cell? ⟨Lb, 26, none⟩ = some (.slice A5 n5 c5) /\ X.cell? ⟨Lb, 29, none⟩ = some (.slice A6 n6 c6) /\ X.cell? ⟨Lb, 31, none⟩ = some (.slice A7 n7 c7)) := zdy (fun X hb => by
    have B := (TX.out X hb).own
    rw [hn1, hn2, hn3, hn4, hn5, hn6, hn7]
    exact ⟨B.c 2 _ rfl, B.c 9 _ rfl, B.c 23 _ rfl, B.c 27 _ rfl, B.c 26 _ rfl, B.c 29 _ rfl, B.c 31 _ rfl⟩)
  obtain ⟨cs, hc⟩ : ∃ cs, cs = (trmV t L0).toArray := ⟨_, rfl⟩
  have GN : Hid (W.heap[Lb]? = some (.cells cs 104 (0, 0))) := zdy (by rw [hc, hL0]; exact T.own)
  have IH : Hid ((Tryz.prog.info? 104).map (·.size) = some cs.size) := zdy (by rw [hc, hL0]; exact zal)
  have H1 : Hid (cs.all (·.oneCell') = true) := zdy (by rw [hc, hL0]; simp [trmV, Value.oneCell'])
  have HC := zdy hc
  have EW := zdy h.env
  have KO := zdy ko
  have HS7 : Hid (n7 = t.kept.size) := zdy hn7
  clear hc hL0 h T cl al wl sl kl ko hr hh f hn1 hn2 hn3 hn4 hn5 hn6 hn7
  go_enter Tryz.func54, Tryz.ntmps54
  go_upto_region 4 with (first | (refine wpList_load_row rfl 104 (.tmp 7) rfl Lb rfl 104 cs (0, 0) _ GN.out Tryz.underlying104 rfl IH.out ?_) | (refine wpList_store_row rfl 104 (.tmp 3) (.tmp 8) rfl _ cs rfl rfl 104 _ (World.alloc_heap_new W _) IH.out (by rw [HC.out]; rfl) H1.out ?_))
  obtain ⟨V1, hV1⟩ : ∃ V1, V1 = (W.alloc (.cells #[.int .i64 0, .int .i64 0, .slice none 0 0, .int .i64 0, .int .i64 0, .int .i32 0, .int .i32 0, .int .u8 0, .bool false, .slice none 0 0, .int .i64 0, .int .i64 0, .int .i32 0, .int .i32 0, .int .u8 0, .bool false, .bool false, .bool false, .bool false, .bool false, .bool false, .int .i64 0, .int .i64 0, .slice none 0 0, .int .i64 0, .string ⟨#[]⟩, .slice none 0 0, .slice none 0 0, .int .i8 0, .slice none 0 0, .pointer none, .slice none 0 0] 104)).setRow W.heap.size cs := ⟨_, rfl⟩
  obtain ⟨nb, hnb⟩ : ∃ nb, nb = W.heap.size := ⟨_, rfl⟩
  have Q1 : Cn W nb t L0 V1 := by
    rw [hV1, hnb]
    refine ⟨?_, ?_, zdA⟩
    · have b1 := (Below.refl _ W).alloc zdA (.cells #[.int .i64 0, .int .i64 0, .slice none 0 0, .int .i64 0, .int .i64 0, .int .i32 0, .int .i32 0, .int .u8 0, .bool false, .slice none 0 0, .int .i64 0, .int .i64 0, .int .i32 0, .int .i32 0, .int .u8 0, .bool false, .bool false, .bool false, .bool false, .bool false, .bool false, .int .i64 0, .int .i64 0, .slice none 0 0, .int .i64 0, .string ⟨#[]⟩, .slice none 0 0, .slice none 0 0, .int .i8 0, .slice none 0 0, .pointer none, .slice none 0 0] 104)
      exact ⟨b1.os, b1.tape, b1.output, by simp, fun k hk => (setRow_other _ _ _ _ (by omega)).trans (b1.block k hk)⟩
    · have := setRow_heap _ W.heap.size _ cs _ _ (World.alloc_heap_new W (.cells #[.int .i64 0, .int .i64 0, .slice none 0 0, .int .i64 0, .int .i64 0, .int .i32 0, .int .i32 0, .int .u8 0, .bool false, .slice none 0 0, .int .i64 0, .int .i64 0, .int .i32 0, .int .i32 0, .int .u8 0, .bool false, .bool false, .bool false, .bool false, .bool false, .bool false, .int .i64 0, .int .i64 0, .slice none 0 0, .int .i64 0, .string ⟨#[]⟩, .slice none 0 0, .slice none 0 0, .int .i8 0, .slice none 0 0, .pointer none, .slice none 0 0] 104))
      rw [HC.out] at this ⊢
      exact this
  rw [<- hV1, <- hnb]
  have Q1 := zdy Q1
  clear hV1 GN IH H1 hnb
  go_simp
  go_cut [] from 9 to 22 (fun wx => ∃ v1 v2, Hid (P4 W nb t { L0 with c := v1, a := v2 } wx))
  case first =>
    have CN := zdy (Q1.out.below (Below.refl _ V1).drew)
    have l2 := (LD.out _ CN.out.bel).1
    have l9 := (LD.out _ CN.out.bel).2.1
    go_region_with (first
      | (go_at_call_of 60 (A1); refine (C1.out _ CN.out.bel).mono ?_; rintro e u1 ⟨v1, rfl, N1, hb⟩; obtain ⟨Bv1, dv1, ev1⟩ := N1.1.asSlice; subst ev1; have N1 := zdy (N1.up CN.out.own.lt); have CN := zdy (CN.out.below hb); clear hb; have l9 := (LD.out _ CN.out.bel).2.1; have k2 := CN.out.own.c 2 _ rfl; have f2 := CN.out.own.f 2)
      | (go_at_call_of 60 (A2); refine (C2.out _ CN.out.bel).mono ?_; rintro e u2 ⟨v2, rfl, N2, hb⟩; obtain ⟨Bv2, dv2, ev2⟩ := N2.1.asSlice; subst ev2; have DJ := zdy (vI (V' := u2) N1.out.1.lt N2.2); have N1 := zdy (N1.out.below hb); have N2 := zdy (N2.up CN.out.own.lt); have CN := zdy (CN.out.below hb); clear hb; have k2 := CN.out.own.c 2 _ rfl; have f2 := CN.out.own.f 2; have k9 := CN.out.own.c 9 _ rfl; have f9 := CN.out.own.f 9))
    all_goals (go_wp2_with fail)
    all_goals go_meet
    all_goals exact ⟨.slice Bv1 t.cells.length dv1, .slice Bv2 t.away.length dv2, zdy ⟨(CN.out.set (L' := { L0 with c := .slice Bv1 t.cells.length dv1 }) 2 _ rfl).set 9 _ rfl, N1.out.far.far, N2.out.far.far, DJ.out⟩⟩
  case rest =>
    obtain ⟨v1, v2, Q4⟩ := hcut
    obtain ⟨w4, hw4⟩ : ∃ w4, w4 = wc := ⟨_, rfl⟩
    subst hw4
    obtain ⟨L4, hL4⟩ : ∃ L4, L4 = ({ L0 with c := v1, a := v2 } : Lay) := ⟨_, rfl⟩
    rw [<- hL4] at Q4
    clear Q1 hL4 C1 C2
    go_upto_region 5 with fail
    go_cut [] from 23 to 34 (fun wx => ∃ v3 v4, Hid (P5 W nb t { L4 with s := v3, w := v4 } wx))
    case first =>
      have CN := zdy (Q4.out.below (Below.refl _ w4).drew)
      have l23 := (LD.out _ CN.out.cn.bel).2.2.1
      have l27 := (LD.out _ CN.out.cn.bel).2.2.2.1
      go_region_with (first
        | (go_at_call_of 63 (A3); refine (C3.out _ CN.out.cn.bel).mono ?_; rintro e u1 ⟨v3, rfl, N3, hb⟩; obtain ⟨Bv3, dv3, ev3⟩ := N3.1.asSlice; subst ev3; have N3 := zdy (N3.up CN.out.cn.own.lt); have CN := zdy (CN.out.below hb); clear hb; have l27 := (LD.out _ CN.out.cn.bel).2.2.2.1; have k23 := CN.out.cn.own.c 23 _ rfl; have f23 := CN.out.cn.own.f 23)
        | (go_at_call_of 63 (A4); refine (C4.out _ CN.out.cn.bel).mono ?_; rintro e u2 ⟨v4, rfl, N4, hb⟩; obtain ⟨Bv4, dv4, ev4⟩ := N4.1.asSlice; subst ev4; have DJ := zdy (vI (V' := u2) N3.out.1.lt N4.2); have N3 := zdy (N3.out.below hb); have N4 := zdy (N4.up CN.out.cn.own.lt); have CN := zdy (CN.out.below hb); clear hb; have k23 := CN.out.cn.own.c 23 _ rfl; have f23 := CN.out.cn.own.f 23; have k27 := CN.out.cn.own.c 27 _ rfl; have f27 := CN.out.cn.own.f 27))
      all_goals (go_wp2_with fail)
      all_goals go_meet
      all_goals exact ⟨.slice Bv3 t.stops.length dv3, .slice Bv4 t.wrt.length dv4, zdy ⟨(CN.out.set (L' := { L4 with s := .slice Bv3 t.stops.length dv3 }) 23 _ rfl rfl rfl).set 27 _ rfl rfl rfl, N3.out.far.far, N4.out.far.far, DJ.out⟩⟩
    case rest =>
      obtain ⟨v3, v4, Q5⟩ := hcut
      obtain ⟨w5, hw5⟩ : ∃ w5, w5 = wc := ⟨_, rfl⟩
      subst hw5
      obtain ⟨L5, hL5⟩ : ∃ L5, L5 = ({ L4 with s := v3, w := v4 } : Lay) := ⟨_, rfl⟩
      rw [<- hL5] at Q5
      clear Q4 hL5 C3 C4
      go_upto_region 6 with fail
      go_cut [] from 35 to 52 (fun wx => ∃ v5 v6 v7, Hid (P6 W nb t { L5 with r := v5, h := v6, k := v7 } wx))
      case first =>
        have CN := zdy (Q5.out.below (Below.refl _ w5).drew)
        have l26 := (LD.out _ CN.out.p.cn.bel).2.2.2.2.1
        have l29 := (LD.out _ CN.out.p.cn.bel).2.2.2.2.2.1
        have l31 := (LD.out _ CN.out.p.cn.bel).2.2.2.2.2.2
        go_region_with (first
          | (go_at_call_of 64 (A5); refine (C5.out _ CN.out.p.cn.bel).mono ?_; rintro e u1 ⟨v5, rfl, N5, hb⟩; obtain ⟨Bv5, dv5, ev5, _⟩ := id N5.1; subst ev5; have N5 := zdy (N5.up CN.out.p.cn.own.lt); have CN := zdy (CN.out.below hb); clear hb; have l29 := (LD.out _ CN.out.p.cn.bel).2.2.2.2.2.1; have l31 := (LD.out _ CN.out.p.cn.bel).2.2.2.2.2.2)
          | (go_at_call_of 64 (A6); refine (C6.out _ CN.out.p.cn.bel).mono ?_; rintro e u2 ⟨v6, rfl, N6, hb⟩; obtain ⟨Bv6, dv6, ev6, _⟩ := id N6.1; subst ev6; have DJ56 := zdy (vI (V' := u2) N5.out.1.lt N6.2); have N5 := zdy (N5.out.below hb); have N6 := zdy (N6.up CN.out.p.cn.own.lt); have CN := zdy (CN.out.below hb); clear hb; have l31 := (LD.out _ CN.out.p.cn.bel).2.2.2.2.2.2)
          | (go_at_call_of 64 (A7); refine (C7.out _ CN.out.p.cn.bel).mono ?_; rintro e u3 ⟨v7, rfl, N7, hb⟩; obtain ⟨Bv7, dv7, ev7, _⟩ := id N7.1; subst ev7; have DJ57 := zdy (vI (V' := u3) N5.out.1.lt N7.2); have DJ67 := zdy (vI (V' := u3) N6.out.1.lt N7.2); have N5 := zdy (N5.out.below hb); have N6 := zdy (N6.out.below hb); have N7 := zdy (N7.up CN.out.p.cn.own.lt); have CN := zdy (CN.out.below hb); clear hb
             have k26 := CN.out.p.cn.own.c 26 _ rfl; have f26 := CN.out.p.cn.own.f 26; have k29 := CN.out.p.cn.own.c 29 _ rfl; have f29 := CN.out.p.cn.own.f 29; have k31 := CN.out.p.cn.own.c 31 _ rfl; have f31 := CN.out.p.cn.own.f 31))
        all_goals (go_wp2_with fail)
        all_goals go_meet
        all_goals exact ⟨.slice Bv5 t.reps.size dv5, .slice Bv6 t.held.size dv6, .slice Bv7 t.kept.size dv7, zdy ⟨((CN.out.set (L' := { L5 with r := .slice Bv5 t.reps.size dv5 }) 26 _ rfl rfl rfl rfl rfl).set (L' := { L5 with r := .slice Bv5 t.reps.size dv5, h := .slice Bv6 t.held.size dv6 }) 29 _ rfl rfl rfl rfl rfl).set 31 _ rfl rfl rfl rfl rfl, N5.out.far.far.far, N6.out.far.far.far, N7.out.far.far.far, DJ56.out, DJ57.out, DJ67.out⟩⟩
      case rest =>
        obtain ⟨v5, v6, v7, Q6⟩ := hcut
        obtain ⟨w6, hw6⟩ : ∃ w6, w6 = wc := ⟨_, rfl⟩
        subst hw6
        obtain ⟨L6, hL6⟩ : ∃ L6, L6 = ({ L5 with r := v5, h := v6, k := v7 } : Lay) := ⟨_, rfl⟩
        rw [<- hL6] at Q6
        clear Q5 hL6 C5 C6 C7 LD TX
        have UN := zdy (d_uNew w6)
        obtain ⟨A8, c8, e8, q8⟩ := id Q6.out.k.1
        clear q8
        obtain ⟨X6, hX6⟩ : ∃ X6, X6 = w6.alloc (.cells #[.int .u8 0, .int .u8 0, .int .u8 0, .int .u8 0, .int .i64 0] 116) := ⟨_, rfl⟩
        have BX : Below w6.heap.size w6 X6 := by rw [hX6]; exact (Below.refl _ w6).alloc zdA _
        have K6 := (Q6.out.below BX).p.p.cn.own
        have k30 := K6.c 30 _ rfl
        have f30 := K6.f 30
        obtain ⟨X7, hX7⟩ : ∃ X7, X7 = X6.setCell ⟨nb, 30, none⟩ (.pointer (some ⟨w6.heap.size, 0, none⟩)) := ⟨_, rfl⟩
        have K7 : Bk X7 nb (trmV t { L6 with u := w6.heap.size }) 104 := by rw [hX7]; exact K6.set 30 _
        have D7 : DecAt X7 w6.heap.size zB := by
          have nlt := Q6.out.p.p.cn.own.lt
          refine ⟨0, 0, 0, 0, ?_, by decide, rfl⟩
          rw [hX7]
          refine Bk.of_eq (W := X6) (by rw [hX6]; exact Bk.new w6 _ _) (heap_setCell_other X6 ⟨nb, 30, none⟩ w6.heap.size _ (by simp only; omega))
        have k30' := K7.c 30 _ rfl
        have k31' := K7.c 31 _ rfl
        rw [show ({ L6 with u := w6.heap.size } : Lay).k = .slice A8 t.kept.size c8 from e8] at k31'
        have KK : KeptAt X7 (.slice A8 t.kept.size c8) t.kept := by
          have := ((Q6.out.below BX).k.far (i := 30) (y := .pointer (some ⟨w6.heap.size, 0, none⟩))).1
          rw [<- hX7, e8] at this
          exact this
        have FK := zdy (zdo w6.heap.size A8 t.kept.size c8 t.kept rfl KO.out X7 D7 KK)
        have HX6 := zdy hX6
        have HX7 := zdy hX7
        have FIN : Hid (∀ w', DecAt w' w6.heap.size t.kept -> Mv [w6.heap.size] X7 w' -> St W [] nb t w') := zdy (fun w' d m => P6.done EW.out Q6.out (by rw [hX7, hX6]) d m)
        clear Q6 BX K6 K7 D7 KK e8 EW KO hX6 hX7
        go_wp2_with fail
        refine UN.out.mono ?_; rintro e y7 ⟨rfl, ey⟩
        rw [ey, <- HX6.out]
        clear ey
        go_upto_region 8 with fail
        rw [<- HX7.out]
        clear k30 f30
        go_wp2_with fail
        refine FK.out.mono ?_; rintro e y8 ⟨⟨vv, rfl⟩, d8, m8⟩
        have SS := zdy (FIN.out y8 d8 m8)
        clear d8 m8
        go_wp2_with fail
        go_ret
        exact ⟨nb, rfl, SS.out⟩
end
end
section
open Go Go.RowKit Go.Sort
section
variable {W V V' : World} {xb yb : Nat} {tx ty tx' ty' : Trm}
structure Two (W V : World) (xb : Nat) (tx : Trm) (yb : Nat) (ty : Trm) (Z : List Nat) : Prop where
 g0 : EnvV W
 bel : Below W.heap.size W V
 lay : ∃ L1 L2, L1.b = xb /\ L2.b = yb /\ TrmAt V L1 tx /\ TrmAt V L2 ty /\ (∀ g ∈ L1.fp, W.heap.size <= g) /\ (∀ g ∈ L2.fp, W.heap.size <= g) /\ (∀ g ∈ L1.fp, g ∉ L2.fp) /\ ∀ z ∈ Z, z < V.heap.size /\ z ∉ L1.fp /\ z ∉ L2.fp
variable {Z : List Nat}
theorem new_notV (E : EnvV W) {b : Nat} (h : W.heap.size <= b) : NotV b := by
 have a := block_lt_of_cell (E.st.on 0 (by decide))
 have c := block_lt_of_cell (E.st.off 0 (by decide))
 have d := E.pg
 simp only at a c
 exact ⟨by omega, by omega, by omega⟩
end
section
end
end
section
open Go Go.RowKit Go.Sort
section
variable {W V V' : World} {T : List (Nat × Trm)} {Z : List Nat}
structure Herd (W V : World) (T : List (Nat × Trm)) (Z : List Nat) : Prop where
 g0 : EnvV W
 bel : Below W.heap.size W V
 lay : ∃ Lf : Nat -> Lay, (∀ i p, T[i]? = some p -> (Lf i).b = p.1 /\ TrmAt V (Lf i) p.2 /\ ∀ g ∈ (Lf i).fp, W.heap.size <= g) /\ (∀ i j, i < T.length -> j < T.length -> i ≠ j -> ∀ g ∈ (Lf i).fp, g ∉ (Lf j).fp) /\ ∀ z ∈ Z, z < V.heap.size /\ ∀ i, i < T.length -> z ∉ (Lf i).fp
theorem Herd.nil (E : EnvV W) (hb : Below W.heap.size W V) : Herd W V [] [] := ⟨E, hb, fun _ => ⟨0, 0, .bool true, .bool true, .bool true, .bool true, .bool true, .bool true, .bool true⟩, fun i p h => by simp at h, fun i j h => by simp at h, fun z h => by simp at h⟩
theorem Herd.env (h : Herd W V T Z) : EnvV V := h.g0.mv (Mv.below (F := []) h.bel) (by simp)
theorem Herd.below (h : Herd W V T Z) (hb : Below V.heap.size V V') : Herd W V' T Z := by
 obtain ⟨Lf, a, d, z⟩ := h.lay
 refine ⟨h.g0, h.bel.trans (hb.mono h.bel.size), Lf, fun i p hi => ?_, d, fun k m => ⟨Nat.lt_of_lt_of_le (z k m).1 hb.size, (z k m).2⟩⟩
 obtain ⟨e1, e2, e3⟩ := a i p hi
 exact ⟨e1, e2.keep (fun k m => hb.block k (e2.lt k m)), e3⟩
theorem Herd.drop (h : Herd W V T Z) : Herd W V T [] := by
 obtain ⟨Lf, a, d, z⟩ := h.lay
 exact ⟨h.g0, h.bel, Lf, a, d, fun z m => by simp at m⟩
theorem Herd.atAt (h : Herd W V T Z) (hb : Below V.heap.size V V') {i b : Nat} {t : Trm} (hi : T[i]? = some (b, t)) : ∃ F, St V' F b t V' /\ (∀ t' V'', St V' F b t' V'' -> Herd W V'' (T.set i (b, t')) Z /\ ∀ z ∈ Z, V''.heap[z]? = V'.heap[z]?) /\ (∀ b ∈ F, W.heap.size <= b) /\ ∀ b ∈ F, b < V.heap.size := by
 have h2 := h.below hb
 obtain ⟨Lf, a, d, z⟩ := h.lay
 have il : i < T.length := (List.getElem?_eq_some_iff.1 hi).1
 obtain ⟨e1, T0, n1⟩ := a i _ hi
 have T1 := T0.keep (fun k m => hb.block k (T0.lt k m))
 have zz : ∀ k ∈ Z, k < V'.heap.size := fun k m => Nat.lt_of_lt_of_le (z k m).1 hb.size
 refine ⟨(Lf i).fp, ⟨h2.env, Mv.refl _ _, fun b m => new_notV h2.g0 (n1 b m), Lf i, e1, T1, fun b m => Or.inl m⟩, fun t' V'' k => ⟨?_, fun j m => k.mv.blk j (zz j m) ((z j m).2 i il)⟩, n1, T0.lt⟩
 obtain ⟨L', e', T', f'⟩ := k.lay
 have old : ∀ j, j < V'.heap.size -> j ∈ L'.fp -> j ∈ (Lf i).fp := fun j lt m => (f' j m).elim id (fun q => by omega)
 refine ⟨h2.g0, ⟨k.mv.os.trans h2.bel.os, k.mv.tape.trans h2.bel.tape, k.mv.output.trans h2.bel.output, Nat.le_trans h2.bel.size k.mv.size, fun j hj => (k.mv.blk j (Nat.lt_of_lt_of_le hj h2.bel.size) (fun m => by have := n1 j m; omega)).trans (h2.bel.block j hj)⟩, fun j => if j = i then L' else Lf j, fun j p hj => ?_, fun j l hj hl ne => ?_, fun j m => ⟨Nat.lt_of_lt_of_le (zz j m) k.mv.size, fun l hl => ?_⟩⟩
 ·dsimp only
  by_cases e : j = i
  ·subst e
   rw [List.getElem?_set_self il] at hj
   cases hj
   rw [if_pos rfl]
   exact ⟨e', T', fun g m => (f' g m).elim (n1 g) (fun q => Nat.le_trans h2.bel.size q)⟩
  ·rw [List.getElem?_set_ne (fun q => e q.symm)] at hj
   rw [if_neg e]
   obtain ⟨q1, q2, q3⟩ := a j p hj
   have jl : j < T.length := (List.getElem?_eq_some_iff.1 hj).1
   have q2' := q2.keep (fun k m => hb.block k (q2.lt k m))
   exact ⟨q1, q2'.keep (fun g m => k.mv.blk g (q2'.lt g m) (fun m2 => d j i jl il e g m m2)), q3⟩
 ·rw [List.length_set] at hj hl
  have lo : ∀ x, x < T.length -> ∀ g ∈ (Lf x).fp, g < V'.heap.size := fun x hx g m => by
   obtain ⟨_, q2, _⟩ := a x T[x] (List.getElem?_eq_getElem hx)
   exact Nat.lt_of_lt_of_le (q2.lt g m) hb.size
  intro g m m2
  dsimp only at m m2
  by_cases e : j = i
  ·subst e
   rw [if_pos rfl] at m
   rw [if_neg (fun q => ne q.symm)] at m2
   exact d j l hj hl ne g (old g (lo l hl g m2) m) m2
  ·rw [if_neg e] at m
   by_cases e2 : l = i
   ·subst e2
    rw [if_pos rfl] at m2
    exact d j l hj hl e g m (old g (lo j hj g m) m2)
   ·rw [if_neg e2] at m2
    exact d j l hj hl ne g m m2
 ·rw [List.length_set] at hl
  intro m2
  dsimp only at m2
  by_cases e : l = i
  ·subst e
   rw [if_pos rfl] at m2
   exact (z j m).2 l hl (old j (zz j m) m2)
  ·rw [if_neg e] at m2
   exact (z j m).2 l hl m2
theorem Herd.at (h : Herd W V T Z) {i b : Nat} {t : Trm} (hi : T[i]? = some (b, t)) : ∃ F, St V F b t V /\ (∀ t' V'', St V F b t' V'' -> Herd W V'' (T.set i (b, t')) Z /\ ∀ z ∈ Z, V''.heap[z]? = V.heap[z]?) /\ (∀ b ∈ F, W.heap.size <= b) /\ ∀ b ∈ F, b < V.heap.size := h.atAt (Below.refl _ _) hi
theorem Herd.add (h : Herd W V T Z) {nb : Nat} {t : Trm} (hn : St V [] nb t V') : Herd W V' (T ++ [(nb, t)]) Z := by
 have hb : Below V.heap.size V V' := ki hn.mv
 have h2 := h.below hb
 obtain ⟨Lf, a, d, z⟩ := h.lay
 obtain ⟨L', e', T', f'⟩ := hn.lay
 have n2 : ∀ g ∈ L'.fp, V.heap.size <= g := fun g m => (f' g m).elim (fun z => by simp at z) id
 have lo : ∀ x, x < T.length -> ∀ g ∈ (Lf x).fp, g < V.heap.size := fun x hx g m => by
  obtain ⟨_, q2, _⟩ := a x T[x] (List.getElem?_eq_getElem hx)
  exact q2.lt g m
 refine ⟨h2.g0, h2.bel, fun j => if j = T.length then L' else Lf j, fun j p hj => ?_, fun j l hj hl ne => ?_, fun j m => ⟨Nat.lt_of_lt_of_le (z j m).1 hb.size, fun l hl => ?_⟩⟩
 ·dsimp only
  by_cases e : j = T.length
  ·subst e
   rw [if_pos rfl]
   rw [List.getElem?_append_right zdA, Nat.sub_self] at hj
   cases hj
   exact ⟨e', T', fun g m => Nat.le_trans h.bel.size (n2 g m)⟩
  ·rw [if_neg e]
   have jl : j < T.length := by
    have := (List.getElem?_eq_some_iff.1 hj).1
    simp only [List.length_append, List.length_cons, List.length_nil] at this
    omega
   rw [List.getElem?_append_left jl] at hj
   obtain ⟨q1, q2, q3⟩ := a j p hj
   exact ⟨q1, q2.keep (fun g m => hb.block g (q2.lt g m)), q3⟩
 ·simp only [List.length_append, List.length_cons, List.length_nil] at hj hl
  intro g m m2
  dsimp only at m m2
  by_cases e : j = T.length
  ·rw [if_pos e] at m
   rw [if_neg (fun q => ne (e.trans q.symm))] at m2
   have := lo l (by omega) g m2
   have := n2 g m
   omega
  ·rw [if_neg e] at m
   by_cases e2 : l = T.length
   ·rw [if_pos e2] at m2
    have := lo j (by omega) g m
    have := n2 g m2
    omega
   ·rw [if_neg e2] at m2
    exact d j l (by omega) (by omega) ne g m m2
 ·simp only [List.length_append, List.length_cons, List.length_nil] at hl
  intro m2
  dsimp only at m2
  by_cases e : l = T.length
  ·rw [if_pos e] at m2
   have := n2 j m2
   have := (z j m).1
   omega
  ·rw [if_neg e] at m2
   exact (z j m).2 l (by omega) m2
theorem Herd.other (h : Herd W V T Z) {g : Nat} {cur : Array Value} {Ty : TypeId} {fl : Nat × Nat} (hg : V.heap[g]? = some (.cells cur Ty fl)) (o : vF Ty) : Herd W V T (g :: Z) := by
 obtain ⟨Lf, a, d, z⟩ := h.lay
 refine ⟨h.g0, h.bel, Lf, a, d, fun j m => ?_⟩
 rcases List.mem_cons.1 m with rfl | m
 ·refine ⟨(Array.getElem?_eq_some_iff.1 hg).1, fun i hi => ?_⟩
  obtain ⟨_, q2, _⟩ := a i T[i] (List.getElem?_eq_getElem hi)
  exact q2.notTy hg o
 ·exact z j m
theorem Herd.newZ (h : Herd W V T Z) (hb : Below V.heap.size V V') {z : Nat} (h0 : V.heap.size <= z) (h1 : z < V'.heap.size) : Herd W V' T (z :: Z) := by
 have h2 := h.below hb
 obtain ⟨Lf, a, d, q⟩ := h.lay
 obtain ⟨Lf2, a2, d2, q2⟩ := h2.lay
 refine ⟨h2.g0, h2.bel, Lf, fun i p hi => ?_, d, fun j m => ?_⟩
 ·obtain ⟨e1, e2, e3⟩ := a i p hi
  exact ⟨e1, e2.keep (fun k m => hb.block k (e2.lt k m)), e3⟩
 ·rcases List.mem_cons.1 m with rfl | m
  ·refine ⟨h1, fun i hi m2 => ?_⟩
   obtain ⟨_, e2, _⟩ := a i T[i] (List.getElem?_eq_getElem hi)
   have := e2.lt j m2
   omega
  ·exact ⟨Nat.lt_of_lt_of_le (q j m).1 hb.size, (q j m).2⟩
theorem Herd.setZ (h : Herd W V T Z) {z i : Nat} (hz : z ∈ Z) (h0 : W.heap.size <= z) (v : Value) : Herd W (V.setCell ⟨z, i, none⟩ v) T Z := by
 obtain ⟨Lf, a, d, q⟩ := h.lay
 refine ⟨h.g0, h.bel.setCell (p := ⟨z, i, none⟩) h0 v, Lf, fun j p hj => ?_, d, fun j m => ⟨by simpa using (q j m).1, (q j m).2⟩⟩
 obtain ⟨e1, e2, e3⟩ := a j p hj
 exact ⟨e1, e2.keep (fun k m => heap_setCell_other V ⟨z, i, none⟩ k v (fun e => (q z hz).2 j (List.getElem?_eq_some_iff.1 hj).1 (by simp only at e; rw [<- e]; exact m))), e3⟩
end
end
section
open Go Go.RowKit Go.Sort
section
variable {W V : World} {xb yb : Nat} {tx ty : Trm} {Z : List Nat}
end
end
section
open Go Go.RowKit Go.Sort
def cntK (ev k : Nat) : Nat := (k + ev - 1) / ev
theorem ZG {a q r : Nat} (h : r < a) : (a * q + r) / a = q := by
 rw [Nat.mul_add_div (by omega), Nat.div_eq_of_lt h, Nat.add_zero]
theorem zdp {ev : Nat} (h0 : 0 < ev) : cntK ev 0 = 0 := by unfold cntK; rw [Nat.zero_add]; exact Nat.div_eq_of_lt (by omega)
theorem zaw {ev k : Nat} (h0 : 0 < ev) (h : k % ev = 0) : cntK ev k * ev = k /\ cntK ev (k + 1) = cntK ev k + 1 /\ cntK ev k = k / ev := by
 have e := Nat.div_add_mod k ev
 rw [h, Nat.add_zero] at e
 have c0 : cntK ev k = k / ev := by
  unfold cntK
  have : k + ev - 1 = ev * (k / ev) + (ev - 1) := by omega
  rw [this, ZG (by omega)]
 have c1 : cntK ev (k + 1) = k / ev + 1 := by
  unfold cntK
  have : k + 1 + ev - 1 = ev * (k / ev + 1) + 0 := by rw [Nat.mul_add]; omega
  rw [this, ZG h0]
 exact ⟨by rw [c0, Nat.mul_comm]; exact e, by rw [c0, c1], c0⟩
theorem zax {ev k : Nat} (h0 : 0 < ev) (h : k % ev ≠ 0) : cntK ev (k + 1) = cntK ev k /\ cntK ev k = k / ev + 1 := by
 have e := Nat.div_add_mod k ev
 have l := Nat.mod_lt k h0
 have c0 : cntK ev k = k / ev + 1 := by
  unfold cntK
  have : k + ev - 1 = ev * (k / ev + 1) + (k % ev - 1) := by rw [Nat.mul_add]; omega
  rw [this, ZG (by omega)]
 have c1 : cntK ev (k + 1) = k / ev + 1 := by
  unfold cntK
  have : k + 1 + ev - 1 = ev * (k / ev + 1) + (k % ev) := by rw [Nat.mul_add]; omega
  rw [this, ZG l]
 exact ⟨by rw [c0, c1], c0⟩
section
variable {W V V' : World} {T : List (Nat × Trm)} {Z : List Nat}
theorem Herd.mvZ (h : Herd W V T Z) {z : Nat} (hz : z ∈ Z) (h0 : W.heap.size <= z) (m : Mv [z] V V') : Herd W V' T Z := by
 obtain ⟨Lf, a, d, q⟩ := h.lay
 have far : ∀ k, k < V.heap.size -> k ≠ z -> V'.heap[k]? = V.heap[k]? := fun k lt ne => m.blk k lt (by simpa using ne)
 have bs := h.bel.size
 refine ⟨h.g0, h.bel.trans ⟨m.os, m.tape, m.output, m.size, fun k lt => far k (by omega) (by omega)⟩, Lf, fun j p hj => ?_, d, fun j mm => ⟨Nat.lt_of_lt_of_le (q j mm).1 m.size, (q j mm).2⟩⟩
 obtain ⟨e1, e2, e3⟩ := a j p hj
 exact ⟨e1, e2.keep (fun k mm => far k (e2.lt k mm) (fun e => (q z hz).2 j (List.getElem?_eq_some_iff.1 hj).1 (by rw [<- e]; exact mm))), e3⟩
theorem Herd.feedZ (h : Herd W V T Z) {i b : Nat} {t : Trm} (hi : T[i]? = some (b, t)) {A : Option Addr} {c : Nat} {D : List Int} (a : ArgB W A c D) (Lv : Live t) (hD : D.length <= 1048576) (hh : t.held.size + D.length <= 300000000) :
  Calls Tryz.prog 27 #[.pointer (some ⟨b, 0, none⟩), .slice A D.length c] V fun e w' => e = .returned (.int .i64 0) /\ Herd W w' (T.set i (b, qJ t D)) Z /\ ∀ z ∈ Z, w'.heap[z]? = V.heap[z]? := by
 obtain ⟨F, h1, up, hF, _⟩ := h.at hi
 refine (t_Feed h1 Lv A c D hD hh a.rng (a.fed h.bel hF)).mono ?_
 rintro e w' ⟨h2, h3⟩
 exact ⟨h2, (up _ _ h3).1, (up _ _ h3).2⟩
theorem Herd.cloneB (h : Herd W V T Z) {i b : Nat} {t : Trm} (hi : T[i]? = some (b, t)) (Lv : Live t) (hh : t.held.size <= 300000000) :
  Calls Tryz.prog 54 #[.pointer (some ⟨b, 0, none⟩)] V fun e w' => ∃ nb, e = .returned (.pointer (some ⟨nb, 0, none⟩)) /\ Herd W w' (T ++ [(nb, t)]) Z /\ Below V.heap.size V w' := by
 obtain ⟨F, h1, up, hF, _⟩ := h.at hi
 refine (zav h1 Lv.fine Lv.st.kept Lv.reps hh).mono ?_
 rintro e w' ⟨nb, h2, h3⟩
 exact ⟨nb, h2, h.add h3, ki h3.mv⟩
end
theorem vJ {w h : Int} {F : List Frm} (sz : zV w h = true) (rng : ∀ f ∈ F, Byt f.bs) (k : Nat) : Live (zP w h (F.take k)) /\ (zP w h (F.take k)).held.size <= (F.flatMap (·.bs)).length := by
 have s := of_decide_eq_true sz
 have L0 := live_new w h s.1 s.2.1 s.2.2.1 s.2.2.2.1 s.2.2.2.2
 have r : ∀ b ∈ (F.take k).flatMap (·.bs), 0 <= b /\ b < 256 := fun b m => by
  obtain ⟨f, mf, mb⟩ := List.mem_flatMap.1 m
  exact rng f (List.mem_of_mem_take mf) b mb
 obtain ⟨a, b⟩ := Qo _ L0 r
 refine ⟨a, Nat.le_trans b ?_⟩
 have e : (F.flatMap (·.bs)).length = ((F.take k).flatMap (·.bs)).length + ((F.drop k).flatMap (·.bs)).length := by
  rw [<- List.length_append, <- List.flatMap_append, List.take_append_drop]
 have z : (newV w h).held.size = 0 := rfl
 omega
def ptrV (b : Nat) : Value := .pointer (some ⟨b, 0, none⟩)
structure NwSt (W3 : World) (pb : Nat) (vf : Value) (ev : Nat) (w h : Int) (F : List Frm) (k b : Nat) (kh kb : List Nat) (vk : Value) (V : World) : Prop where
 herd : ∃ T, Herd W3 V T [] /\ T[0]? = some (b, zP w h (F.take k)) /\ ∀ j, (hj : j < kh.length) -> ∃ i : Nat, 0 < i /\ T[i]? = some (kh[j], zP w h (F.take (j * ev)))
 box : Bk V pb [vf, .int .i64 ev, vk] 92
 row : V.ownsRow W3.heap.size 43 1 vk kb.length (kb.map ptrV)
 pbw : W3.heap.size <= pb
section
variable {W3 V V' u w8 : World} {pb ev k b : Nat} {vf vk v' : Value} {w h : Int} {F : List Frm} {kh kb : List Nat}
theorem NwSt.below (N : NwSt W3 pb vf ev w h F k b kh kb vk V) (hb : Below V.heap.size V V') : NwSt W3 pb vf ev w h F k b kh kb vk V' := by
 obtain ⟨T, H, t0, ks⟩ := N.herd
 exact ⟨⟨T, H.below hb, t0, ks⟩, N.box.of_eq (hb.block _ N.box.lt), qc N.row hb, N.pbw⟩
theorem NwSt.old (N : NwSt W3 pb vf ev w h F k b kh kb vk V) : Below W3.heap.size W3 V := by obtain ⟨T, H, _⟩ := N.herd; exact H.bel
theorem NwSt.feed (N : NwSt W3 pb vf ev w h F k b kh kb vk V) (hk : k < F.length) {A : Option Addr} {c : Nat} (a : ArgB W3 A c (F[k]).bs) (sz : zV w h = true) (rng : ∀ f ∈ F, Byt f.bs) (hD : (F[k]).bs.length <= 1048576) (tot : (F.flatMap (·.bs)).length <= 268435456) :
  Calls Tryz.prog 27 #[.pointer (some ⟨b, 0, none⟩), .slice A (F[k]).bs.length c] V fun e w' => e = .returned (.int .i64 0) /\ NwSt W3 pb vf ev w h F (k + 1) b kh kb vk w' := by
 obtain ⟨T, H, t0, ks⟩ := N.herd
 obtain ⟨Lv, hl⟩ := vJ (w := w) (h := h) sz rng k
 have H1 := H.other (g := pb) (show V.heap[pb]? = _ from N.box) (by decide)
 have fin : ∀ Z w', Herd W3 w' (T.set 0 (b, qJ (zP w h (F.take k)) (F[k]).bs)) Z -> w'.heap[pb]? = V.heap[pb]? -> w'.ownsRow W3.heap.size 43 1 vk kb.length (kb.map ptrV) -> NwSt W3 pb vf ev w h F (k + 1) b kh kb vk w' := fun Z w' H2 e r => by
  rw [Kv w h F k hk] at H2
  have l0 : 0 < T.length := (List.getElem?_eq_some_iff.1 t0).1
  refine ⟨⟨_, H2.drop, List.getElem?_set_self l0, fun j hj => ?_⟩, N.box.of_eq e, r, N.pbw⟩
  obtain ⟨i, i0, hi⟩ := ks j hj
  exact ⟨i, i0, by rw [List.getElem?_set_ne (by omega)]; exact hi⟩
 rcases N.row.2 with ⟨e1, e2⟩ | ⟨g, cap, cur, e1, hb, hg, rest⟩
 ·refine (H1.feedZ t0 a Lv hD (by omega)).mono ?_
  rintro e w' ⟨h2, h3, h4⟩
  exact ⟨h2, fin _ w' h3 (h4 pb (by simp)) ⟨N.row.1, Or.inl ⟨e1, e2⟩⟩⟩
 ·have H2 := H1.other hg (by decide)
  refine (H2.feedZ t0 a Lv hD (by omega)).mono ?_
  rintro e w' ⟨h2, h3, h4⟩
  exact ⟨h2, fin _ w' h3 (h4 pb (by simp)) ⟨N.row.1, Or.inr ⟨g, cap, cur, e1, hb, (h4 g (by simp)).trans hg, rest⟩⟩⟩
theorem NwSt.clone (N : NwSt W3 pb vf ev w h F k b kb kb vk V) (hk : kb.length * ev = k) (sz : zV w h = true) (rng : ∀ f ∈ F, Byt f.bs) (tot : (F.flatMap (·.bs)).length <= 268435456) :
  Calls Tryz.prog 54 #[.pointer (some ⟨b, 0, none⟩)] V fun e w' => ∃ nb, e = .returned (.pointer (some ⟨nb, 0, none⟩)) /\ NwSt W3 pb vf ev w h F k b (kb ++ [nb]) kb vk w' /\ Below V.heap.size V w' := by
 obtain ⟨T, H, t0, ks⟩ := N.herd
 obtain ⟨Lv, hl⟩ := vJ (w := w) (h := h) sz rng k
 refine (H.cloneB t0 Lv (by omega)).mono ?_
 rintro e w' ⟨nb, h1, h2, h3⟩
 have l0 : 0 < T.length := (List.getElem?_eq_some_iff.1 t0).1
 refine ⟨nb, h1, ⟨⟨_, h2, by rw [List.getElem?_append_left l0]; exact t0, fun j hj => ?_⟩, N.box.of_eq (h3.block _ N.box.lt), qc N.row h3, N.pbw⟩, h3⟩
 by_cases lt : j < kb.length
 ·obtain ⟨i, i0, hi⟩ := ks j lt
  refine ⟨i, i0, ?_⟩
  rw [List.getElem?_append_left (List.getElem?_eq_some_iff.1 hi).1, List.getElem_append_left lt]
  exact hi
 ·have ej : j = kb.length := by simp at hj; omega
  subst ej
  refine ⟨T.length, l0, ?_⟩
  rw [List.getElem?_append_right zdA, Nat.sub_self, List.getElem_append_right zdA, hk]
  simp
theorem NwSt.last (N : NwSt W3 pb vf ev w h F k b kb kb vk V) (hk : kb.length * ev = k) : ∃ T, Herd W3 V T [] /\ ∀ j, (hj : j < (kb ++ [b]).length) -> ∃ i : Nat, T[i]? = some ((kb ++ [b])[j], zP w h (F.take (j * ev))) := by
 obtain ⟨T, H, t0, ks⟩ := N.herd
 refine ⟨T, H, fun j hj => ?_⟩
 by_cases lt : j < kb.length
 ·obtain ⟨i, i0, hi⟩ := ks j lt
  exact ⟨i, by rw [List.getElem_append_left lt]; exact hi⟩
 ·have ej : j = kb.length := by simp at hj; omega
  subst ej
  exact ⟨0, by rw [List.getElem_append_right zdA, hk]; simpa using t0⟩
theorem zay {T : List (Nat × Trm)} {nb : Nat} (H : Herd W3 V T []) (K : Bk V pb [vf, .int .i64 ev, vk] 92) (R : V.ownsRow W3.heap.size 43 1 vk kb.length (kb.map ptrV)) (pw : W3.heap.size <= pb) (hu : Below V.heap.size V u) (hg : u.grownBy w8 vk.ownBlock)
  (ho : w8.ownsRow W3.heap.size 43 1 v' (kb.length + 1) (kb.map ptrV ++ [ptrV nb])) : Herd W3 (w8.setCell ⟨pb, 2, none⟩ v') T [] /\ Bk (w8.setCell ⟨pb, 2, none⟩ v') pb [vf, .int .i64 ev, v'] 92 /\ (w8.setCell ⟨pb, 2, none⟩ v').ownsRow W3.heap.size 43 1 v' (kb ++ [nb]).length ((kb ++ [nb]).map ptrV) := by
 have Hu := H.below hu
 have Ku : Bk u pb [vf, .int .i64 ev, vk] 92 := K.of_eq (hu.block _ K.lt)
 have Ru := qc R hu
 have kp := xL Ru hg
 have K8 : Bk w8 pb [vf, .int .i64 ev, vk] 92 := Ku.of_eq (kp pb _ _ _ Ku (by decide))
 have H8 : Herd W3 w8 T [] := by
  rcases Ru.2 with ⟨e1, e2⟩ | ⟨g, cap, cur, e1, hb, hg2, rest⟩
  ·rw [e1] at hg
   exact Hu.below ⟨hg.os, hg.tape, hg.output, hg.size, fun j lt => hg.block j lt (by simp [Value.ownBlock])⟩
  ·rw [e1] at hg
   exact ((Hu.other hg2 (by decide)).mvZ (by simp) hb ⟨hg.os, hg.tape, hg.output, hg.size, fun j lt ne => hg.block j lt (by simpa [Value.ownBlock] using ne)⟩).drop
 have K9 := K8.set 2 v'
 refine ⟨((H8.other (g := pb) (show w8.heap[pb]? = _ from K8) (by decide)).setZ (by simp) pw v').drop, K9, ?_⟩
 rw [List.length_append, List.map_append]
 refine Zp ho (fun j cu e => heap_setCell_other _ _ _ _ (fun z => ?_))
 simp only at z
 subst z
 unfold Bk at K8
 rw [K8] at e
 cases e
theorem NwSt.push {nb : Nat} (N : NwSt W3 pb vf ev w h F k b (kb ++ [nb]) kb vk V) (hu : Below V.heap.size V u) (hg : u.grownBy w8 vk.ownBlock)
  (ho : w8.ownsRow W3.heap.size 43 1 v' (kb.length + 1) (kb.map ptrV ++ [ptrV nb])) : NwSt W3 pb vf ev w h F k b (kb ++ [nb]) (kb ++ [nb]) v' (w8.setCell ⟨pb, 2, none⟩ v') := by
 obtain ⟨T, H, t0, ks⟩ := N.herd
 obtain ⟨a, b', c⟩ := zay H N.box N.row N.pbw hu hg ho
 exact ⟨⟨T, a, t0, ks⟩, b', c, N.pbw⟩
end
def PlayAt (W3 : World) (pb : Nat) (w h : Int) (F : List Frm) (ev : Nat) (V : World) : Prop := ∃ (Af : Option Addr) (cf : Nat) (L : List FA) (kb : List Nat) (vk : Value) (T : List (Nat × Trm)),
 frms L = F /\ FrsD W3 W3.heap.size Af cf L /\ Bk V pb [.slice Af L.length cf, .int .i64 ev, vk] 92 /\ V.ownsRow W3.heap.size 43 1 vk kb.length (kb.map ptrV) /\ Herd W3 V T [] /\
 (∀ j, (hj : j < kb.length) -> ∃ i : Nat, T[i]? = some (kb[j], zP w h (F.take (j * ev)))) /\ kb.length = F.length / ev + 1 /\ 0 < ev /\ W3.heap.size <= pb
theorem PlayAt.below {W3 V V' : World} {pb : Nat} {w h : Int} {F : List Frm} {ev : Nat} (P : PlayAt W3 pb w h F ev V) (hb : Below V.heap.size V V') : PlayAt W3 pb w h F ev V' := by
 obtain ⟨Af, cf, L, kb, vk, T, h1, h2, h3, h4, h5, h6⟩ := P
 exact ⟨Af, cf, L, kb, vk, T, h1, h2, h3.of_eq (hb.block _ h3.lt), qc h4 hb, h5.below hb, h6⟩
end
section
open Go Go.RowKit Go.Sort
section
theorem infoTp : (Tryz.prog.info? 43).map (fun i => (i.zero, i.size, i.bytes)) = some (some (.pointer none), 1, 8) := by kernel_rfl
def NewR (W : World) (w h : Int) (l : List Frm) (every : Int) (e : Ending) (w' : World) : Prop := ∃ v, e = .returned (.tuple #[v, .int .i64 (newC w h l every)]) /\ Below W.heap.size W w' /\ (newC w h l every ≠ 0 -> v = .pointer none) /\
 (newC w h l every = 0 -> ∃ W3 pb ev, v = .pointer (some ⟨pb, 0, none⟩) /\ PlayAt W3 pb w h l ev w' /\ Below W.heap.size W W3)
theorem Jq {W w' : World} {w h : Int} {l : List Frm} {every k : Int} (e : newC w h l every = k) (ne : k ≠ 0) (hb : Below W.heap.size W w') : NewR W w h l every (.returned (.tuple #[.pointer none, .int .i64 k])) w' := ⟨_, by rw [e], hb, fun _ => rfl, fun z => absurd (e.symm.trans z) ne⟩
theorem zaz {w : World} {lo n c : Nat} {A : Option Addr} {L : List FA} (h : w.ownsRow lo 47 2 (.slice A n c) L.length (L.flatMap frV)) (hl : L.length <= 1000000) (ok : ∀ x ∈ L, FrD w w.heap.size x) : FrsD w w.heap.size A c L := by
 refine ⟨fun e => ?_, ?_, by omega, fun ne => ?_, ok⟩
 ·rcases h.2 with ⟨z, _⟩ | ⟨g, cap, cur, z, _⟩
  ·cases z; rfl
  ·cases z; cases e
 ·rcases h.2 with ⟨z, y⟩ | ⟨g, cap, cur, z, _, _, y, _⟩
  ·omega
  ·cases z; exact y
 ·rcases h.2 with ⟨z, y⟩ | ⟨g, cap, cur, z, _, e, y, _⟩
  ·exact absurd (List.eq_nil_of_length_eq_zero (by rw [h.1, y])) ne
  ·cases z
   refine ⟨_, rfl, (Array.getElem?_eq_some_iff.1 e).1, fun j u hj => h.cells (g := g) rfl j u hj⟩
theorem cop_frsD {LO : Nat} {W w : World} {g : Nat} {A : Option Addr} {n c : Nat} {L : List FA} {v : Value} (h : CopAt LO W g (zt L).length [] 0 L v w) (e : v = .slice A n c) (hl : L.length <= 1000000) (tot : (zt L).length <= 140737488355328) (ok : ∀ x ∈ L, Byt x.b.bs /\ 0 <= x.at_ /\ x.at_ <= 1099511627776) :
  n = (cpF g 0 0 L).length /\ FrsD w w.heap.size A c (cpF g 0 0 L) := by
 have o := h.own
 rw [List.nil_append, e] at o
 have e2 := xa o rfl
 cases e2
 exact ⟨rfl, zaz o (by rw [vu]; omega) (Zm h.row 0 tot L 0 [] (by simp) (fun x m => ⟨(ok x m).1, by have := ok x m; omega, by have := ok x m; omega⟩))⟩
theorem FrsD.arg {W : World} {A : Option Addr} {c : Nat} {L : List FA} (h : FrsD W W.heap.size A c L) (k : Nat) (hk : k < L.length) : ArgB W (L[k]).b.A (L[k]).b.c (L[k]).b.bs := by
 have b := (h.ok _ (List.getElem_mem hk)).b
 exact ⟨b.cap, b.rng, b.sees⟩
theorem xO (L : List FA) (k : Nat) (hk : k < L.length) : (frms L)[k]'(by rw [qx]; exact hk) = ⟨(L[k]).at_, (L[k]).b.bs⟩ := by unfold frms; rw [List.getElem_map]; rfl
theorem Jr (L : List FA) : (frms L).flatMap (·.bs) = zt L := by
 unfold frms zt
 rw [List.flatMap_map]
 rfl
set_option maxHeartbeats 16000000 in
set_option maxRecDepth 100000 in
theorem t_PNew (w h : Int) (A : Option Addr) (c : Nat) (L : List FA) (every : Int) (B : Nat) (W : World) (E : EnvV W) (D : FrsD W B A c L) (hB : B <= W.heap.size) (tot : (zt L).length <= 268435456) (he : -9223372036854775808 <= every /\ every <= 9223372036854775807) :
    Calls Tryz.prog 25 #[.agg #[.int .i64 w, .int .i64 h], .slice A L.length c, .int .i64 every] W (NewR W w h (frms L) every) := by
  obtain ⟨i0, hi0, hz0, hz1, hz2⟩ := info_parts infoTp
  obtain ⟨Q, hQ⟩ : ∃ Q, Q = W.alloc (.cells #[.int .i64 w, .int .i64 h] 23) := ⟨_, rfl⟩
  have BQ := zdy (show Below W.heap.size W Q by rw [hQ]; exact (Below.refl _ W).alloc zdA _)
  have K : Bk Q W.heap.size [.int .i64 w, .int .i64 h] 23 := by rw [hQ]; exact Bk.new W _ _
  have k0 := K.c 0 _ rfl
  have k1 := K.c 1 _ rfl
  have KQ := zdy K
  have HQ := zdy hQ
  have S1 := zdy (Kg w h Q)
  have CK := zdy (fun (w1 : World) (hb : Below Q.heap.size Q w1) => Kj A c L B w1 (D.below (BQ.out.trans (hb.mono BQ.out.size)) hB) (Nat.le_trans hB (Nat.le_trans BQ.out.size hb.size)))
  have HD := zdy D
  have HE := zdy E
  have HBB := zdy hB
  have HT := zdy tot
  obtain ⟨l, hl⟩ : ∃ l, l = frms L := ⟨_, rfl⟩
  rw [<- hl] at CK
  rw [<- hl]
  have HL := zdy hl
  clear K hQ hl D E hB tot
  go_enter Tryz.func25, Tryz.ntmps25
  go_upto_region 1 with fail
  rw [<- HQ.out]
  clear HQ
  go_wp2_with fail
  refine S1.out.mono ?_; rintro e w1 ⟨rfl, hb1⟩
  have B1 := zdy hb1
  clear S1 hb1
  obtain ⟨sz, hsz⟩ : ∃ sz, sz = zV w h := ⟨_, rfl⟩
  rw [<- hsz]
  have HSZ := zdy hsz
  clear hsz
  cases sz with
  | false =>
    have EN := zdy (Jq (W := W) (l := l) (show newC w h l every = 5 by unfold newC; rw [if_pos HSZ.out.symm]) (by decide) (BQ.out.trans (B1.out.mono BQ.out.size)))
    clear CK
    go_wp2_with fail
    go_ret2
    exact EN.out
  | true =>
    have C1 := zdy (CK.out w1 B1.out)
    clear CK
    obtain ⟨ck, hck⟩ : ∃ ck, ck = qF l := ⟨_, rfl⟩
    rw [<- hck] at C1
    have HCK := zdy hck
    clear hck
    go_wp2_with fail
    refine C1.out.mono ?_; rintro e w2 ⟨rfl, hb2⟩
    have B2 := zdy (B1.out.trans (hb2.mono B1.out.size))
    clear C1 B1 hb2
    by_cases c0 : ck = 0
    case neg =>
      have c0' : (ck == 0) = false := by simpa using c0
      have EN := zdy (Jq (W := W) (l := l) (show newC w h l every = ck by unfold newC; rw [if_neg (by rw [<- HSZ.out]; decide), <- HCK.out, if_pos c0]) c0 (BQ.out.trans (B2.out.mono BQ.out.size)))
      go_wp2_with fail
      go_ret2
      exact EN.out
    subst c0
    by_cases e1 : every < 1
    case pos =>
      have EN := zdy (Jq (W := W) (l := l) (show newC w h l every = 2 by unfold newC; rw [if_neg (by rw [<- HSZ.out]; decide), <- HCK.out, if_neg (by decide), if_pos e1]) (by decide) (BQ.out.trans (B2.out.mono BQ.out.size)))
      go_wp2_with fail
      go_ret2
      exact EN.out
    have NC := zdy (show newC w h l every = 0 by unfold newC; rw [if_neg (by rw [<- HSZ.out]; decide), <- HCK.out, if_neg (by decide), if_neg e1])
    obtain ⟨p1, p2, p3⟩ := Zf HCK.out.symm
    have OKL : ∀ x ∈ L, x.b.bs.length <= 1048576 /\ 0 <= x.at_ /\ x.at_ <= 1099511627776 := fun x m => by
      obtain ⟨j, hj, rfl⟩ := List.mem_iff_getElem.1 m
      have hj2 : j < (frms L).length := by rw [qx]; exact hj
      rw [HL.out] at p1 p3
      have a := Kw p1 _ (List.getElem_mem hj2)
      have b := Zo _ 0 p3 j j hj2 zdA
      rw [xO L j hj] at a b
      exact ⟨a, b.2⟩
    have ln : L.length <= 16384 := by rw [HL.out, qx] at p2; exact p2
    have D2 := HD.out.below (BQ.out.trans (B2.out.mono BQ.out.size)) HBB.out
    have CP := zdy (KD w2.heap.size (.slice none 0 0) [] A c L B 0 w2 ⟨rfl, Or.inl ⟨rfl, rfl⟩⟩ zdA D2 (Nat.le_trans HBB.out (Nat.le_trans BQ.out.size B2.out.size)) ln (fun x m => (OKL x m).1) (fun x m => (OKL x m).2) ⟨by decide, by decide⟩ (by decide))
    have OKH := zdy OKL
    have HLN := zdy ln
    obtain ⟨ev, hev⟩ : ∃ ev : Nat, (ev : Int) = min every 16385 := ⟨(min every 16385).toNat, by omega⟩
    clear OKL D2 p1 p2 p3 ln
    go_wp2_with fail
    refine CP.out.mono ?_; rintro e w3 ⟨v3, g3, rfl, C3⟩
    obtain ⟨Af, cf, e3⟩ := xq C3.own
    obtain ⟨e4, FD⟩ := cop_frsD C3 e3 (by have := HLN.out; omega) (by have := HT.out; omega) (fun x m => by
      obtain ⟨j, hj, rfl⟩ := List.mem_iff_getElem.1 m
      exact ⟨(HD.out.ok _ (List.getElem_mem hj)).b.rng, (OKH.out _ m).2⟩)
    rw [e4] at e3
    obtain ⟨M, hM⟩ : ∃ M, M = cpF g3 0 0 L := ⟨_, rfl⟩
    rw [<- hM] at FD e3
    have EM : frms M = l := by rw [hM, Zl, QE, <- HL.out]
    subst e3
    have B3 := (BQ.out.trans (B2.out.mono BQ.out.size)).trans (C3.bel.mono (Nat.le_trans BQ.out.size B2.out.size))
    have E3 : EnvV w3 := HE.out.mv (Mv.below (F := []) B3) (by simp)
    have KS : Bk w3 W.heap.size [.int .i64 w, .int .i64 h] 23 := KQ.out.of_eq ((C3.bel.block _ (Nat.lt_of_lt_of_le KQ.out.lt B2.out.size)).trans (B2.out.block _ KQ.out.lt))
    obtain ⟨n, hn⟩ : ∃ n, n = M.length := ⟨_, rfl⟩
    have nL : n <= 16384 := by rw [hn, hM, vu]; exact HLN.out
    have fl : (l.flatMap (·.bs)).length <= 268435456 := by rw [HL.out, Jr]; exact HT.out
    have rb : ∀ f ∈ l, Byt f.bs := fun f m => by
      rw [<- EM] at m
      obtain ⟨x, mx, rfl⟩ := List.mem_map.1 m
      exact (FD.ok x mx).b.rng
    have lb : ∀ f ∈ l, f.bs.length <= 1048576 := Kw (Zf HCK.out.symm).1
    rw [<- hn]
    obtain ⟨X, hX⟩ : ∃ X, X = w3.alloc (.cells #[.slice Af n cf, .int .i64 (ev : Int), .slice none 0 0] 92) := ⟨_, rfl⟩
    have BX : Below w3.heap.size w3 X := by rw [hX]; exact (Below.refl _ w3).alloc zdA _
    have KX : Bk X w3.heap.size [.slice Af n cf, .int .i64 (ev : Int), .slice none 0 0] 92 := by rw [hX]; exact Bk.new w3 _ _
    have EX : EnvV X := E3.mv (Mv.below (F := []) BX) (by simp)
    have zz := of_decide_eq_true (show zV w h = true from HSZ.out.symm)
    have TN := zdy (t_New w h zz.1 zz.2.1 zz.2.2.1 zz.2.2.2.1 zz.2.2.2.2 X EX)
    have KS2 := KS.of_eq (BX.block _ KS.lt)
    have s0 := KS2.c 0 _ rfl
    have s1 := KS2.c 1 _ rfl
    obtain ⟨pb, hpb⟩ : ∃ pb, pb = w3.heap.size := ⟨_, rfl⟩
    rw [<- hpb] at KX
    have H0 := (Herd.nil E3 (Below.refl _ w3)).newZ BX (z := pb) (by rw [hpb]; exact zdA) KX.lt
    have HKX := zdy KX
    have HH0 := zdy H0
    have HFD := zdy FD
    have HEM := zdy EM
    have HB3 := zdy B3
    have HN := zdy hn
    have HNL := zdy nL
    have HFL := zdy (And.intro fl (And.intro rb lb))
    have HX := zdy hX
    have HPB := zdy hpb
    clear CP C3 FD EM B3 E3 KS fl rb lb hX BX KX EX zz KS2 hpb H0 hM hn e4
    have ev0 : 0 < ev := by omega
    have evl : ev <= 16385 := by omega
    have HEV := zdy hev
    clear hev
    go_upto_region 9 with fail
    rw [<- HEV.out, <- HX.out, <- HPB.out]
    clear HX
    go_wp2_with fail
    refine TN.out.mono ?_; rintro e w4 ⟨b, rfl, hb4, hge4, hs4⟩
    have N0 : Hid (NwSt w3 pb (.slice Af n cf) ev w h l 0 b [] [] (.slice none 0 0) w4) := zdy ⟨⟨[(b, newV w h)], ((HH0.out.add hs4).drop), by rw [List.take_zero]; rfl, fun j hj => by simp at hj⟩, HKX.out.of_eq (hb4.block _ HKX.out.lt), ⟨rfl, Or.inl ⟨rfl, rfl⟩⟩, by rw [HPB.out]; exact zdA⟩
    have p0 := N0.out.box.c 0 _ rfl
    clear TN hb4 hge4 hs4 HH0 HKX s0 s1
    go_wp2_with fail
    go_loopw [46] (fun s46 wr => ∃ (k : Nat) (kb : List Nat) (vk : Value), k <= n /\ s46 = .int .i64 (k : Int) /\ kb.length = cntK ev k /\ kb.length <= k /\ Hid (NwSt w3 pb (.slice Af n cf) ev w h l k b kb kb vk wr)) (fun s46 _ => n - (intOf s46).toNat)
    case atStart => exact ⟨0, [], _, Nat.zero_le _, rfl, (zdp ev0).symm, zdA, N0⟩
    case round =>
      obtain ⟨k, kb, vk, hk, rfl, hc, hkl, he⟩ := hrel
      clear N0
      by_cases lt : k < n
      · have kl : k < M.length := by rw [<- HN.out]; exact lt
        have klf : k < l.length := by rw [<- HEM.out, qx]; exact kl
        obtain ⟨ad, rfl, lb, z1, z2⟩ := (HFD.out.below he.out.old zdA).at k kl
        have AR := HFD.out.arg k kl
        have GT : (l[k]).bs = (M[k]).b.bs := by
          have := xO M k kl
          have e := HEM.out
          subst e
          rw [this]
        have FD2 := zdy (fun (wr : World) (N : NwSt w3 pb (.slice (some ad) n cf) ev w h l k b (kb) kb vk wr) => N.feed klf (by rw [GT]; exact AR))
        generalize hxx : M[k] = x at *
        obtain ⟨xt, xA, xc, bs⟩ := x
        dsimp only at z1 z2 AR GT
        have q0 : (0 : Int) <= (k : Int) := by omega
        have q5 : (k : Int) < (n : Int) := by omega
        have tn : (k : Int).toNat = k := by omega
        have wk := zdz ((k : Int) + 1) (by omega)
        have FEED : Hid (∀ (wr : World) (kb' : List Nat) (vk' : Value), NwSt w3 pb (.slice (some ad) n cf) ev w h l k b kb' kb' vk' wr -> Calls Tryz.prog 27 #[.pointer (some ⟨b, 0, none⟩), .slice xA bs.length xc] wr fun e w' => e = .returned (.int .i64 0) /\ NwSt w3 pb (.slice (some ad) n cf) ev w h l (k + 1) b kb' kb' vk' w') := zdy (fun wr kb' vk' N => by
          have := N.feed klf (A := xA) (c := xc) (by rw [GT]; exact AR) HSZ.out.symm HFL.out.2.1 (HFL.out.2.2 _ (List.getElem_mem klf)) HFL.out.1
          rw [GT] at this
          exact this)
        obtain ⟨Q5, hQ5⟩ : ∃ Q5, Q5 = wr.alloc (.cells #[.int .i64 xt, .slice xA bs.length xc] 47) := ⟨_, rfl⟩
        have hb5 : Below wr.heap.size wr Q5 := by rw [hQ5]; exact (Below.refl _ wr).alloc zdA _
        have K5 : Bk Q5 wr.heap.size [.int .i64 xt, .slice xA bs.length xc] 47 := by rw [hQ5]; exact Bk.new wr _ _
        have N5 := he.out.below hb5
        have c1 := N5.box.c 1 _ rfl
        have HQ5 := zdy hQ5
        have HK5 := zdy K5
        have HN5 := zdy N5
        have rm : Int.tmod (k : Int) (ev : Int) = ((k % ev : Nat) : Int) := by rw [Int.tmod_eq_emod_of_nonneg (by omega)]; simp
        have ne0 : ¬ (ev : Int) = 0 := by omega
        have HC := zdy hc
        clear hxx hb5 K5 N5 hQ5 he FD2 GT AR lb
        obtain ⟨md, hmd⟩ : ∃ md, md = k % ev := ⟨_, rfl⟩
        rw [<- hmd] at rm
        have HMD := zdy hmd
        have mdl : md < 16385 := by rw [hmd]; exact Nat.lt_of_lt_of_le (Nat.mod_lt _ ev0) evl
        clear hmd hc
        go_upto_region 15 with fail
        rw [<- HQ5.out]
        clear HQ5 z1 z2
        go_upto_if 57 with fail
        go_cut [] from 58 to 68 (fun wx => ∃ kb' vk', Hid (NwSt w3 pb (.slice (some ad) n cf) ev w h l k b kb' kb' vk' wx /\ Bk wx wr.heap.size [.int .i64 xt, .slice xA bs.length xc] 47 /\ kb'.length = cntK ev (k + 1) /\ kb'.length <= k + 1))
        case first =>
          by_cases hit : md = 0
          · subst hit
            have NV := HN5.out.below (Below.refl _ Q5).drew
            have ck := zaw ev0 HMD.out.symm
            have ek : kb.length * ev = k := by rw [HC.out]; exact ck.1
            obtain ⟨Ak, kc, evk⟩ := qU NV.row
            subst evk
            obtain ⟨nk, hnk⟩ : ∃ nk, nk = kb.length := ⟨_, rfl⟩
            have c2 := HN5.out.box.c 2 _ rfl
            have d2 := NV.box.c 2 _ rfl
            have CLN := zdy (NV.clone ek HSZ.out.symm HFL.out.2.1 HFL.out.1)
            have HNK := zdy hnk
            have CK1 := zdy ck.2.1
            have KF := zdy (HK5.out.of_eq ((Below.refl _ Q5).drew.block _ HK5.out.lt))
            have nkl : nk <= 16384 := by omega
            have H2 : Hid (nk + 1 <= maxLen) := zdy (by unfold maxLen; omega)
            have H3 : Hid ((nk + 1) * 8 <= 140737488355328) := zdy (by omega)
            have H1 : Hid (∀ nb, ∀ u ∈ [ptrV nb], u.oneCell' = true) := zdy (by intro nb u hu; simp at hu; subst hu; rfl)
            have NXX : Hid (∀ (nb : Nat) (w5 w8 : World) (v' : Value), NwSt w3 pb (.slice (some ad) n cf) ev w h l k b (kb ++ [nb]) kb (.slice Ak nk kc) w5 -> Below Q5.drew.heap.size Q5.drew w5 -> w8.ownsRow w3.heap.size 43 1 v' (nk + 1) (kb.map ptrV ++ [ptrV nb]) -> (w5.alloc (.cells #[ptrV nb] 43)).grownBy w8 (Value.slice Ak nk kc).ownBlock -> ∃ A4 c4 l4, v' = .slice A4 l4 c4 /\ (Bk w8 pb [.slice (some ad) n cf, .int .i64 (ev : Int), .slice Ak nk kc] 92) /\ NwSt w3 pb (.slice (some ad) n cf) ev w h l k b (kb ++ [nb]) (kb ++ [nb]) (.slice A4 l4 c4) (w8.setCell ⟨pb, 2, none⟩ (.slice A4 l4 c4)) /\ Bk (w8.setCell ⟨pb, 2, none⟩ (.slice A4 l4 c4)) wr.heap.size [.int .i64 xt, .slice xA bs.length xc] 47 /\ (kb ++ [nb]).length = cntK ev (k + 1) /\ (kb ++ [nb]).length <= k + 1) := zdy (fun nb w5 w8 v' N6 hb6 ho hg => by
              obtain ⟨A4, c4, e⟩ := qU ho
              have bu : Below w5.heap.size w5 (w5.alloc (.cells #[ptrV nb] 43)) := (Below.refl _ w5).alloc zdA _
              have P := N6.push bu hg (by rw [<- HNK.out]; exact ho)
              have kp := xL (qc N6.row bu) hg
              have KB := N6.box.of_eq (bu.block _ N6.box.lt)
              have KB8 := KB.of_eq (kp pb _ _ _ KB (by decide))
              have KF5 := KF.out.of_eq (hb6.block _ KF.out.lt)
              have KFu := KF5.of_eq (bu.block _ KF5.lt)
              have KF8 := KFu.of_eq (kp wr.heap.size _ _ _ KFu (by decide))
              rw [e] at P
              refine ⟨A4, c4, _, e, KB8, P, KF8.of_eq (heap_setCell_other _ _ _ _ (fun z => ?_)), by rw [List.length_append, <- HNK.out, CK1.out, HNK.out, HC.out]; rfl, by rw [List.length_append]; simp; omega⟩
              simp only at z
              have t1 := KF8
              have t2 := KB8
              unfold Bk at t1 t2
              rw [z, t2] at t1
              cases t1)
            have OWW : Hid (∀ (nb : Nat) (w5 : World), NwSt w3 pb (.slice (some ad) n cf) ev w h l k b (kb ++ [nb]) kb (.slice Ak nk kc) w5 -> (w5.alloc (.cells #[ptrV nb] 43)).ownsRow w3.heap.size 43 1 (.slice Ak nk kc) nk (kb.map ptrV) /\ w3.heap.size <= (w5.alloc (.cells #[ptrV nb] 43)).heap.size) := zdy (fun nb w5 N6 => ⟨by rw [HNK.out]; exact qc (by have := N6.row; rw [HNK.out] at this; exact this) ((Below.refl _ w5).alloc zdA _), by have := N6.old.size; simp; omega⟩)
            rw [<- hnk] at c2 d2 CLN
            clear NV hnk ck ek c1 hkl
            unfold ptrV at OWW NXX H1
            go_upto_region 16 with fail
            go_region_law (first
              | (refine QR _ rfl (.tmp 62) (.tmp 65) 90 rfl w3.heap.size 43 i0 (.pointer none) 1 8 Tryz.underlying90 hi0 hz0 hz1 hz2 rfl (by decide) (.slice Ak nk kc) nk _ rfl (OWW.out _ _ N6.out).1 ⟨w5.heap.size, 0, none⟩ 1 1 [.pointer (some ⟨nb, 0, none⟩)] rfl rfl NW.out (H1.out nb) H2.out H3.out (OWW.out _ _ N6.out).2 ?_
                 intro v' w8 hown3 hg3 _
                 obtain ⟨A4, c4, l4, rfl, K8, P4⟩ := NXX.out nb w5 w8 v' N6.out HB6.out hown3 hg3
                 have x2 := K8.c 2 _ rfl
                 have f2 := K8.f 2
                 have P4 := zdy P4
                 clear hown3 hg3 K8)
              | (go_simp; go_at_call 54
                 refine CLN.out.mono ?_
                 rintro e w5 ⟨nb, rfl, N6, hb6⟩
                 have e2 := N6.box.c 2 _ rfl
                 have e3 := (N6.box.of_eq (((Below.refl _ w5).alloc zdA (.cells #[.pointer (some ⟨nb, 0, none⟩)] 43)).block _ N6.box.lt)).c 2 _ rfl
                 have N6 := zdy N6
                 have HB6 := zdy hb6
                 have NW := zdy (qT w5 [.pointer (some ⟨nb, 0, none⟩)] 43)
                 clear hb6))
            all_goals (go_wp2_with fail)
            all_goals go_meet
            all_goals exact ⟨_, _, P4⟩
          · have FI : Hid (NwSt w3 pb (.slice (some ad) n cf) ev w h l k b kb kb vk Q5 /\ Bk Q5 wr.heap.size [.int .i64 xt, .slice xA bs.length xc] 47 /\ kb.length = cntK ev (k + 1) /\ kb.length <= k + 1) := zdy ⟨HN5.out, HK5.out, by rw [HC.out]; exact (zax ev0 (by rw [<- HMD.out]; exact hit)).1.symm, by omega⟩
            have h1 : ¬ (md : Int) = 0 := by omega
            go_wp2_with fail
            go_meet
            exact ⟨_, _, FI⟩
        case rest =>
          obtain ⟨kb', vk', hcu⟩ := hcut
          obtain ⟨w6, hw6⟩ : ∃ w6, w6 = wc := ⟨_, rfl⟩
          rw [<- hw6] at hcu ⊢
          have b1 := hcu.out.2.1.c 1 _ rfl
          have FE := zdy (FEED.out w6 kb' vk' hcu.out.1)
          have CL := zdy hcu.out.2.2
          clear hw6 hcu c1 HN5 HK5 FEED
          go_wp2_with fail
          refine FE.out.mono ?_; rintro e w7 ⟨rfl, N7⟩
          have N7 := zdy N7
          clear FE
          go_wp2_with fail
          go_roundw
          case rel => exact ⟨k + 1, kb', vk', by omega, by go_num, CL.out.1, CL.out.2, N7⟩
          case measure => simp [intOf]; omega
      · have e : k = n := by omega
        subst e
        have q5 : ¬ (k : Int) < (k : Int) := by omega
        have lk : l.length = k := by rw [<- HEM.out, qx, <- HN.out]
        have HLK := zdy lk
        have rm : Int.tmod (k : Int) (ev : Int) = ((k % ev : Nat) : Int) := by rw [Int.tmod_eq_emod_of_nonneg (by omega)]; simp
        have ne0 : ¬ (ev : Int) = 0 := by omega
        have ND := he.out.below (Below.refl _ wr).drew
        have a0 := he.out.box.c 0 _ rfl
        have a1 := he.out.box.c 1 _ rfl
        have d0 := ND.box.c 0 _ rfl
        have d1 := ND.box.c 1 _ rfl
        have d2 := ND.box.c 2 _ rfl
        have f2 := ND.box.f 2
        have HND := zdy ND
        have HC := zdy hc
        have FIN : Hid (∀ (kb' : List Nat) (vk' : Value) (T : List (Nat × Trm)) (V : World), Bk V pb [.slice Af k cf, .int .i64 (ev : Int), vk'] 92 -> V.ownsRow w3.heap.size 43 1 vk' kb'.length (kb'.map ptrV) -> Herd w3 V T [] -> (∀ j, (hj : j < kb'.length) -> ∃ i : Nat, T[i]? = some (kb'[j], zP w h (l.take (j * ev)))) -> kb'.length = l.length / ev + 1 -> NewR W w h l every (.returned (.tuple #[.pointer (some ⟨pb, 0, none⟩), .int .i64 0])) V) := zdy (fun kb' vk' T V K R H ks kl => by
          refine ⟨_, by rw [NC.out], HB3.out.trans (H.bel.mono HB3.out.size), fun z => absurd NC.out z, fun _ => ⟨w3, pb, ev, rfl, ⟨Af, cf, M, kb', vk', T, HEM.out, HFD.out, by rw [<- HN.out]; exact K, R, H, ks, kl, ev0, by rw [HPB.out]; exact zdA⟩, HB3.out⟩⟩)
        obtain ⟨md, hmd⟩ : ∃ md, md = k % ev := ⟨_, rfl⟩
        rw [<- hmd] at rm
        have HMD := zdy hmd
        have mdl : md < 16385 := by rw [hmd]; exact Nat.lt_of_lt_of_le (Nat.mod_lt _ ev0) evl
        clear hmd hc ND he lk
        by_cases hit : md = 0
        · subst hit
          obtain ⟨V, hV⟩ : ∃ V, V = wr.drew := ⟨_, rfl⟩
          rw [<- hV] at HND d0 d1 d2 f2
          obtain ⟨Ak, kc, evk⟩ := qU HND.out.row
          subst evk
          have ck := zaw ev0 HMD.out.symm
          have FK := zdy (HND.out.last (by rw [HC.out]; exact ck.1))
          have LK := zdy (show (kb ++ [b]).length = l.length / ev + 1 by rw [List.length_append, HC.out, ck.2.2, HLK.out]; rfl)
          obtain ⟨nk, hnk⟩ : ∃ nk, nk = kb.length := ⟨_, rfl⟩
          have HNK := zdy hnk
          have nkl : nk <= 16384 := by omega
          have bu : Below V.heap.size V (V.alloc (.cells #[ptrV b] 43)) := (Below.refl _ V).alloc zdA _
          have H2 : Hid (nk + 1 <= maxLen) := zdy (by unfold maxLen; omega)
          have H3 : Hid ((nk + 1) * 8 <= 140737488355328) := zdy (by omega)
          have H1 : Hid (∀ u ∈ [ptrV b], u.oneCell' = true) := zdy (by intro u hu; simp at hu; subst hu; rfl)
          have ow := zdy (qc HND.out.row bu)
          have H4 : Hid (w3.heap.size <= (V.alloc (.cells #[ptrV b] 43)).heap.size) := zdy (by have := HND.out.old.size; have := bu.size; omega)
          have NW := zdy (qT V [ptrV b] 43)
          have NXX : Hid (∀ (w8 : World) (v' : Value), w8.ownsRow w3.heap.size 43 1 v' (kb.length + 1) (kb.map ptrV ++ [ptrV b]) -> (V.alloc (.cells #[ptrV b] 43)).grownBy w8 (Value.slice Ak kb.length kc).ownBlock -> ∃ A4 c4 l4, v' = .slice A4 l4 c4 /\ Bk w8 pb [.slice Af k cf, .int .i64 (ev : Int), .slice Ak kb.length kc] 92 /\ NewR W w h l every (.returned (.tuple #[.pointer (some ⟨pb, 0, none⟩), .int .i64 0])) (w8.setCell ⟨pb, 2, none⟩ (.slice A4 l4 c4))) := zdy (fun w8 v' ho hg => by
            obtain ⟨A4, c4, e⟩ := qU ho
            obtain ⟨T, H, ks⟩ := FK.out
            obtain ⟨a, b', c'⟩ := zay (nb := b) H HND.out.box HND.out.row HND.out.pbw bu hg ho
            have kp := xL (qc HND.out.row bu) hg
            have KB := HND.out.box.of_eq (bu.block _ HND.out.box.lt)
            have KB8 := KB.of_eq (kp pb _ _ _ KB (by decide))
            rw [e] at a b' c'
            exact ⟨A4, c4, _, e, KB8, FIN.out _ _ T _ b' c' a ks LK.out⟩)
          rw [<- hnk] at ow NXX d2
          have HV := zdy hV
          clear hV hnk ck bu FK LK HND hkl
          unfold ptrV at NXX H1 NW ow H4
          go_upto_region 19 with fail
          go_region
          rw [<- HV.out]
          go_wp2_with (at_builtin; refine wpList_append_own _ rfl (.tmp 89) (.tmp 91) 90 rfl w3.heap.size 43 i0 (.pointer none) 1 8 Tryz.underlying90 hi0 hz0 hz1 hz2 rfl (by decide) (.slice Ak nk kc) nk _ rfl ow.out ⟨V.heap.size, 0, none⟩ 1 1 _ rfl rfl NW.out H1.out H2.out H3.out H4.out ?_; intro v' w8 hown3 hg3 _; obtain ⟨A4, c4, l4, rfl, K8, P4⟩ := NXX.out w8 v' hown3 hg3; have x2 := K8.c 2 _ rfl; have f2 := K8.f 2; have P4 := zdy P4; clear hown3 hg3 K8)
          go_ret2
          exact P4.out
        · have h1 : ¬ (md : Int) = 0 := by omega
          have EN : Hid (NewR W w h l every (.returned (.tuple #[.pointer (some ⟨pb, 0, none⟩), .int .i64 0])) wr.drew) := zdy (by
            obtain ⟨T, H, t0, ks⟩ := HND.out.herd
            refine FIN.out kb vk T _ HND.out.box HND.out.row H (fun j hj => ?_) ?_
            · obtain ⟨i, _, hi⟩ := ks j hj
              exact ⟨i, hi⟩
            · rw [HLK.out, HC.out]; exact (zax ev0 (by rw [<- HMD.out]; exact hit)).2)
          clear hkl
          go_upto_region 19 with fail
          go_region
          go_wp2_with fail
          go_ret2
          exact EN.out
end
end
section
open Go Go.RowKit Go.Sort
section
theorem zdq {fn : Func} {p t : Tmp} {ty : TypeId} (h : fn.results = #[.cell p ty, .tmp t]) (tmps : Array Value) (P : Program) (w : World) :
  (results fn tmps).run P w = ((asAddr (tmps.getD p undef)).run P w).andThen fun a w₁ => ((loadVar ty a).run P w₁).andThen fun v w₂ => .ok (.tuple #[v, tmps.getD t undef]) w₂ := by
 simp only [results, h]
 simp [Sem.run_bind, Result.andThen]
theorem zaA : ∀ (l : List Frm) (h : 0 < l.length), qp l = (l[l.length - 1]'(by omega)).at_
 | [f], _ => rfl
 | f :: g :: l, _ => by
  have := zaA (g :: l) (by simp)
  show qp (g :: l) = _
  rw [this]
  simp
set_option maxHeartbeats 4000000 in
set_option maxRecDepth 100000 in
theorem t_PLen {W3 V : World} {pb : Nat} {w h : Int} {F : List Frm} {ev : Nat} (P : PlayAt W3 pb w h F ev V) : Calls Tryz.prog 31 #[.pointer (some ⟨pb, 0, none⟩)] V fun e w' => e = .returned (.int .i64 (qp F)) /\ Below V.heap.size V w' := by
 obtain ⟨Af, cf, L, kb, vk, T, h1, h2, h3, h4, h5, h6⟩ := P
 have k0 := h3.c 0 _ rfl
 have FD := h2.below h5.bel zdA
 obtain ⟨n, hn⟩ : ∃ n, n = L.length := ⟨_, rfl⟩
 rw [<- hn] at k0
 have ln : n <= 140737488355328 := by have := h2.sz; omega
 by_cases z : n = 0
 ·have e0 : F = [] := by rw [<- h1]; exact List.eq_nil_of_length_eq_zero (by rw [qx]; omega)
  subst e0
  subst z
  clear h1 h2 h3 h4 h5 h6 FD hn
  go_enter Tryz.func31, Tryz.ntmps31
  go_wp2_with fail
  go_ret
  exact ⟨rfl, Below.refl _ _⟩
 ·obtain ⟨m, rfl⟩ : ∃ m, n = m + 1 := ⟨n - 1, by omega⟩
  have ml : m < L.length := by omega
  obtain ⟨ad, rfl, lb, z1, z2⟩ := FD.at m ml
  have el : Hid (qp F = (L[m]).at_) := zdy (by
   have l0 : 0 < F.length := by rw [<- h1, qx]; omega
   rw [zaA F l0]
   subst h1
   have := xO L m ml
   have e : (frms L).length - 1 = m := by rw [qx]; omega
   simp only [e]
   rw [this])
  generalize (L[m]).at_ = xt at *
  obtain ⟨mm, hmm⟩ : ∃ mm, mm = m + 1 := ⟨_, rfl⟩
  rw [<- hmm] at k0 ln
  have wm : IntKind.i64.wrap ((mm : Int) - 1) = (m : Int) := by rw [zdz _ (by omega)]; omega
  have q0 : (0 : Int) <= (m : Int) := by omega
  have q5 : (m : Int) < (mm : Int) := by omega
  have tn : (m : Int).toNat = m := by omega
  have ne : ¬ (mm : Int) = 0 := by omega
  have BD := zdy ((Below.refl V.heap.size V).drew)
  clear h1 h2 h3 h4 h5 h6 FD hn lb hmm ml z z2
  go_enter Tryz.func31, Tryz.ntmps31
  go_upto_region 3 with fail
  go_region
  go_wp2_with fail
  go_ret
  exact ⟨by rw [el.out]; rfl, BD.out⟩
theorem t_At1 (g b2 b3 pb i n c : Nat) (ad : Addr) (ev : Nat) (vk : Value) (xt time : Int) (V : World) (K : Bk V pb [.slice (some ad) n c, .int .i64 (ev : Int), vk] 92) (h2 : V.cell? ⟨b2, 0, none⟩ = some (.pointer (some ⟨pb, 0, none⟩))) (h3 : V.cell? ⟨b3, 0, none⟩ = some (.int .i64 time)) (hi : i < n) (hx : V.cell? (ad.add (i * 2)) = some (.int .i64 xt)) :
  Calls Tryz.prog 59 #[.int .i64 (i : Int), .pointer (some ⟨b2, 0, none⟩), .pointer (some ⟨b3, 0, none⟩)] V fun e w' => e = .returned (.bool (decide (time < xt))) /\ ∃ q, w' = V.drewN q := by
 have k0 := K.c 0 _ rfl
 have q0 : (0 : Int) <= (i : Int) := by omega
 have q5 : (i : Int) < (n : Int) := by omega
 have tn : (i : Int).toNat = i := by omega
 clear K
 go_enter Tryz.func59, Tryz.ntmps59
 go_wp2_with fail
 go_quiet (fail)
 go_wp2_with fail
 go_ret
 exact ⟨rfl, _, rfl⟩
set_option maxHeartbeats 8000000 in
set_option maxRecDepth 100000 in
theorem zdr (b2 b3 pb n c : Nat) (A : Option Addr) (ev : Nat) (vk : Value) (time : Int) (F : List Frm) (V : World) (K : Bk V pb [.slice A n c, .int .i64 (ev : Int), vk] 92) (h2 : V.cell? ⟨b2, 0, none⟩ = some (.pointer (some ⟨pb, 0, none⟩))) (h3 : V.cell? ⟨b3, 0, none⟩ = some (.int .i64 time))
  (hn : n = F.length) (nl : n <= 1000000) (ht : zC 0 F = true) (hx : ∀ i, (h : i < F.length) -> ∃ ad, A = some ad /\ V.cell? (ad.add (i * 2)) = some (.int .i64 (F[i]).at_)) :
  Calls Tryz.prog 58 #[.int .i64 (n : Int), .func (.func 59) #[] #[.pointer (some ⟨b2, 0, none⟩), .pointer (some ⟨b3, 0, none⟩)]] V fun e w' => e = .returned (.int .i64 (j9 F time : Int)) /\ ∃ q, w' = V.drewN q := by
 obtain ⟨p, hp⟩ : ∃ p : Nat -> Bool, p = fun i => if h : i < F.length then decide (time < (F[i]).at_) else true := ⟨_, rfl⟩
 have C : Hid (∀ i, i < n -> ∀ W : World, (∃ q, W = V.drewN q) -> Calls Tryz.prog 59 #[.int .i64 (i : Int), .pointer (some ⟨b2, 0, none⟩), .pointer (some ⟨b3, 0, none⟩)] W fun e w' => e = .returned (.bool (p i)) /\ ∃ q, w' = W.drewN q) := zdy (fun i hi W ⟨q, hq⟩ => by
  have lt : i < F.length := by omega
  rw [hp]
  simp only [dif_pos lt]
  subst hq
  obtain ⟨ad, ea, hc⟩ := hx i lt
  rw [ea] at K
  exact t_At1 0 b2 b3 pb i n c ad ev vk _ time _ K h2 h3 hi hc)
 have AK : Hid (∀ lo, lo <= n -> (∀ t, t < lo -> p t = false) -> (∀ t, lo <= t -> t < n -> p t = true) -> j9 F time = lo) := zdy (fun lo hl a b => upto_of (by omega) (fun t ht2 hlo => by
  have := a t hlo
  rw [hp] at this
  simp only [dif_pos ht2] at this
  have := of_decide_eq_false this
  omega) (fun t ht2 hlo => by
  have := b t hlo (by omega)
  rw [hp] at this
  simp only [dif_pos ht2] at this
  exact of_decide_eq_true this))
 have HM : Hid (∀ i j, i <= j -> j < n -> p i = true -> p j = true) := zdy (fun i j h1 h2' h3' => by
  rw [hp] at h3' ⊢
  have lj : j < F.length := by omega
  simp only [dif_pos lj, dif_pos (show i < F.length by omega)] at h3' ⊢
  have m := (Zo F 0 ht i j lj h1).1
  have := of_decide_eq_true h3'
  exact decide_eq_true (by omega))
 clear hp hn ht hx h2 h3 K
 generalize j9 F time = ak at *
 go_enter Tryz.func58, Tryz.ntmps58
 go_wp2_with fail
 go_loopw [5, 6, 7] (fun s5 s6 s7 wr => ∃ lo hi : Nat, s5 = .int .i64 lo /\ s6 = .int .i64 hi /\ lo <= hi /\ hi <= n /\ (∃ q, wr = V.drewN q) /\ Hid ((∀ t, t < lo -> p t = false) /\ (∀ t, hi <= t -> t < n -> p t = true))) (fun s5 s6 _ _ => (intOf s6).toNat - (intOf s5).toNat)
 case atStart => exact ⟨0, n, rfl, rfl, by omega, zdA, ⟨0, rfl⟩, zdy ⟨fun t h => by omega, fun t h1 h2 => by omega⟩⟩
 case round =>
  obtain ⟨lo, hi, rfl, rfl, h1, h2, hq, I⟩ := hrel
  by_cases lt : lo < hi
  ·obtain ⟨m, hmm⟩ : ∃ m, m = (lo + hi) / 2 := ⟨_, rfl⟩
   have m1 : lo <= m := by omega
   have m2 : m < hi := by omega
   have em : ((lo : Int) + (hi : Int)) / 2 = (m : Int) := by omega
   have CC := zdy (C.out m (by omega) _ hq)
   have HQ := zdy hq
   clear hmm hq
   go_wp2_with fail
   refine CC.out.mono ?_; rintro e w1 ⟨rfl, q1, rfl⟩
   have NQ : Hid (∃ q, wr.drewN q1 = V.drewN q) := zdy (by
    obtain ⟨q, e⟩ := HQ.out
    exact ⟨q + q1, by rw [e, World.drewN_drewN]⟩)
   cases hp : p m with
   | true =>
    go_wp2_with fail
    go_roundw
    case rel => exact ⟨lo, m, rfl, rfl, m1, by omega, NQ.out, zdy ⟨I.out.1, fun t t1 t2 => HM.out m t t1 t2 hp⟩⟩
    case measure => simp [intOf]; omega
   | false =>
    go_wp2_with fail
    go_roundw
    case rel =>
     refine ⟨m + 1, hi, by go_num, rfl, by omega, h2, NQ.out, zdy ⟨fun t ht => ?_, I.out.2⟩⟩
     cases ht2 : p t with
     | false => rfl
     | true =>
      have := HM.out t m (by omega) (by omega) ht2
      rw [hp] at this
      cases this
    case measure => simp [intOf]; omega
  ·have e : lo = hi := by omega
   subst e
   have R : Hid (ak = lo) := zdy (AK.out lo h2 I.out.1 I.out.2)
   go_wp2_with fail
   go_ret
   exact ⟨by rw [R.out]; rfl, hq⟩
theorem zds {n r : Nat} {W X : World} (h : Below n W X) (hr : n <= r) (a b c d e f : Value) : Below n W (six X r a b c d e f) := by
 unfold six
 exact (((((h.setCell (p := ⟨r, 0, none⟩) hr _).setCell (p := ⟨r, 1, none⟩) hr _).setCell (p := ⟨r, 2, none⟩) hr _).setCell (p := ⟨r, 3, none⟩) hr _).setCell (p := ⟨r, 4, none⟩) hr _).setCell (p := ⟨r, 5, none⟩) hr _
structure AtQ (V Q : World) (p : Option Addr) (time : Int) : Prop where
 bel : Below V.heap.size V Q
 sz : Q.heap.size = V.heap.size + 1 + 1 + 1
 b2 : Bk Q V.heap.size [.pointer p] 40
 b3 : Bk Q (V.heap.size + 1) [.int .i64 time] 2
 b4 : Bk Q (V.heap.size + 1 + 1) [.int .i64 0, .int .i64 0, .slice none 0 0, .int .i64 0, .int .i64 0, .bool false] 51
theorem atQ (V : World) (p : Option Addr) (time : Int) : AtQ V (((V.alloc (.cells #[.pointer p] 40)).alloc (.cells #[.int .i64 time] 2)).alloc (.cells #[.int .i64 0, .int .i64 0, .slice none 0 0, .int .i64 0, .int .i64 0, .bool false] 51)) p time := by
 obtain ⟨Q1, h1⟩ : ∃ Q1, Q1 = V.alloc (.cells #[.pointer p] 40) := ⟨_, rfl⟩
 obtain ⟨Q2, h2⟩ : ∃ Q2, Q2 = Q1.alloc (.cells #[.int .i64 time] 2) := ⟨_, rfl⟩
 obtain ⟨Q3, h3⟩ : ∃ Q3, Q3 = Q2.alloc (.cells #[.int .i64 0, .int .i64 0, .slice none 0 0, .int .i64 0, .int .i64 0, .bool false] 51) := ⟨_, rfl⟩
 rw [<- h1, <- h2, <- h3]
 have a1 : Below V.heap.size V Q1 := by rw [h1]; exact (Below.refl _ _).alloc zdA _
 have a2 : Below Q1.heap.size Q1 Q2 := by rw [h2]; exact (Below.refl _ _).alloc zdA _
 have a3 : Below Q2.heap.size Q2 Q3 := by rw [h3]; exact (Below.refl _ _).alloc zdA _
 have s1 : Q1.heap.size = V.heap.size + 1 := by rw [h1]; simp
 have s2 : Q2.heap.size = V.heap.size + 1 + 1 := by rw [h2]; simp [s1]
 have s3 : Q3.heap.size = V.heap.size + 1 + 1 + 1 := by rw [h3]; simp [s2]
 have k1 : Bk Q1 V.heap.size [.pointer p] 40 := by rw [h1]; exact Bk.new _ _ _
 have k2 : Bk Q2 Q1.heap.size [.int .i64 time] 2 := by rw [h2]; exact Bk.new _ _ _
 have k3 : Bk Q3 Q2.heap.size [.int .i64 0, .int .i64 0, .slice none 0 0, .int .i64 0, .int .i64 0, .bool false] 51 := by rw [h3]; exact Bk.new _ _ _
 refine ⟨(a1.trans (a2.mono (by omega))).trans (a3.mono (by omega)), s3, (k1.of_eq (a2.block _ k1.lt)).of_eq (a3.block _ (by omega)), ?_, ?_⟩
 ·have := k2.of_eq (a3.block _ k2.lt)
  rw [s1] at this
  exact this
 ·rw [s2] at k3
  exact k3
end
end
end Go.Proofs.YtmaofighbpnbiaaGreatDoor
