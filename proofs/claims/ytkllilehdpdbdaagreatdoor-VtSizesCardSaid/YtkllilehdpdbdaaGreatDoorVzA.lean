/- slices.Clone of marks and of bytes; a decoder that is fed nothing. -/
import Derived.Test.YtkllilehdpdbdaaGreatDoorVyPb
namespace Go.Proofs.YtkllilehdpdbdaaGreatDoor
open Go Go.RowKit Go.Sort
set_option linter.unusedVariables false
set_option linter.unusedSimpArgs false
section
variable {w0 : World} {F0 : List Nat} {tb : Nat} {t t' : Trm} {W W' : World}
theorem boolsV_len1 (l : List Bool) : (boolsV l).length = l.length * 1 := by unfold boolsV; simp
theorem boolOne (l : List Bool) : ∀ u ∈ boolsV l, u.oneCell' = true := by
  intro u hu
  unfold boolsV at hu
  obtain ⟨x, _, rfl⟩ := List.mem_map.1 hu
  rfl
theorem append_bools {w : World} {g : Nat} (hg : w.heap[g]? = some (.cells #[] 4 (0, 0))) (ad : Addr) (m c : Nat) (news : List Value) (hl : news.length = m * 1) (hn : ∀ j u, news[j]? = some u → w.cell? (ad.add j) = some u) (hm : m ≤ 1048576) (hm0 : 0 < m) :
    ∃ v' w', (Builtin.append_ #[88, 88] 88 #[.slice (some ⟨g, 0, none⟩) 0 0, .slice (some ad) m c]).run Tryz.prog w = .ok v' w' ∧ Below w.heap.size w w' ∧ NewRow w.heap.size 4 1 v' m news w' := by
  obtain ⟨i0, hi, hz⟩ := Option.map_eq_some_iff.1 infoBo
  simp only [Prod.mk.injEq] at hz
  obtain ⟨hz0, hz1, hz2⟩ := hz
  obtain ⟨z, hzz, hzc⟩ := Option.map_eq_some_iff.1 hz0
  obtain ⟨v', w', hr, ho, hgr⟩ := run_append_arg_grows (P := Tryz.prog) w 88 88 4 i0 z 1 1 Tryz.underlying88 hi hzz hz1 hz2 (by rw [hzc]; rfl) (by decide) ⟨g, 0, none⟩ 0 0 [] (by simp) (by simp) ad m c news hl hn (by omega) (by unfold maxLen; omega) (by omega)
  rw [Nat.zero_add] at ho
  rw [List.nil_append] at ho
  refine ⟨v', w', hr, ⟨hgr.os, hgr.tape, hgr.output, hgr.size, fun k hk => hgr.block k hk (by simp)⟩, ?_⟩
  rcases ho.2 with ⟨_, a⟩ | ⟨g2, cap, cur, rfl, h2, h3, h4, h5⟩
  · omega
  · have lo := own_low ho (Nat.zero_le _)
    refine ⟨RowAt.of_own lo (by omega), fun b hb => ?_⟩
    obtain ⟨c', rfl⟩ : ∃ c', cap = c' + 1 := ⟨cap - 1, by omega⟩
    have : b = g2 := by simpa [ob] using hb
    omega
theorem append_noneO {w : World} {g : Nat} (hg : w.heap[g]? = some (.cells #[] 4 (0, 0))) (ad : Addr) (c : Nat) :
    (Builtin.append_ #[88, 88] 88 #[.slice (some ⟨g, 0, none⟩) 0 0, .slice (some ad) 0 c]).run Tryz.prog w = .ok (.slice (some ⟨g, 0, none⟩) 0 0) w := by
  obtain ⟨i0, hi, _⟩ := Option.map_eq_some_iff.1 infoBo
  have := run_append_room_cells (P := Tryz.prog) w 88 88 4 i0 Tryz.underlying88 hi g 0 0 0 ad 0 c [] (by simp) (by simp) (by simp) (by omega) (by simp) (by simp)
  simpa [World.setCells] using this
theorem sl_noneO (n c : Nat) (w : World) : (binOp .eql 88 (.slice none n c) (.slice none 0 0)).run Tryz.prog w = .ok (.bool true) w := by kernel_rfl
theorem sl_someO (ad : Addr) (n c : Nat) (w : World) : (binOp .eql 88 (.slice (some ad) n c) (.slice none 0 0)).run Tryz.prog w = .ok (.bool false) w := by kernel_rfl
set_option maxHeartbeats 4000000 in
set_option maxRecDepth 100000 in
theorem d_CloneO (A : Option Addr) (l : List Bool) (c : Nat) (W : World) (K : RowAt W 4 1 (.slice A l.length c) l.length (boolsV l)) (hl : l.length ≤ 1048576) : Calls Tryz.prog 45 #[.slice A l.length c] W fun e w' => ∃ v, e = .returned v ∧ NewRow W.heap.size 4 1 v l.length (boolsV l) w' ∧ Below W.heap.size W w' := by
  have SN := sl_noneO
  have SS := sl_someO
  by_cases z : l.length = 0
  · have e : l = [] := List.eq_nil_of_length_eq_zero z
    subst e
    cases A with
    | none =>
      clear K
      go_enter Tryz.func45, Tryz.ntmps45
      go_wp2_with fail
      go_ret
      exact ⟨_, rfl, ⟨Or.inl ⟨rfl, rfl, none, rfl⟩, fun g m => by simp [ob] at m⟩, Below.refl _ _⟩
    | some ad =>
      obtain ⟨V, hV⟩ : ∃ V, V = W.alloc (.cells #[] 4) := ⟨_, rfl⟩
      have BV : Below W.heap.size W V := by rw [hV]; exact (Below.refl _ W).alloc (Nat.le_refl _) _
      have AP := append_noneO (w := V) (g := W.heap.size) (by rw [hV]; exact World.alloc_heap_new W _) ad c
      clear K
      go_enter Tryz.func45, Tryz.ntmps45
      go_upto_region 3 with fail
      have BV := Lib.hid BV
      have AP := Lib.hid AP
      have HV := Lib.hid hV
      clear hV
      go_wp2_with (at_builtin; rw [← HV.out]; refine wpList_append_run rfl (.tmp 5) (.tmp 6) 88 88 rfl _ _ _ _ rfl rfl AP.out ?_)
      go_ret
      exact ⟨_, rfl, ⟨Or.inl ⟨rfl, rfl, _, rfl⟩, fun g m => by simp [ob] at m⟩, BV.out⟩
  · have K0 := K
    obtain ⟨g, cap, ec, eo, ho, hc⟩ := K.slice (by omega)
    simp only [Value.slice.injEq] at ec
    obtain ⟨rfl, _, rfl⟩ := ec
    obtain ⟨V, hV⟩ : ∃ V, V = W.alloc (.cells #[] 4) := ⟨_, rfl⟩
    have BV : Below W.heap.size W V := by rw [hV]; exact (Below.refl _ W).alloc (Nat.le_refl _) _
    obtain ⟨v', w', AP, B2, NR⟩ := append_bools (w := V) (g := W.heap.size) (by rw [hV]; exact World.alloc_heap_new W _) ⟨g, 0, none⟩ l.length c (boolsV l) (by rw [boolsV_len1]) (fun j u hj => by
      rw [add_at, Nat.zero_add]
      have lj : j < l.length * 1 := by have := (List.getElem?_eq_some_iff.1 hj).1; rw [boolsV_len1] at this; exact this
      obtain ⟨cur, hcu⟩ := own_block ho
      exact (BV.cell (p := ⟨g, j, none⟩) (Array.getElem?_eq_some_iff.1 hcu).1).trans ((ho.cellAt j lj).trans hj)) hl (by omega)
    have NW : Hid (NewRow W.heap.size 4 1 v' l.length (boolsV l) w') := Lib.hid ⟨NR.1, fun b m => Nat.le_trans BV.size (NR.2 b m)⟩
    have BB : Hid (Below W.heap.size W w') := Lib.hid (BV.trans (B2.mono BV.size))
    have HV := Lib.hid hV
    have AP := Lib.hid AP
    clear K K0 eo ho hc hV BV B2 NR
    generalize boolsV l = xs at *
    generalize l.length = n at *
    go_enter Tryz.func45, Tryz.ntmps45
    go_wp2_with (at_builtin; rw [← HV.out]; refine wpList_append_run rfl (.tmp 5) (.tmp 6) 88 88 rfl _ _ _ _ rfl rfl AP.out ?_)
    go_ret
    exact ⟨_, rfl, NW.out, BB.out⟩
/-- bytes of one's own, all of them new -/
def NewKept (B : Nat) (v : Value) (s : ByteArray) (w : World) : Prop := KeptAt w v s ∧ ∀ g ∈ ob v, B ≤ g
theorem NewKept.below {B : Nat} {v : Value} {s : ByteArray} {w w' : World} (h : NewKept B v s w) (hb : Below w.heap.size w w') : NewKept B v s w' := ⟨h.1.keep (fun g m => hb.block g (h.1.lt g m)), h.2⟩
theorem append_noneB {w : World} {g : Nat} (hg : w.heap[g]? = some (.cells #[] 5 (0, 0))) (ad : Addr) (c : Nat) :
    (Builtin.append_ #[29, 29] 29 #[.slice (some ⟨g, 0, none⟩) 0 0, .slice (some ad) 0 c]).run Tryz.prog w = .ok (.slice (some ⟨g, 0, none⟩) 0 0) w := by
  obtain ⟨i0, hi, _⟩ := info_parts info8
  have := run_append_room_cells (P := Tryz.prog) w 29 29 5 i0 Tryz.underlying29 hi g 0 0 0 ad 0 c [] (by simp) (by simp) (by simp) (by omega) (by simp) (by simp)
  simpa [World.setCells] using this
theorem sl_noneB (n c : Nat) (w : World) : (binOp .eql 29 (.slice none n c) (.slice none 0 0)).run Tryz.prog w = .ok (.bool true) w := by kernel_rfl
theorem sl_someB (ad : Addr) (n c : Nat) (w : World) : (binOp .eql 29 (.slice (some ad) n c) (.slice none 0 0)).run Tryz.prog w = .ok (.bool false) w := by kernel_rfl
theorem kept_lit (W : World) (g : Nat) : KeptAt W (.slice (some ⟨g, 0, none⟩) 0 0) zB := ⟨some ⟨g, 0, none⟩, 0, rfl, Nat.le_refl _, by unfold maxLen; omega, (fun e => by cases e), fun h => absurd h (Nat.lt_irrefl 0)⟩
theorem zB_of {s : ByteArray} (h : s.size = 0) : s = zB := by
  rcases s with ⟨⟨l⟩⟩
  cases l with
  | nil => rfl
  | cons a l => simp [ByteArray.size] at h
set_option maxHeartbeats 4000000 in
set_option maxRecDepth 100000 in
theorem d_CloneB (A : Option Addr) (s : ByteArray) (n c : Nat) (hn : n = s.size) (W : World) (K : KeptAt W (.slice A s.size c) s) (hl : s.size ≤ 900000000) : Calls Tryz.prog 46 #[.slice A n c] W fun e w' => ∃ v, e = .returned v ∧ NewKept W.heap.size v s w' ∧ Below W.heap.size W w' := by
  have SN := sl_noneB
  have SS := sl_someB
  by_cases z : s.size = 0
  · have e := zB_of z
    subst e
    have n0 : n = 0 := hn
    subst n0
    cases A with
    | none =>
      clear K hn
      go_enter Tryz.func46, Tryz.ntmps46
      go_wp2_with fail
      go_ret
      exact ⟨_, rfl, ⟨kept_none _, fun g m => by simp [ob] at m⟩, Below.refl _ _⟩
    | some ad =>
      obtain ⟨V, hV⟩ : ∃ V, V = W.alloc (.cells #[] 5) := ⟨_, rfl⟩
      have BV : Below W.heap.size W V := by rw [hV]; exact (Below.refl _ W).alloc (Nat.le_refl _) _
      have AP := append_noneB (w := V) (g := W.heap.size) (by rw [hV]; exact World.alloc_heap_new W _) ad c
      clear K hn
      go_enter Tryz.func46, Tryz.ntmps46
      go_upto_region 3 with fail
      have BV := Lib.hid BV
      have AP := Lib.hid AP
      have HV := Lib.hid hV
      clear hV
      go_wp2_with (at_builtin; rw [← HV.out]; refine wpList_append_run rfl (.tmp 5) (.tmp 6) 29 29 rfl _ _ _ _ rfl rfl AP.out ?_)
      go_ret
      exact ⟨_, rfl, ⟨kept_lit _ _, fun g m => by simp [ob] at m⟩, BV.out⟩
  · obtain ⟨A', c', ec, h1, hm, h2, h3⟩ := K
    simp only [Value.slice.injEq] at ec
    obtain ⟨rfl, _, rfl⟩ := ec
    obtain ⟨g, o, cur, rfl, hg, hc, hs⟩ := h3 (by omega)
    obtain ⟨V, hV⟩ : ∃ V, V = W.alloc (.cells #[] 5) := ⟨_, rfl⟩
    have BV : Below W.heap.size W V := by rw [hV]; exact (Below.refl _ W).alloc (Nat.le_refl _) _
    obtain ⟨v', w', AP, ok⟩ := kept_append (kept_lit V W.heap.size) ⟨g, o, none⟩ c (x := s) (by omega) (fun j u hj => by
      rw [add_at]
      exact (BV.cell (p := ⟨g, o + j, none⟩) (Array.getElem?_eq_some_iff.1 hg).1).trans (cells_at hg hs j u hj |> fun h => by rw [add_at] at h; exact h)) (by show 0 + s.size ≤ _; omega)
    have ez : zB ++ s = s := by apply ByteArray.ext; simp [ByteArray.data_append]; rfl
    have NK : Hid (NewKept W.heap.size v' s w') := Lib.hid ⟨by have := ok.new; rw [ez] at this; exact this, fun b m => (ok.sub b m).elim (fun q => by simp [ob] at q) (fun q => Nat.le_trans BV.size q)⟩
    have BB : Hid (Below W.heap.size W w') := Lib.hid (BV.trans ((old_mv (by have := ok.mv; exact this)).mono BV.size))
    have HV := Lib.hid hV
    have AP := Lib.hid AP
    rw [← hn] at AP
    clear h1 hm h2 h3 hg hc hs hV BV ok
    go_enter Tryz.func46, Tryz.ntmps46
    go_wp2_with (at_builtin; rw [← HV.out]; refine wpList_append_run rfl (.tmp 5) (.tmp 6) 29 29 rfl _ _ _ _ rfl rfl AP.out ?_)
    go_ret
    exact ⟨_, rfl, NK.out, BB.out⟩
theorem append_zero {w : World} {g n c0 : Nat} (A : Option Addr) (c : Nat) (hn : n ≤ c0) : (Builtin.append_ #[29, 29] 29 #[.slice (some ⟨g, 0, none⟩) n c0, .slice A 0 c]).run Tryz.prog w = .ok (.slice (some ⟨g, 0, none⟩) n c0) w := by
  obtain ⟨i0, hi, hz0, hz1, hz2⟩ := info_parts info8
  cases A with
  | none => simp [Builtin.append_, run_underlying Tryz.underlying29, sizeOf, typeInfo, hi, hz1, Builtin.lenOf, Builtin.firstCells, hn, storeCells, Result.andThen]
  | some ad =>
    have := run_append_room_cells (P := Tryz.prog) w 29 29 5 i0 Tryz.underlying29 hi g 0 n c0 ad 0 c [] (by simp) (by simp) (by simp) (by omega) (by simp) (by simp)
    simpa [World.setCells] using this
set_option maxHeartbeats 8000000 in
set_option maxRecDepth 100000 in
/-- a decoder that holds nothing is fed nothing -/
theorem d_Feed0 (u : Nat) (A : Option Addr) (c : Nat) (W : World) (hd : DecAt W u zB) : Calls Tryz.prog 47 #[.pointer (some ⟨u, 0, none⟩), .slice A 0 c] W fun e w' => (∃ v, e = .returned v) ∧ DecAt w' u zB ∧ Mv [u] W w' := by
  obtain ⟨k, hk⟩ : ∃ k : ByteArray, k = zB := ⟨_, rfl⟩
  rw [← hk] at hd ⊢
  obtain ⟨b0, b1, b2, b3, hD, k4, ek⟩ := hd
  obtain ⟨n, hn0⟩ : ∃ n, n = k.size := ⟨_, rfl⟩
  have UL := Lib.hid hD.lt
  have HL := Lib.hid (fun w' (hb : Below W.heap.size W w') => hD.of_eq (hb.block u hD.lt))
  have kk := fun d os => (hD.regrown d os).c 4 _ rfl
  have NW : Hid (∀ w', Below W.heap.size W w' → ∀ j x, (Lib.strCells k)[j]? = some x → w'.cell? ((⟨u, 0, none⟩ : Addr).add j) = some x) := Lib.hid (fun w' hb j x hj => by
    rw [hk] at hj
    have e : Lib.strCells zB = [] := rfl
    rw [e] at hj
    simp at hj)
  have KL := Lib.hid (Lib.strCells_length k)
  have n00 : n = 0 := by rw [hn0, hk]; rfl
  have n0 : (0 : Int) ≤ (n : Int) := by omega
  have n4 : (n : Int) ≤ 4 := by omega
  rw [← hn0] at kk
  have HN := Lib.hid hn0
  have HZ := Lib.hid n00
  have HK0 := Lib.hid hk
  have HT : Hid (∀ x : B8, ∀ b1 b2 b3 : B8, Lib.strCells k = [Value.int .u8 (bI x), Value.int .u8 (bI b1), Value.int .u8 (bI b2), Value.int .u8 (bI b3)].take k.size) := Lib.hid (fun _ _ _ _ => by rw [hk]; rfl)
  clear hD ek k4 hn0 n00 hk
  go_enter Tryz.func47, Tryz.ntmps47
  go_wp2_with fail
  refine wp_region_spec 11 [(12, emptyS W.heap.size 5), (21, rowS W.heap.size 5 1 n (Lib.strCells k)), (5, boxS W.heap.size 29)] [5, 12, 21] (by kernel_rfl) (by kernel_rfl) (by kernel_rfl) (by intro t ht; simp at ht; rcases ht with rfl | rfl | rfl <;> (intro h; cases h)) ?_
  simp only [List.take_succ_cons, List.take_zero, List.drop_succ_cons, List.drop_zero]
  refine wpS_born 12 rfl (by simp) (by first | (simp; done) | simp [put_size]) (by rfl) (by rfl) (by intro _ _ h; cases h) (fun x => ?_) ?_
  · go_simp
    exact ⟨(Below.refl _ _).alloc (Nat.le_refl _) _, ⟨_, rfl, by simp [redrawn], by rw [show (redrawn W x.d).heap.size + x.os.size = (grow (redrawn W x.d) x.os).heap.size by simp [grow]]; exact World.alloc_heap_new _ _⟩⟩
  repeat (refine wpS_step (by rfl) (fun K hK => ?_); go_simp; first | (refine hK _ ?_; clear hK K) | (apply Exists.intro; refine ⟨fun _ => ?_, hK _ ?_⟩; (fail); clear hK K))
  refine wpS_useborn 12 21 (by simp) (by first | (simp; done) | simp [put_size]) (by rfl) rfl (by simp) (by first | (simp; done) | simp [put_size]) (by rfl) (by rfl) (by rfl) (by intro _ _ h; cases h) (fun x u hu => ?_) ?_
  · obtain ⟨g, rfl, hg1, hg2⟩ := hu
    obtain ⟨v', w', hr, hb, ho, hq⟩ := append_empty hg2 hg1 (below_regrown W x.d x.os).size ⟨u, 0, none⟩ n 4 (Lib.strCells k) (by rw [KL.out, HN.out]) (NW.out _ (below_regrown W x.d x.os)) (Lib.strCells_oneCell k) (by omega)
    simp [execOp, resolve, invoke, builtin, hr, Result.andThen, bornUpon, Act.eval, Act.put]
    exact ⟨by simpa using hb, ho, hq⟩
  refine wpS_born 5 rfl (by simp) (by first | (simp; done) | simp [put_size]) (by rfl) (by rfl) (by intro _ _ h; cases h) (fun x => ?_) ?_
  · go_simp
    exact ⟨(Below.refl _ _).alloc (Nat.le_refl _) _, ⟨_, _, rfl, by simp [redrawn], by rw [show (redrawn W x.d).heap.size + x.os.size = (grow (redrawn W x.d) x.os).heap.size by simp [grow]]; exact World.alloc_heap_new _ _⟩⟩
  refine wpS_nil ?_
  intro W1 vs1 hl hv
  obtain ⟨g12, e12, q12⟩ := hv 12 (by simp) rfl
  obtain ⟨o21, g21, c21, e21⟩ := hv 21 (by simp) rfl
  obtain ⟨Bx, x5, e5, hB5, q5⟩ := hv 5 (by simp) rfl
  have UB : Hid (u ≠ Bx) := Lib.hid (by have := UL.out; omega)
  simp only [fillA, e12, e21, e5]
  have hb1 := later_below.1 hl
  have X5 : Bk W1 Bx [x5] 29 := q5
  obtain ⟨cu21, hg21⟩ := own_block (own_low (by rw [e21] at o21; exact o21) (Nat.zero_le _))
  have ne21 : g21 ≠ Bx := X5.ne hg21 (by decide)
  have j5 := X5.c 0 _ rfl
  have jf5 := X5.f 0
  have B1 := Lib.hid hb1
  have X5 := Lib.hid X5
  have NE := Lib.hid ne21
  have O21 : Hid (W1.ownsRow W.heap.size 5 1 (.slice (some ⟨g21, 0, none⟩) n c21) n (Lib.strCells k)) := Lib.hid (by rw [e21] at o21; exact o21)
  clear hl hv hb1 o21 q5 q12 hg21 ne21 e21
  go_upto_region 4 with fail
  obtain ⟨V1, hV⟩ : ∃ V, V = W1.setCell ⟨Bx, 0, none⟩ (.slice (some ⟨g21, 0, none⟩) n c21) := ⟨_, rfl⟩
  have B2 : Hid (Below W.heap.size W V1) := Lib.hid (by rw [hV]; exact B1.out.setCell (p := ⟨Bx, 0, none⟩) hB5 _)
  have X2 : Hid (Bk V1 Bx [.slice (some ⟨g21, 0, none⟩) n c21] 29) := Lib.hid (by rw [hV]; exact X5.out.set 0 _)
  have O2 : V1.ownsRow W.heap.size 5 1 (.slice (some ⟨g21, 0, none⟩) n c21) n (Lib.strCells k) := by
    rw [hV]
    have := O21.out.kept (grownBy_setCell' W1 Bx (.slice (some ⟨g21, 0, none⟩) n c21)) (Or.inr (by show some g21 ≠ some Bx; intro e; exact NE.out (Option.some.inj e)))
    exact this
  have D2 : Hid (Bk V1 u [.int .u8 (bI b0), .int .u8 (bI b1), .int .u8 (bI b2), .int .u8 (bI b3), .int .i64 (k.size : Int)] 127) := Lib.hid (HL.out V1 B2.out)
  have UL2 : Hid (u < V1.heap.size) := Lib.hid (D2.out.lt)
  rw [← hV]
  clear hV B1 X5 O21 j5 jf5 HL kk
  have u5 := X2.out.c 0 _ rfl
  have uf5 := X2.out.f 0
  have c6 := D2.out.c 4 _ rfl
  have cf6 := D2.out.f 4
  have n0' := HZ.out
  subst n0'
  have AZ := Lib.hid (fun w => append_zero (w := w) (g := g21) (n := 0) (c0 := c21) A c (Nat.zero_le _))
  obtain ⟨V5, hV5⟩ : ∃ V, V = (V1.setCell ⟨Bx, 0, none⟩ (.slice (some ⟨g21, 0, none⟩) 0 c21)).setCell ⟨u, 4, none⟩ (.int .i64 0) := ⟨_, rfl⟩
  have NEu : u ≠ Bx := UB.out
  have X6 : Bk V5 Bx [.slice (some ⟨g21, 0, none⟩) 0 c21] 29 := by
    rw [hV5]
    exact (X2.out.set 0 _).of_eq (heap_setCell_other _ ⟨u, 4, none⟩ Bx _ (fun e => NEu e.symm))
  have D6 : Bk V5 u [.int .u8 (bI b0), .int .u8 (bI b1), .int .u8 (bI b2), .int .u8 (bI b3), .int .i64 0] 127 := by
    rw [hV5]
    exact (D2.out.of_eq (heap_setCell_other _ ⟨Bx, 0, none⟩ u _ NEu)).set 4 _
  have M6 : Mv [u] W V5 := by
    rw [hV5]
    have m1 : Mv [] W V1 := Mv.below B2.out
    exact (m1.trans (F1 := [Bx]) (Mv.set (F := [Bx]) V1 (by simp)) (by intro b hb; rw [List.mem_singleton.1 hb]; exact Or.inr hB5) |> fun m => (⟨m.os, m.tape, m.output, m.size, fun k hk _ => m.blk k hk (by simp)⟩ : Mv [u] W _)).trans (F1 := [u]) (Mv.set (F := [u]) _ (by simp)) (by intro b hb; exact Or.inl hb)
  have j6 := X6.c 0 _ rfl
  have FIN : Hid (DecAt V5 u k ∧ Mv [u] W V5) := Lib.hid ⟨⟨b0, b1, b2, b3, by rw [← HN.out]; exact D6, by rw [← HN.out]; omega, HT.out _ _ _ _⟩, M6⟩
  have HV5 := Lib.hid hV5
  clear X6 D6 M6 X2 D2 B2 O2 hB5 NE HT KL NW HN HZ HK0 hV5
  go_wp2_with (at_builtin; refine wpList_append_run rfl (.tmp 22) (.tmp 23) 29 29 rfl _ _ _ _ rfl rfl (AZ.out _) ?_)
  rw [← HV5.out]
  go_wp2_with fail
  go_loopw [6] (fun s6 wr => s6 = .slice none 0 0 ∧ wr = V5) (fun _ _ => 0)
  case atStart => exact ⟨rfl, rfl⟩
  case round =>
    obtain ⟨rfl, rfl⟩ := hrel
    go_wp2_with fail
    go_ret
    exact ⟨⟨_, rfl⟩, FIN.out⟩
end
end Go.Proofs.YtkllilehdpdbdaaGreatDoor
