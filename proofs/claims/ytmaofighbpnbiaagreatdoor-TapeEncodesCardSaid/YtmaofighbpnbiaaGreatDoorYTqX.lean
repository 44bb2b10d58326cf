/- Frames copied into memory of their own, with room and marks: the document's Copied, the law's roomy, walked. -/
import Derived.Test.YtmaofighbpnbiaaGreatDoorYTqS
namespace Go.Proofs.YtmaofighbpnbiaaGreatDoor
open Go Go.RowKit Go.Sort
set_option linter.unusedVariables false
set_option linter.unusedSimpArgs false
section
theorem step_run {P : Program} {w : World} {ops : Array Oper} {o : Oper} {a : Act} {K : Act → World → Prop} {Q : Exit → Act → World → Prop} {E : Prop} (hgd : o.guard = none) (s x : Operand) (t u : TypeId)
  (ho : o.op = .call { callee := .builtin .append, args := #[s, x], argTypes := #[t, u] }) (vs vx v' : Value) (w' : World) (hs : a.eval s = vs) (hx : a.eval x = vx)
  (hrun : (Builtin.append_ #[t, u] o.type #[vs, vx]).run P w = .ok v' w') (h : K (a.put o.dst v') w') : if Region.wanted o (yielded ops a.tmps) = true then Oper.wp P o a w K Q else E := by
 have hw : Region.wanted o (yielded ops a.tmps) = true := by simp [Region.wanted, hgd]
 rw [if_pos hw]
 unfold Oper.wp
 simp [execOp, ho, resolve, invoke, builtin, hs, hx, hrun, Result.andThen]
 exact h
theorem slc_some {w : World} {LO sz n : Nat} {T : TypeId} {v : Value} {xs : List Value} (h : w.ownsRow LO T sz v n xs) (ne : v ≠ .slice none 0 0) : ∃ g c, v = .slice (some ⟨g, 0, none⟩) n c := by
 rcases h.2 with ⟨z, _⟩ | ⟨g, c, cur, z, _⟩
 ·exact absurd z ne
 ·exact ⟨g, c, z⟩
theorem own_empty0 (W : World) : (W.alloc (.cells #[] 5)).ownsRow W.heap.size 5 1 (.slice (some ⟨W.heap.size, 0, none⟩) 0 0) 0 [] :=
 ⟨rfl, Or.inr ⟨W.heap.size, 0, #[], rfl, Nat.le_refl _, World.alloc_heap_new W _, Nat.le_refl _, by decide, rfl, rfl⟩⟩
theorem app_byte {w : World} {LO : Nat} {x : RM} (h : OneR w LO x) (hx : x.ex = []) (b : Int) (hLO : LO ≤ w.heap.size) (len : x.bs.length ≤ 1000000000) :
  ∃ g' c' w3, (Builtin.append_ #[27, 27] 27 #[.slice (some ⟨x.g, 0, none⟩) x.bs.length x.c, .slice (some ⟨w.heap.size, 0, none⟩) 1 1]).run Tryz.prog (w.alloc (.cells #[.int .u8 b] 5)) = .ok (.slice (some ⟨g', 0, none⟩) (x.bs.length + 1) c') w3 ∧
   OneR w3 LO ⟨x.at_, g', c', x.bs ++ [b], []⟩ ∧ (w.alloc (.cells #[.int .u8 b] 5)).grownBy w3 (some x.g) ∧ (g' = x.g ∨ w.heap.size ≤ g') := by
 obtain ⟨i0, hi0, hz0, hz1, hz2⟩ := info_parts infoB
 have bu : Below w.heap.size w (w.alloc (.cells #[.int .u8 b] 5)) := (Below.refl _ w).alloc (Nat.le_refl _) _
 have o := h.keep (bu.block _ h.lt.2.1)
 unfold OneR at o
 rw [hx, List.append_nil] at o
 obtain ⟨v', w3, r1, r2, r3, r4, r5⟩ := run_append_own_at (P := Tryz.prog) (w.alloc (.cells #[.int .u8 b] 5)) LO 27 27 5 i0 (.int .u8 0) 1 1 Tryz.underlying27 hi0 hz0 hz1 hz2 rfl (by decide) _ _ _ o ⟨w.heap.size, 0, none⟩ 1 1 [.int .u8 b] rfl (news1 w _ _) (by intro u hu; rw [List.mem_singleton.1 hu]; rfl) (by unfold maxLen; omega) (by omega) (Nat.le_trans hLO bu.size)
 obtain ⟨g', c', e⟩ := slc_some r2 (fun z => by have := (r4.1 z).1; cases this)
 subst e
 refine ⟨g', c', w3, r1, ?_, r3, ?_⟩
 ·unfold OneR
  simp only [List.append_nil]
  rw [bts_app, List.length_append, List.length_singleton]
  exact r2
 ·rcases r5 with z | z
  ·simp [Value.ownBlock] at z; exact Or.inl z
  ·simp [Value.ownBlock] at z; exact Or.inr (by omega)
theorem app_src {w : World} {B : Nat} {x : BA} (D : ByteD w B x) (hB : B ≤ w.heap.size) (t : Int) :
  ∃ g' c' w3, (Builtin.append_ #[27, 27] 27 #[.slice (some ⟨w.heap.size, 0, none⟩) 0 0, .slice x.A x.bs.length x.c]).run Tryz.prog (w.alloc (.cells #[] 5)) = .ok (.slice (some ⟨g', 0, none⟩) x.bs.length c') w3 ∧
   OneR w3 w.heap.size ⟨t, g', c', x.bs, []⟩ ∧ Below w.heap.size w w3 := by
 obtain ⟨i0, hi0, hz0, hz1, hz2⟩ := info_parts infoB
 have bu : Below w.heap.size w (w.alloc (.cells #[] 5)) := (Below.refl _ w).alloc (Nat.le_refl _) _
 have oe := own_empty0 w
 have D1 := D.below bu hB
 obtain ⟨A, c, bs⟩ := x
 cases A with
 | none =>
  have c0 : c = 0 := D.nil rfl
  have l0 : bs.length ≤ c := D.cap
  obtain rfl := List.eq_nil_of_length_eq_zero (show bs.length = 0 by omega)
  refine ⟨w.heap.size, 0, _, ?_, oe, bu⟩
  simp [Builtin.append_, run_underlying Tryz.underlying27, sizeOf, typeInfo, hi0, hz1, Builtin.lenOf, Builtin.firstCells, storeCells, Result.andThen]
 | some ad =>
  have hn : ∀ j u, (bts bs)[j]? = some u → (w.alloc (.cells #[] 5)).cell? (ad.add j) = some u := fun j u hj => by
   obtain ⟨a', e, _, k⟩ := D1.sees (fun z => by have z : bts bs = [] := z; rw [z] at hj; simp at hj)
   cases e
   exact k j u hj
  have sz : bs.length ≤ 140737488355328 := D.sz
  obtain ⟨v', w3, r1, r2, r3, r4, r5⟩ := run_append_own_at (P := Tryz.prog) (w.alloc (.cells #[] 5)) w.heap.size 27 27 5 i0 (.int .u8 0) 1 1 Tryz.underlying27 hi0 hz0 hz1 hz2 rfl (by decide) _ 0 [] oe ad bs.length c (bts bs) (by rw [bts_len, Nat.mul_one]) hn (bts_one bs) (by unfold maxLen; omega) (by omega) bu.size
  obtain ⟨g', c', e⟩ := slc_some r2 (fun z => by have := (r4.1 z).1; cases this)
  subst e
  rw [Nat.zero_add] at r1 r2
  refine ⟨g', c', w3, r1, ?_, bu.grown r3 bu.size (fun k hk => by simp [Value.ownBlock] at hk; omega)⟩
  unfold OneR
  simp only [List.append_nil]
  exact r2
theorem app_fr {w : World} {LO n c : Nat} {A : Option Addr} {xs : List Value} (o : w.ownsRow LO 47 2 (.slice A n c) n xs) (a b : Value) (ha : a.oneCell' = true) (hb : b.oneCell' = true) (hLO : LO ≤ w.heap.size) (len : n ≤ 1000000000) :
  ∃ A' c' w3, (Builtin.append_ #[24, 24] 24 #[.slice A n c, .slice (some ⟨w.heap.size, 0, none⟩) 1 1]).run Tryz.prog (w.alloc (.cells #[a, b] 47)) = .ok (.slice A' (n + 1) c') w3 ∧
   w3.ownsRow LO 47 2 (.slice A' (n + 1) c') (n + 1) (xs ++ [a, b]) ∧ (w.alloc (.cells #[a, b] 47)).grownBy w3 (Value.slice A n c).ownBlock := by
 obtain ⟨i0, z0, hi0, hz0, hz1, hz2, hz3⟩ := infoF
 have bu : Below w.heap.size w (w.alloc (.cells #[a, b] 47)) := (Below.refl _ w).alloc (Nat.le_refl _) _
 obtain ⟨v', w3, r1, r2, r3, r4⟩ := run_append_own (P := Tryz.prog) (w.alloc (.cells #[a, b] 47)) LO 24 24 47 i0 z0 2 32 Tryz.underlying24 hi0 hz0 hz1 hz2 hz3 (by decide) _ n xs (own_callF o bu) ⟨w.heap.size, 0, none⟩ 1 1 [a, b] rfl (cells_new w [a, b] 47) (by intro u hu; simp at hu; rcases hu with rfl | rfl <;> assumption) (by unfold maxLen; omega) (by omega) (Nat.le_trans hLO bu.size)
 obtain ⟨A', c', e⟩ := own_slcF r2
 subst e
 exact ⟨A', c', w3, r1, r2, r3⟩
def CopyR (W : World) (l : List Frm) (e : Ending) (w' : World) : Prop := ∃ v M, e = .returned v ∧ RmS W.heap.size w' v M 0 ∧ rmF M = l ∧ (∀ x ∈ M, x.ex = []) ∧ Below W.heap.size W w'
theorem rmF_len (M : List RM) : (rmF M).length = M.length := by unfold rmF; rw [List.length_map]
set_option maxHeartbeats 16000000 in
set_option maxRecDepth 100000 in
theorem r_Copied (A : Option Addr) (c : Nat) (L : List FA) (B : Nat) (W : World) (D : FrsD W B A c L) (hB : B ≤ W.heap.size) (hl : L.length ≤ 134217728) :
  Calls Tryz.prog 37 #[.slice A L.length c] W (CopyR W (frms L)) := by
 have HD := Lib.hid D
 have HBB := Lib.hid hB
 obtain ⟨n, hn⟩ : ∃ n, n = L.length := ⟨_, rfl⟩
 have HN := Lib.hid hn
 rw [← hn] at hl ⊢
 clear D hB hn
 go_enter Tryz.func37, Tryz.ntmps37
 go_wp2_with fail
 go_loopw [3, 4] (fun s3 s4 wr => ∃ (k : Nat) (A' : Option Addr) (c' : Nat) (M : List RM), k ≤ n ∧ s3 = .slice A' k c' ∧ s4 = .int .i64 (k : Int) ∧ Hid (M.length = k) ∧ Hid (RmS W.heap.size wr (.slice A' k c') M 0) ∧ Hid (rmF M = frms (L.take k)) ∧ Hid (∀ x ∈ M, x.ex = []) ∧ Hid (Below W.heap.size W wr)) (fun _ s4 _ => n - (intOf s4).toNat)
 case atStart => exact ⟨0, none, 0, [], Nat.zero_le _, rfl, rfl, Lib.hid rfl, Lib.hid (RmS.nil _ _), Lib.hid rfl, Lib.hid (fun x m => by cases m), Lib.hid (Below.refl _ _)⟩
 case round =>
  obtain ⟨k, A', c', M, hk, rfl, rfl, hm, hs, hf, hx, hw⟩ := hrel
  by_cases lt : k < n
  ·have kl : k < L.length := by rw [← HN.out]; exact lt
   have FD := HD.out.below hw.out HBB.out
   obtain ⟨ad, rfl, lb, z1, z2⟩ := FD.at k kl
   have OB := FD.ok _ (List.getElem_mem kl)
   have TK := Lib.hid (take_succ_get L k kl)
   have hBw : B ≤ wr.heap.size := Nat.le_trans HBB.out hw.out.size
   obtain ⟨g', c3, w3, R1, O1, b3⟩ := app_src ((OB.b).below (Below.refl B wr).drew (Nat.le_refl _)) (w := wr.drew) hBw (L[k]).at_
   have S3 := hs.out.below ((Below.refl wr.heap.size wr).drew.trans b3)
   have o3 := S3.own
   rw [hm.out, Nat.add_zero, show z77 0 = [] from rfl, List.append_nil] at o3
   have sW : W.heap.size ≤ w3.heap.size := Nat.le_trans hw.out.size b3.size
   obtain ⟨A4, c4, w4, R2, O2, g4⟩ := app_fr o3 (.int .i64 (L[k]).at_) (.slice (some ⟨g', 0, none⟩) (L[k]).b.bs.length c3) rfl rfl sW (by omega)
   have b4 : Below w3.heap.size w3 (w3.alloc (.cells #[.int .i64 (L[k]).at_, .slice (some ⟨g', 0, none⟩) (L[k]).b.bs.length c3] 47)) := (Below.refl _ w3).alloc (Nat.le_refl _) _
   have N4 := hs.out.push (x := ⟨(L[k]).at_, g', c3, (L[k]).b.bs, []⟩) (w1 := w3.alloc (.cells #[.int .i64 (L[k]).at_, .slice (some ⟨g', 0, none⟩) (L[k]).b.bs.length c3] 47)) (w2 := w4) (((Below.refl wr.heap.size wr).drew.trans b3).trans (b4.mono b3.size)) (O1.keep (b4.block _ O1.lt.2.1)) hw.out.size (by rw [hm.out]; exact O2) g4 ⟨by simp only [List.append_nil]; exact OB.b.rng, OB.rng⟩
   have BW4 := (hw.out.trans ((((Below.refl wr.heap.size wr).drew.trans b3).trans (b4.mono b3.size)).mono hw.out.size)).grown g4 (Nat.le_trans sW b4.size) (fun q hq => by
    have := (own_callF o3 b4).lt q hq
    exact this.1)
   have y1 : ∀ wq, Below W.heap.size W wq → wq.cell? (ad.add (k * 2)) = some (.int .i64 (L[k]).at_) ∧ wq.cell? ⟨(ad.add (k * 2)).block, (ad.add (k * 2)).off + 1, none⟩ = some (.slice (L[k]).b.A (L[k]).b.bs.length (L[k]).b.c) := fun wq hq => by
    obtain ⟨ae, e, _, q1, q2⟩ := (HD.out.below hq HBB.out).at k kl
    cases e
    exact ⟨q1, q2⟩
   have bA := hw.out.trans (((Below.refl wr.heap.size wr).alloc (Nat.le_refl _) (.cells #[] 5)).mono hw.out.size)
   have b33 := hw.out.trans (((Below.refl wr.heap.size wr).drew.trans b3).mono hw.out.size)
   obtain ⟨x1, x2⟩ := y1 _ bA
   obtain ⟨x3, x4⟩ := y1 _ b33
   obtain ⟨x5, x6⟩ := y1 _ hw.out
   have R1 : (Builtin.append_ #[27, 27] 27 #[.slice (some ⟨wr.heap.size, 0, none⟩) 0 0, .slice (L[k]).b.A (L[k]).b.bs.length (L[k]).b.c]).run Tryz.prog ((wr.alloc (.cells #[] 5)).drew) = .ok (.slice (some ⟨g', 0, none⟩) (L[k]).b.bs.length c3) w3 := R1
   have FIN := Lib.hid (show ∃ (M2 : List RM), M2.length = k + 1 ∧ RmS W.heap.size w4 (.slice A4 (k + 1) c4) M2 0 ∧ rmF M2 = frms (L.take (k + 1)) ∧ (∀ x ∈ M2, x.ex = []) ∧ Below W.heap.size W w4 from ⟨_, by rw [List.length_append, hm.out]; rfl, N4, by
    rw [TK.out]
    unfold rmF frms at *
    rw [List.map_append, List.map_append, hf.out]
    rfl, fun x m => by
    rcases List.mem_append.1 m with m | m
    ·exact hx.out x m
    ·rw [List.mem_singleton.1 m], BW4⟩)
   generalize (L[k]) = x at *
   obtain ⟨xt, xA, xc, bs⟩ := x
   dsimp only at *
   have q0 : (0 : Int) ≤ (k : Int) := by omega
   have q5 : (k : Int) < (n : Int) := by omega
   have tn : (k : Int).toNat = k := by omega
   have wk : IntKind.i64.wrap ((k : Int) + 1) = (k : Int) + 1 := IntWalk.i64_in _ (by omega)
   clear FD OB lb TK hBw O1 b3 S3 o3 sW O2 g4 b4 N4 BW4 y1 bA b33 hs hf hx hm hw z1 z2
   go_wp2_with fail
   go_region_law (first
    | (refine step_run rfl (.tmp 17) (.tmp 22) 27 27 rfl _ _ _ _ rfl rfl R1 ?_)
    | (refine step_run rfl (.tmp 11) (.tmp 25) 24 24 rfl _ _ _ _ rfl rfl R2 ?_))
   all_goals (go_simp; go_wp2_with fail)
   all_goals go_roundw
   all_goals first
    | (obtain ⟨M2, f1, f2, f3, f4, f5⟩ := FIN.out; exact ⟨k + 1, A4, c4, M2, by omega, rfl, by go_num, Lib.hid f1, Lib.hid f2, Lib.hid f3, Lib.hid f4, Lib.hid f5⟩)
    | (simp [intOf]; omega)
  ·have e : k = n := by omega
   subst e
   have q5 : ¬ (k : Int) < (k : Int) := by omega
   have FIN : Hid (CopyR W (frms L) (.returned (.slice A' k c')) wr) := Lib.hid ⟨_, M, rfl, hs.out, by rw [hf.out, HN.out, List.take_length], hx.out, hw.out⟩
   clear hs hf hx hw hm
   go_wp2_with fail
   go_ret
   exact FIN.out
end
end Go.Proofs.YtmaofighbpnbiaaGreatDoor
