/- A terminal's marks and stops are cleared (memory). -/
import Derived.Test.YtkllilehdpdbdaaGreatDoorVxPb
import Derived.Lib.SliceRun
import Derived.ScopeJumps
import Derived.Laws.Tables
namespace Go.Proofs.YtkllilehdpdbdaaGreatDoor
open Go Go.RowKit Go.Sort
set_option linter.unusedVariables false
set_option linter.unusedSimpArgs false
section
variable {w0 : World} {F0 : List Nat} {tb : Nat} {t t' : Trm} {W W' : World} {L : Lay}
theorem setCells_far (g : Nat) : ∀ (vs : List Value) (o : Nat) (W : World) (k : Nat), k ≠ g → (W.setCells g o vs).heap[k]? = W.heap[k]?
  | [], _, _, _, _ => rfl
  | v :: r, o, W, k, h => (setCells_far g r (o + 1) _ k h).trans (heap_setCell_other W ⟨g, o, none⟩ k v h)
theorem setCells_mv {F : List Nat} (g : Nat) (h : g ∈ F) : ∀ (vs : List Value) (o : Nat) (W : World), Mv F W (W.setCells g o vs)
  | [], _, W => Mv.refl F W
  | v :: r, o, W => (Mv.set W h).trans (setCells_mv g h r (o + 1) _) (fun b hb => Or.inl hb)
def setF (l : List Bool) (o : Nat) : Nat → List Bool
  | 0 => l
  | m + 1 => setF (l.set o false) (o + 1) m
theorem setF_len : ∀ (m o : Nat) (l : List Bool), (setF l o m).length = l.length
  | 0, _, _ => rfl
  | m + 1, o, l => by
    show (setF (l.set o false) (o + 1) m).length = _
    rw [setF_len m, List.length_set]
theorem setF_get : ∀ (m o : Nat) (l : List Bool) (j : Nat), (setF l o m)[j]? = if o ≤ j ∧ j < o + m then (l[j]?).map (fun _ => false) else l[j]?
  | 0, o, l, j => by rw [if_neg (by omega)]; rfl
  | m + 1, o, l, j => by
    show (setF (l.set o false) (o + 1) m)[j]? = _
    rw [setF_get m]
    by_cases e : o = j
    · subst e
      rw [if_neg (by omega), if_pos (by omega), List.getElem?_set, if_pos rfl]
      by_cases c : o < l.length
      · rw [if_pos c, List.getElem?_eq_getElem c]; rfl
      · rw [if_neg c, List.getElem?_eq_none (by omega)]; rfl
    · rw [List.getElem?_set, if_neg e]
      by_cases c : o ≤ j ∧ j < o + (m + 1)
      · rw [if_pos c, if_pos (by omega)]
      · rw [if_neg c, if_neg (by omega)]
theorem setF_all (l : List Bool) : setF l 0 l.length = List.replicate l.length false := by
  refine List.ext_getElem? fun j => ?_
  rw [setF_get, List.getElem?_replicate]
  by_cases c : j < l.length
  · rw [if_pos (by omega), if_pos c, List.getElem?_eq_getElem c]; rfl
  · rw [if_neg (by omega), if_neg c, List.getElem?_eq_none (by omega)]
theorem setCells_own {g n cap : Nat} : ∀ (m o : Nat) (l : List Bool) (W : World), W.ownsRow 0 4 1 (.slice (some ⟨g, 0, none⟩) n cap) n (boolsV l) → (W.setCells g o (List.replicate m (.bool false))).ownsRow 0 4 1 (.slice (some ⟨g, 0, none⟩) n cap) n (boolsV (setF l o m))
  | 0, o, l, W, h => h
  | m + 1, o, l, W, h => by
    have := (h.stored o (.bool false)).1
    rw [← boolsV_set] at this
    exact setCells_own m (o + 1) (l.set o false) _ this
theorem infoBo2 : (Tryz.prog.info? 4).map (fun i => (i.zero, i.size)) = some (some (.bool false), 1) := by kernel_rfl
theorem zeroB : ∀ w, (zeroValue 4).run Tryz.prog w = .ok (.bool false) w := fun w => by
  obtain ⟨i, hi, hzz⟩ := Option.map_eq_some_iff.1 infoBo2
  simp only [Prod.mk.injEq] at hzz
  simp [zeroValue, typeInfo, hi, hzz.1]
theorem run_clearB {g n cap : Nat} {l : List Bool} {W : World} (h : W.ownsRow 0 4 1 (.slice (some ⟨g, 0, none⟩) n cap) n (boolsV l)) (hn : 0 < n) (hl : l.length = n) (ty : TypeId) : (Builtin.clear_ #[88] ty #[.slice (some ⟨g, 0, none⟩) n cap]).run Tryz.prog W = .ok (.tuple #[]) (W.setCells g 0 (List.replicate n (.bool false))) := by
  refine Lib.run_clear_slice W 88 4 ty (.bool false) Tryz.underlying88 zeroB rfl rfl g 0 n cap hn (fun j hj => ?_) (fun j hj => ?_)
  · rw [Nat.zero_add, h.cellAt j (by omega), List.getElem?_eq_getElem (by unfold boolsV; rw [List.length_map]; omega)]; rfl
  · rw [Nat.zero_add]; exact h.frozenAt j
/-- what was written is forgotten -/
theorem St.clearW (h : St w0 F0 tb t W) (hn : 0 < t.wrt.length) : ∃ L g cap, Bk W tb (trmV t L) 91 ∧ L.w = .slice (some ⟨g, 0, none⟩) t.wrt.length cap ∧ (∃ cu, W.heap[g]? = some (.cells cu 4 (0, 0))) ∧ (∀ ty, (Builtin.clear_ #[88] ty #[.slice (some ⟨g, 0, none⟩) t.wrt.length cap]).run Tryz.prog W = .ok (.tuple #[]) (W.setCells g 0 (List.replicate t.wrt.length (.bool false)))) ∧ St w0 F0 tb { t with wrt := List.replicate t.wrt.length false } (W.setCells g 0 (List.replicate t.wrt.length (.bool false))) := by
  obtain ⟨L, e, T, hf⟩ := h.lay
  obtain ⟨g, cap, ec, eo, ho, hc⟩ := T.w.slice hn
  refine ⟨L, g, cap, e ▸ T.own, ec, own_block ho, fun ty => run_clearB ho hn rfl ty, ?_⟩
  have gm : g ∈ L.fp := Lay.mem.2 (by rw [eo]; simp)
  refine ⟨h.g0, h.mv.trans (setCells_mv (F := [g]) g (by simp) _ _ W) (by intro b hb; rw [List.mem_singleton.1 hb]; exact hf _ gm), h.ng, L, e, ?_, hf⟩
  refine T.newW (fun j hj => setCells_far g _ _ W j (fun z => hj (by rw [eo, z]; simp))) rfl ?_ rfl rfl rfl rfl rfl rfl
  have := setCells_own t.wrt.length 0 t.wrt W ho
  rw [setF_all] at this
  show RowAt _ _ 1 L.w (List.replicate t.wrt.length false).length (boolsV (List.replicate t.wrt.length false))
  rw [ec, List.length_replicate]
  exact RowAt.of_own this (by omega)
/-- the stops are cleared -/
theorem St.clearS (h : St w0 F0 tb t W) (hn : 0 < t.stops.length) : ∃ L g cap, Bk W tb (trmV t L) 91 ∧ L.s = .slice (some ⟨g, 0, none⟩) t.stops.length cap ∧ (∀ ty, (Builtin.clear_ #[88] ty #[.slice (some ⟨g, 0, none⟩) t.stops.length cap]).run Tryz.prog W = .ok (.tuple #[]) (W.setCells g 0 (List.replicate t.stops.length (.bool false)))) ∧ St w0 F0 tb { t with stops := List.replicate t.stops.length false } (W.setCells g 0 (List.replicate t.stops.length (.bool false))) := by
  obtain ⟨L, e, T, hf⟩ := h.lay
  obtain ⟨g, cap, ec, eo, ho, hc⟩ := T.s.slice hn
  refine ⟨L, g, cap, e ▸ T.own, ec, fun ty => run_clearB ho hn rfl ty, ?_⟩
  have gm : g ∈ L.fp := Lay.mem.2 (by rw [eo]; simp)
  refine ⟨h.g0, h.mv.trans (setCells_mv (F := [g]) g (by simp) _ _ W) (by intro b hb; rw [List.mem_singleton.1 hb]; exact hf _ gm), h.ng, L, e, ?_, hf⟩
  refine T.newS (fun j hj => setCells_far g _ _ W j (fun z => hj (by rw [eo, z]; simp))) rfl ?_ rfl rfl rfl rfl rfl rfl
  have := setCells_own t.stops.length 0 t.stops W ho
  rw [setF_all] at this
  show RowAt _ _ 1 L.s (List.replicate t.stops.length false).length (boolsV (List.replicate t.stops.length false))
  rw [ec, List.length_replicate]
  exact RowAt.of_own this (by omega)
end
end Go.Proofs.YtkllilehdpdbdaaGreatDoor

/- What was written is told and forgotten. -/
namespace Go.Proofs.YtkllilehdpdbdaaGreatDoor
open Go Go.RowKit Go.Sort
set_option linter.unusedVariables false
set_option linter.unusedSimpArgs false
section
variable {w0 : World} {F0 : List Nat} {tb : Nat} {t t' : Trm} {W W' : World} {L : Lay}
def idxL (l : List Bool) (k : Nat) : List Int := ((List.range k).filter fun i => l.getD i false).map (fun (i : Nat) => (i : Int))
theorem idxL_len (l : List Bool) (k : Nat) : (idxL l k).length ≤ k := by
  unfold idxL
  rw [List.length_map]
  exact Nat.le_trans (List.length_filter_le _ _) (by rw [List.length_range]; exact Nat.le_refl _)
theorem idxL_yes (l : List Bool) (k : Nat) (h : l.getD k false = true) : idxL l (k + 1) = idxL l k ++ [(k : Int)] := by
  unfold idxL
  rw [List.range_succ, List.filter_append, List.map_append, List.filter_cons, if_pos h]
  rfl
theorem idxL_no (l : List Bool) (k : Nat) (h : l.getD k false = false) : idxL l (k + 1) = idxL l k := by
  unfold idxL
  rw [List.range_succ, List.filter_append, List.filter_cons, if_neg (by rw [h]; simp)]
  simp
theorem clear_none (A : Option Addr) (c : Nat) (ty : TypeId) (W : World) : (Builtin.clear_ #[88] ty #[.slice A 0 c]).run Tryz.prog W = .ok (.tuple #[]) W := by
  cases A <;> (simp [Builtin.clear_, run_underlying Tryz.underlying88]; try rfl)
set_option maxHeartbeats 8000000 in
set_option maxRecDepth 100000 in
theorem t_Written (h : St w0 F0 tb t W) (hl : t.wrt.length ≤ 1048576) : Calls Tryz.prog 22 #[.pointer (some ⟨tb, 0, none⟩)] W fun e w' => ∃ v, e = .returned v ∧ w'.ownsRow W.heap.size 3 1 v (writtenT t).length (ints (writtenT t)) ∧ St w0 F0 tb { t with wrt := List.replicate t.wrt.length false } w' := by
  obtain ⟨L1, A, c, B1, ew⟩ := h.lenW
  have k27 := B1.c 27 _ rfl
  rw [ew] at k27
  have H := Lib.hid h
  have WT : Hid (writtenT t = idxL t.wrt t.wrt.length) := Lib.hid rfl
  obtain ⟨n, hn⟩ : ∃ n, n = t.wrt.length := ⟨_, rfl⟩
  have HN := Lib.hid hn
  rw [← hn] at k27 WT hl ⊢
  have K27 := Lib.hid k27
  have HS : Hid (Below W.heap.size W W ∧ W.ownsRow W.heap.size 3 1 (.slice none 0 0) (idxL t.wrt 0).length (ints (idxL t.wrt 0))) := Lib.hid ⟨Below.refl _ _, own_nilI W _⟩
  clear B1 ew h hn
  go_enter Tryz.func22, Tryz.ntmps22
  go_wp2_with fail
  go_loopw [3, 13] (fun s3 s13 wr => ∃ k : Nat, k ≤ n ∧ s13 = .int .i64 (k : Int) ∧ Hid (Below W.heap.size W wr ∧ wr.ownsRow W.heap.size 3 1 s3 (idxL t.wrt k).length (ints (idxL t.wrt k)))) (fun _ i _ => n - (intOf i).toNat)
  case atStart => exact ⟨0, Nat.zero_le _, by simp, HS⟩
  case round =>
    obtain ⟨k, hk, rfl, hr⟩ := hrel
    clear HS k27
    obtain ⟨A3, c3, ev⟩ := own_slc hr.out.2
    subst ev
    by_cases lt : k < n
    · obtain ⟨L2, g, cap, B2, e2, hc2, ho, up⟩ := H.out.rowW (by rw [← HN.out]; omega)
      clear up
      have k28 := B2.c 27 _ rfl
      rw [e2, K27.out] at k28
      have hA : A = some ⟨g, 0, none⟩ := by injection (Option.some.inj k28)
      subst hA
      have y : wr.cell? ⟨g, k, none⟩ = some (.bool (t.wrt.getD k false)) := by
        have gl : g < W.heap.size := by obtain ⟨cu, hg⟩ := own_block ho; exact (Array.getElem?_eq_some_iff.1 hg).1
        refine (hr.out.1.cell (p := ⟨g, k, none⟩) gl).trans ((ho.cellAt k (by rw [← HN.out]; omega)).trans ?_)
        have kl : k < t.wrt.length := by rw [← HN.out]; exact lt
        unfold boolsV
        rw [List.getElem?_map, List.getElem?_eq_getElem kl, List.getD_eq_getElem?_getD, List.getElem?_eq_getElem kl]
        rfl
      have q0 : (0 : Int) ≤ (k : Int) := by omega
      have q5 : (k : Int) < (n : Int) := by omega
      have tn : (k : Int).toNat = k := by omega
      have wk : IntKind.i64.wrap ((k : Int) + 1) = (k : Int) + 1 := IntWalk.i64_in _ (by omega)
      clear B2 e2 hc2 ho k28
      cases hb : t.wrt.getD k false with
      | false =>
        rw [hb] at y
        have R2 : Hid (Below W.heap.size W wr ∧ wr.ownsRow W.heap.size 3 1 (.slice A3 (idxL t.wrt k).length c3) (idxL t.wrt (k + 1)).length (ints (idxL t.wrt (k + 1)))) := Lib.hid (by rw [idxL_no _ _ hb]; exact hr.out)
        clear hr
        go_wp2_with fail
        go_roundw
        case rel => exact ⟨k + 1, by omega, by go_num, R2⟩
        case measure => simp [intOf]; omega
      | true =>
        rw [hb] at y
        have QL := idxL_len t.wrt k
        have HO := Lib.hid (hr.out.2.alloc (.cells #[.int .i64 (k : Int)] 3))
        have O1 : Hid (∀ u ∈ [Value.int .i64 (k : Int)], u.oneCell' = true) := Lib.hid (by intro u hu; simp at hu; subst hu; rfl)
        have H2 : (idxL t.wrt k).length + 1 ≤ maxLen := by unfold maxLen; omega
        have H3 : ((idxL t.wrt k).length + 1) * 8 ≤ 140737488355328 := by omega
        have H4 : W.heap.size ≤ (wr.alloc (.cells #[.int .i64 (k : Int)] 3)).heap.size := by have := hr.out.1.size; simp; omega
        have PX : Hid (∀ w3 v', w3.ownsRow W.heap.size 3 1 v' ((idxL t.wrt k).length + 1) (ints (idxL t.wrt k) ++ [.int .i64 (k : Int)]) → (wr.alloc (.cells #[.int .i64 (k : Int)] 3)).grownBy w3 (Value.slice A3 (idxL t.wrt k).length c3).ownBlock → Below W.heap.size W w3 ∧ w3.ownsRow W.heap.size 3 1 v' (idxL t.wrt (k + 1)).length (ints (idxL t.wrt (k + 1)))) := Lib.hid (fun w3 v' ho hg => by
          refine ⟨(hr.out.1.alloc hr.out.1.size _).grown hg H4 (fun g hg2 => (hr.out.2.lt g hg2).1), ?_⟩
          rw [idxL_yes _ _ hb, List.length_append]
          have e : ints (idxL t.wrt k ++ [(k : Int)]) = ints (idxL t.wrt k) ++ [.int .i64 (k : Int)] := by unfold ints; simp
          rw [e]
          exact ho)
        obtain ⟨i0, hi0, hz0, hz1, hz2⟩ := info_parts infoInt
        clear hr QL
        go_wp2_with (at_builtin; refine wpList_append_own _ rfl (.tmp 19) (.tmp 21) 33 rfl W.heap.size 3 i0 (.int .i64 0) 1 8 Tryz.underlying33 hi0 hz0 hz1 hz2 rfl (by decide) _ _ _ rfl HO.out ⟨wr.heap.size, 0, none⟩ 1 1 [.int .i64 (k : Int)] rfl rfl (news_one _ _ _) O1.out H2 H3 H4 ?_; intro v' w3 hown3 hg3 _; have G3 := Lib.hid (PX.out w3 v' hown3 hg3); clear hown3 hg3 PX HO)
        go_roundw
        case rel => exact ⟨k + 1, by omega, by go_num, G3⟩
        case measure => simp [intOf]; omega
    · have ek : k = n := by omega
      subst ek
      have q5 : ¬ (k : Int) < (k : Int) := by omega
      have SH := H.out.below hr.out.1
      have k27 : wr.cell? ⟨tb, 27, none⟩ = some (.slice A k c) := (hr.out.1.cell (p := ⟨tb, 27, none⟩) H.out.lt).trans K27.out
      by_cases k0 : k = 0
      · subst k0
        have RC := clear_none A c 88 wr
        have RC2 : ∀ ty, (Builtin.clear_ #[88] ty #[.slice A 0 c]).run Tryz.prog wr = .ok (.tuple #[]) wr := fun ty => clear_none A c ty wr
        have SE : Hid (St w0 F0 tb { t with wrt := List.replicate 0 false } wr) := Lib.hid (by
          have z : t.wrt = [] := List.eq_nil_of_length_eq_zero HN.out.symm
          have e : ({ t with wrt := List.replicate 0 false } : Trm) = t := by
            show ({ t with wrt := [] } : Trm) = t
            rw [← z]
          rw [e]
          exact SH)
        clear SH RC
        go_wp2_with fail
        go_ret
        exact ⟨_, rfl, by rw [WT.out]; exact hr.out.2, SE.out⟩
      · obtain ⟨L2, g, cap, B2, e2, ⟨cu, hg⟩, RC, S2⟩ := SH.clearW (by rw [← HN.out]; omega)
        rw [← HN.out] at e2 RC S2
        have k28 := B2.c 27 _ rfl
        rw [e2, k27] at k28
        have hA : A = some ⟨g, 0, none⟩ := by injection (Option.some.inj k28)
        have hC : c = cap := by injection (Option.some.inj k28)
        subst hA hC
        have OW : Hid ((wr.setCells g 0 (List.replicate k (.bool false))).ownsRow W.heap.size 3 1 (.slice A3 (idxL t.wrt k).length c3) (idxL t.wrt k).length (ints (idxL t.wrt k))) := Lib.hid (own_low2 hr.out.2 (fun g' ⟨_, cu', hg'⟩ => setCells_far g _ _ wr g' (fun z => by
          rw [z, hg] at hg'
          cases hg')))
        have S2 := Lib.hid S2
        clear SH B2 e2 k28 hr hg
        go_wp2_with fail
        go_ret
        exact ⟨_, rfl, by rw [WT.out]; exact OW.out, S2.out⟩
end
end Go.Proofs.YtkllilehdpdbdaaGreatDoor

/- A terminal becomes another one; a new size. (Written by gen_resize.py.) -/
namespace Go.Proofs.YtkllilehdpdbdaaGreatDoor
open Go Go.RowKit Go.Sort
set_option linter.unusedVariables false
set_option linter.unusedSimpArgs false
section
variable {w0 : World} {F0 : List Nat} {tb : Nat} {t t' : Trm} {W W' : World} {L : Lay}
def setV : List Value → Nat → List Value → List Value
  | vs, _, [] => vs
  | vs, o, u :: r => setV (vs.set o u) (o + 1) r
theorem setV_eq : ∀ (us vs : List Value) (o : Nat), o + us.length ≤ vs.length → setV vs o us = vs.take o ++ us ++ vs.drop (o + us.length)
  | [], vs, o, h => by simp [setV]
  | u :: r, vs, o, h => by
    have hl : o < vs.length := by simp only [List.length_cons] at h; omega
    show setV (vs.set o u) (o + 1) r = _
    rw [setV_eq r _ _ (by rw [List.length_set]; simp only [List.length_cons] at h; omega)]
    rw [List.drop_set_of_lt (by omega)]
    rw [show o + (u :: r).length = o + 1 + r.length by simp only [List.length_cons]; omega]
    have e : (vs.set o u).take (o + 1) = vs.take o ++ [u] := by
      rw [List.take_succ_eq_append_getElem (by rw [List.length_set]; exact hl), List.getElem_set_self, List.take_set_of_le (Nat.le_refl _)]
    rw [e]
    simp
theorem Bk.sets {b : Nat} {T : TypeId} : ∀ (us : List Value) (o : Nat) (vs : List Value) (W : World), Bk W b vs T → Bk (W.setCells b o us) b (setV vs o us) T
  | [], o, vs, W, h => h
  | u :: r, o, vs, W, h => Bk.sets r (o + 1) (vs.set o u) _ (h.set o u)
theorem infoTrm : (Tryz.prog.info? 91).map (·.size) = some 32 := by kernel_rfl
/-- a terminal takes over a new one's parts -/
theorem St.become {n : Trm} {V : World} {nb : Nat} (h : St w0 F0 tb t W) (hn : St W [] nb n V) : ∃ L, L.b = nb ∧ Bk V nb (trmV n L) 91 ∧ ((∃ A n c, L.c = .slice A n c) ∧ (∃ A n c, L.a = .slice A n c) ∧ (∃ A n c, L.s = .slice A n c) ∧ (∃ A n c, L.w = .slice A n c) ∧ (∃ A n c, L.r = .slice A n c) ∧ (∃ A n c, L.h = .slice A n c) ∧ (∃ A n c, L.k = .slice A n c)) ∧ St w0 F0 tb n (V.setRow tb (trmV n L).toArray) := by
  obtain ⟨L0, rfl, T0, hf0⟩ := h.lay
  obtain ⟨L, rfl, T, hf⟩ := hn.lay
  have hB : Mv F0 w0 V := h.mv.trans hn.mv (by simp)
  have T1 : Bk V L0.b (trmV t L0) 91 := T0.own.of_eq (hn.mv.blk _ T0.own.lt (by simp))
  have new : ∀ g ∈ L.fp, W.heap.size ≤ g := fun g m => (hf g m).elim (fun z => by simp at z) id
  have far : ∀ g ∈ L.fp, (V.setRow L0.b (trmV n L).toArray).heap[g]? = V.heap[g]? := fun g m => setRow_other V L0.b g _ (fun z => by have := new g m; have := T0.own.lt; omega)
  have hl : (trmV n L).length = 32 := rfl
  have hl2 : (trmV t L0).length = 32 := rfl
  have o : Bk (V.setRow L0.b (trmV n L).toArray) L0.b (trmV n { L with b := L0.b }) 91 := setRow_heap V L0.b _ _ _ _ T1
  have sl : (∃ A n c, L.c = .slice A n c) ∧ (∃ A n c, L.a = .slice A n c) ∧ (∃ A n c, L.s = .slice A n c) ∧ (∃ A n c, L.w = .slice A n c) ∧ (∃ A n c, L.r = .slice A n c) ∧ (∃ A n c, L.h = .slice A n c) ∧ (∃ A n c, L.k = .slice A n c) := by
    obtain ⟨A1, c1, e1⟩ := T.c.asSlice
    obtain ⟨A2, c2, e2⟩ := T.a.asSlice
    obtain ⟨A3, c3, e3⟩ := T.s.asSlice
    obtain ⟨A4, c4, e4⟩ := T.w.asSlice
    obtain ⟨A5, c5, e5, _⟩ := T.r
    obtain ⟨A6, c6, e6, _⟩ := T.h
    obtain ⟨A7, c7, e7, _⟩ := T.k
    exact ⟨⟨_, _, _, e1⟩, ⟨_, _, _, e2⟩, ⟨_, _, _, e3⟩, ⟨_, _, _, e4⟩, ⟨_, _, _, e5⟩, ⟨_, _, _, e6⟩, ⟨_, _, _, e7⟩⟩
  refine ⟨L, rfl, T.own, sl, h.g0, hB.trans (show Mv [L0.b] V (V.setRow L0.b (trmV n L).toArray) from ⟨rfl, rfl, rfl, by simp, fun k _ hk => setRow_other V L0.b k _ (by simpa using hk)⟩) (by intro b hb; rw [List.mem_singleton.1 hb]; exact hf0 _ (Lay.mem.2 (by simp))), h.ng, { L with b := L0.b }, rfl, ?_, fun b hb => ?_⟩
  · have T2 := T.keep far
    exact ⟨o, T2.utf, T2.c, T2.a, T2.s, T2.w, T2.r, T2.h, T2.k, T.ca, T.sw, T.rh, T.rk, T.hk⟩
  · rcases Lay.mem.1 hb with z | z | z
    · rw [z]; exact hf0 _ (Lay.mem.2 (by simp))
    · exact Or.inr (Nat.le_trans h.mv.size (new b (Lay.mem.2 (Or.inr (Or.inl z)))))
    · exact Or.inr (Nat.le_trans h.mv.size (new b (Lay.mem.2 (Or.inr (Or.inr z)))))
set_option maxHeartbeats 8000000 in
set_option maxRecDepth 100000 in
theorem t_Resize (h : St w0 F0 tb t W) (w hh : Int) (w0' : 0 ≤ w) (w1 : w ≤ 4096) (h0 : 0 ≤ hh) (h1 : hh ≤ 4096) (ar : w * hh ≤ 1048576) : Calls Tryz.prog 23 #[.pointer (some ⟨tb, 0, none⟩), .int .i64 w, .int .i64 hh] W fun e w' => e = .returned (.int .i64 0) ∧ St w0 F0 tb (newV w hh) w' := by
  have NW := Lib.hid (t_New w hh w0' w1 h0 h1 ar W h.env)
  have H := Lib.hid h
  clear h
  go_enter Tryz.func23, Tryz.ntmps23
  go_wp2_with fail
  refine NW.out.mono ?_; rintro e V ⟨nb, rfl, hb, hge, hn⟩
  obtain ⟨L0, B0⟩ := (H.out.below hb).bk
  obtain ⟨⟨Lb, Lu, Lc, La, Ls, Lw, Lr, Lh, Lk⟩, eb, BN, ⟨⟨A1, m1, c1, e1⟩, ⟨A2, m2, c2, e2⟩, ⟨A3, m3, c3, e3⟩, ⟨A4, m4, c4, e4⟩, ⟨A5, m5, c5, e5⟩, ⟨A6, m6, c6, e6⟩, ⟨A7, m7, c7, e7⟩⟩, S⟩ := H.out.become hn
  dsimp only at e1 e2 e3 e4 e5 e6 e7
  subst e1 e2 e3 e4 e5 e6 e7
  obtain ⟨old, ho⟩ : ∃ old, old = (trmV t L0).toArray := ⟨_, rfl⟩
  obtain ⟨cs, hc⟩ : ∃ cs, cs = (trmV (newV w hh) ⟨Lb, Lu, .slice A1 m1 c1, .slice A2 m2 c2, .slice A3 m3 c3, .slice A4 m4 c4, .slice A5 m5 c5, .slice A6 m6 c6, .slice A7 m7 c7⟩).toArray := ⟨_, rfl⟩
  have GN : Hid (V.heap[nb]? = some (.cells cs 91 (0, 0))) := Lib.hid (by rw [hc]; exact BN)
  have G0 : Hid (V.heap[tb]? = some (.cells old 91 (0, 0))) := Lib.hid (by rw [ho]; exact B0)
  have IH : Hid ((Tryz.prog.info? 91).map (·.size) = some cs.size) := Lib.hid (by rw [hc]; exact infoTrm)
  have HS : Hid (old.size = cs.size) := Lib.hid (by rw [hc, ho]; rfl)
  have H1 : Hid (cs.all (·.oneCell') = true) := Lib.hid (by rw [hc]; simp [trmV, Value.oneCell'])
  rw [← hc] at S
  have S := Lib.hid S
  clear BN B0 NW hn hb hge eb hc ho
  go_wp2_with (first | (refine wpList_store_row rfl 91 (.tmp 23) (.tmp 22) rfl tb cs rfl rfl 91 old G0.out IH.out HS.out H1.out ?_) | (refine wpList_load_row rfl 91 (.tmp 21) rfl nb rfl 91 cs (0, 0) _ GN.out Tryz.underlying91 rfl IH.out ?_))
  go_ret
  exact ⟨rfl, S.out⟩
end
end Go.Proofs.YtkllilehdpdbdaaGreatDoor

/- A size that is none. -/
namespace Go.Proofs.YtkllilehdpdbdaaGreatDoor
open Go Go.RowKit Go.Sort
set_option linter.unusedVariables false
set_option linter.unusedSimpArgs false
section
variable {w0 : World} {F0 : List Nat} {tb : Nat} {t t' : Trm} {W W' : World} {L : Lay}
set_option maxHeartbeats 2000000 in
theorem t_Resize_bad (w h : Int) (bad : w < 0 ∨ h < 0 ∨ 4096 < w ∨ 4096 < h ∨ 1048576 < w * h) (W : World) (tb : Nat) : Calls Tryz.prog 23 #[.pointer (some ⟨tb, 0, none⟩), .int .i64 w, .int .i64 h] W fun e w' => e = .returned (.int .i64 5) ∧ w' = W := by
  have NB := Lib.hid (t_New_bad w h bad W)
  clear bad
  go_enter Tryz.func23, Tryz.ntmps23
  go_wp2_with fail
  refine NB.out.mono ?_; rintro e V ⟨rfl, rfl⟩
  go_wp2_with fail
  go_ret
  exact ⟨rfl, rfl⟩
end
end Go.Proofs.YtkllilehdpdbdaaGreatDoor

/- Feed: too many bytes; and byte by byte, given what a byte does. -/
namespace Go.Proofs.YtkllilehdpdbdaaGreatDoor
open Go Go.RowKit Go.Sort
set_option linter.unusedVariables false
set_option linter.unusedSimpArgs false
section
theorem t_Feed_long (tb : Nat) (A : Option Addr) (n c : Nat) (h : 1048576 < n) (W : World) : Calls Tryz.prog 16 #[.pointer (some ⟨tb, 0, none⟩), .slice A n c] W fun e w' => e = .returned (.int .i64 3) ∧ w' = W := by
  have hi : (1048576 : Int) < (n : Int) := by omega
  go_enter Tryz.func16, Tryz.ntmps16
  go_wp2_with fail
  go_ret
  exact ⟨rfl, rfl⟩
/-- Feed over the bytes, given what take does (I k: what holds before byte k) -/
theorem t_Feed_of (tb : Nat) (A : Option Addr) (n c : Nat) (D : List Int) (hD : D.length = n) (hn : n ≤ 1048576) (W : World) (I : Nat → World → Prop) (h0 : I 0 W)
    (hs : ∀ k wr, k < n → I k wr → ∃ ad, A = some ad ∧ wr.cell? (ad.add k) = some (.int .u8 (D.getD k 0)))
    (hk : ∀ k wr, k < n → I k wr → Calls Tryz.prog 41 #[.pointer (some ⟨tb, 0, none⟩), .int .u8 (D.getD k 0)] wr fun e w' => (∃ v, e = .returned v) ∧ I (k + 1) w') :
    Calls Tryz.prog 16 #[.pointer (some ⟨tb, 0, none⟩), .slice A n c] W fun e w' => e = .returned (.int .i64 0) ∧ I n w' := by
  have hi : ¬ (1048576 : Int) < (n : Int) := by omega
  have HS := Lib.hid hs
  have HK := Lib.hid hk
  have H0 := Lib.hid h0
  clear hs hk h0
  go_enter Tryz.func16, Tryz.ntmps16
  go_wp2_with fail
  go_loopw [14] (fun i wr => ∃ k : Nat, k ≤ n ∧ i = .int .i64 (k : Int) ∧ Hid (I k wr)) (fun i _ => n - (intOf i).toNat)
  case atStart => exact ⟨0, Nat.zero_le _, by simp, H0⟩
  case round =>
    obtain ⟨k, hk, rfl, hr⟩ := hrel
    clear H0
    by_cases lt : k < n
    · obtain ⟨ad, rfl, y⟩ := HS.out k wr lt hr.out
      have CT := Lib.hid (HK.out k wr lt hr.out)
      generalize D.getD k 0 = x at *
      have q0 : (0 : Int) ≤ (k : Int) := by omega
      have q5 : (k : Int) < (n : Int) := by omega
      have tn : (k : Int).toNat = k := by omega
      have wk : IntKind.i64.wrap ((k : Int) + 1) = (k : Int) + 1 := IntWalk.i64_in _ (by omega)
      clear hr HK HS
      go_wp2_with fail
      refine CT.out.mono ?_; rintro e w2 ⟨⟨v, rfl⟩, h2⟩
      have H2 := Lib.hid h2
      clear h2 CT
      go_wp2_with fail
      go_roundw
      case rel => exact ⟨k + 1, by omega, by go_num, H2⟩
      case measure => simp [intOf]; omega
    · have ek : k = n := by omega
      subst ek
      have q5 : ¬ (k : Int) < (k : Int) := by omega
      clear HK HS
      go_wp2_with fail
      go_ret
      exact ⟨rfl, hr.out⟩
end
end Go.Proofs.YtkllilehdpdbdaaGreatDoor

/- A byte at rest: what is kept and what the decoder holds part for a while (memory; plain). A scope with jumps. -/
namespace Go.Proofs.YtkllilehdpdbdaaGreatDoor
open Go Go.RowKit Go.Sort
set_option linter.unusedVariables false
set_option linter.unusedSimpArgs false
section
variable {P : Program} {a : Act} {w : World} {Q : Exit → Act → World → Prop}
/-- what holds at a jump: the rest is walked, with so many jumps more at most -/
def JumpN (P : Program) (rest : Code) (l : Nat) (Q : Exit → Act → World → Prop) : Nat → Act → World → Prop
  | 0, _, _ => False
  | n + 1, a, w => rest.wp P (Exit.jump l (JumpN P rest l Q n) Q) a w
theorem wp_scope_n {c rest : Code} (l n : Nat) (hf : findLabel c l = some rest) (first : c.wp P (Exit.jump l (JumpN P rest l Q n) Q) a w) : (Code.scope c).wp P Q a w := by
  intro b k cs
  have hg : gotoIn l (.inScope c :: k) = some (.code rest :: .inScope c :: k) := by simp [gotoIn, hf]
  have key : ∀ n a w, JumpN P rest l Q n a w → ∃ e a' w', Q e a' w' ∧ Arrives P (lone (b.at a (.code rest :: .inScope c :: k)) cs w) b k cs e a' w' := by
    intro n
    induction n with
    | zero => intro a w h; exact h.elim
    | succ n ih =>
      intro a w hJ
      obtain ⟨e, a₁, w₁, hq, harr⟩ := hJ b (.inScope c :: k) cs
      cases e with
      | normal => exact ⟨.normal, a₁, w₁, hq, Steps.trans harr (.one step_inScope)⟩
      | exit id => exact ⟨.exit id, a₁, w₁, hq, fun k' hk => harr k' (by simp [exitTo, hk])⟩
      | goto l' =>
        obtain ⟨rfl, hJ'⟩ := hq
        obtain ⟨e₂, a₂, w₂, hq₂, harr₂⟩ := ih a₁ w₁ hJ'
        exact ⟨e₂, a₂, w₂, hq₂, .of_steps (harr _ hg) harr₂⟩
      | ret => exact ⟨_, a₁, w₁, hq, harr⟩
      | panic ch => exact ⟨_, a₁, w₁, hq, harr⟩
      | outgrown => exact ⟨_, a₁, w₁, hq, harr⟩
  obtain ⟨e, a₁, w₁, hq, harr⟩ := first b (.inScope c :: k) cs
  cases e with
  | normal => exact ⟨.normal, a₁, w₁, hq, .head step_scope (Steps.trans harr (.one step_inScope))⟩
  | exit id => exact ⟨.exit id, a₁, w₁, hq, fun k' hk => .head step_scope (harr k' (by simp [exitTo, hk]))⟩
  | goto l' =>
    obtain ⟨rfl, hJ'⟩ := hq
    obtain ⟨e₂, a₂, w₂, hq₂, harr₂⟩ := key n a₁ w₁ hJ'
    exact ⟨e₂, a₂, w₂, hq₂, .of_steps (.head step_scope (harr _ hg)) harr₂⟩
  | ret => exact ⟨_, a₁, w₁, hq, .of_steps (.one step_scope) harr⟩
  | panic ch => exact ⟨_, a₁, w₁, hq, .of_steps (.one step_scope) harr⟩
  | outgrown => exact ⟨_, a₁, w₁, hq, .of_steps (.one step_scope) harr⟩
end
section
variable {w0 : World} {F0 : List Nat} {tb : Nat} {t t' : Trm} {W W' V V' : World} {L : Lay} {v v' : Value} {dk dk' kk y : ByteArray}
/-- a terminal in whose memory what is kept and what the decoder holds are on their way -/
structure Gr (W : World) (L : Lay) (t : Trm) (V : World) (v : Value) (dk kk : ByteArray) : Prop where
  mv : Mv (L.b :: L.u :: ob L.k) W V
  own : Bk V L.b (trmV t { L with k := v }) 91
  utf : DecAt V L.u dk
  k : KeptAt V v kk
  sub : ∀ g ∈ ob v, g ∈ ob L.k ∨ W.heap.size ≤ g
theorem Gr.start (T : TrmAt W L t) : Gr W L t W L.k t.kept t.kept := ⟨Mv.refl _ _, T.own, T.utf, T.k, fun g m => Or.inl m⟩
theorem Gr.below (h : Gr W L t V v dk kk) (hb : Below V.heap.size V V') : Gr W L t V' v dk kk :=
  ⟨h.mv.trans (Mv.below (F := []) hb) (by simp), h.own.of_eq (hb.block _ h.own.lt), h.utf.keep (hb.block _ (by obtain ⟨_, k⟩ := h.utf.kind; exact k.lt)), h.k.keep (fun g m => hb.block g (h.k.lt g m)), h.sub⟩
theorem Gr.nb (h : Gr W L t V v dk kk) : L.b ∉ ob v := fun m => by
  obtain ⟨cur, q⟩ := h.k.kind _ m
  exact h.own.ne q (by decide) rfl
theorem Gr.nu (h : Gr W L t V v dk kk) : L.u ∉ ob v := fun m => by
  obtain ⟨cur, q⟩ := h.k.kind _ m
  obtain ⟨vs, d⟩ := h.utf.kind
  exact d.ne q (by decide) rfl
theorem Gr.ub (h : Gr W L t V v dk kk) : L.u ≠ L.b := by
  obtain ⟨vs, d⟩ := h.utf.kind
  unfold Bk at d
  exact h.own.ne d (by decide)
/-- the cell of what is kept is written -/
theorem Gr.put (h : Gr W L t V v dk kk) (k' : KeptAt V v' y) (s : ∀ g ∈ ob v', g ∈ ob L.k ∨ W.heap.size ≤ g) : Gr W L t (V.setCell ⟨L.b, 31, none⟩ v') v' dk y := by
  have far : ∀ g, g ≠ L.b → (V.setCell ⟨L.b, 31, none⟩ v').heap[g]? = V.heap[g]? := fun g hg => heap_setCell_other V ⟨L.b, 31, none⟩ g v' hg
  refine ⟨h.mv.trans (Mv.set (F := [L.b]) V (by simp)) (by simp), h.own.set 31 v', h.utf.keep (far _ h.ub), k'.keep (fun g m => far g (fun e => ?_)), s⟩
  subst e
  obtain ⟨cur, q⟩ := k'.kind _ m
  exact h.own.ne q (by decide) rfl
theorem Gr.app (h : Gr W L t V v dk kk) (ok : AppOk V V' v v' kk y) : Gr W L t V' v dk kk ∧ Gr W L t (V'.setCell ⟨L.b, 31, none⟩ v') v' dk y := by
  have hs := h.mv.size
  have G : Gr W L t V' v dk kk := ⟨h.mv.trans ok.mv (fun b hb => (h.sub b hb).elim (fun z => Or.inl (by simp [z])) Or.inr), h.own.of_eq (ok.mv.blk _ h.own.lt h.nb), h.utf.keep (ok.mv.blk _ (by obtain ⟨_, k⟩ := h.utf.kind; exact k.lt) h.nu), ok.old, h.sub⟩
  exact ⟨G, G.put ok.new (fun g m => (ok.sub g m).elim (h.sub g) (fun z => Or.inr (by omega)))⟩
theorem Gr.feed (h : Gr W L t V v dk kk) (m : Mv [L.u] V V') (d : DecAt V' L.u dk') : Gr W L t V' v dk' kk :=
  ⟨h.mv.trans m (fun b hb => Or.inl (by simp at hb; simp [hb])), h.own.of_eq (m.blk _ h.own.lt (by simp; exact fun e => h.ub e.symm)), d, h.k.keep (fun g hg => m.blk g (h.k.lt g hg) (by simp; exact fun e => h.nu (e ▸ hg))), h.sub⟩
/-- a slice's end is a slice -/
theorem kept_cut {A : Option Addr} {c P : Nat} {s : ByteArray} (h : KeptAt V (.slice A s.size c) s) (hp : P ≤ s.size) : KeptAt V (.slice (cutB A c P) (s.size - P) (c - P)) (s.extract P s.size) ∧ ∀ g ∈ ob (.slice (cutB A c P) (s.size - P) (c - P)), g ∈ ob (.slice A s.size c) := by
  obtain ⟨A', c', e, h1, h2, h3, h4⟩ := h
  simp only [Value.slice.injEq] at e
  obtain ⟨rfl, _, rfl⟩ := e
  have sz : (s.extract P s.size).size = s.size - P := by rw [ByteArray.size_extract]; omega
  refine ⟨⟨cutB A c P, c - P, by rw [sz], by omega, by omega, fun e => ?_, fun hc => ?_⟩, fun g hg => ?_⟩
  · unfold cutB at e
    split at e
    · omega
    · have := h3 (by simpa using e)
      omega
  · obtain ⟨g, o, cur, rfl, q1, q2, q3⟩ := h4 (by omega)
    refine ⟨g, o + P, cur, ?_, q1, by omega, fun j u hj => ?_⟩
    · unfold cutB
      rw [if_neg (by omega)]
      show some ((⟨g, o, none⟩ : Addr).add P) = _
      rw [add_at]
    · rw [strc_drop, List.getElem?_drop] at hj
      have := q3 _ _ hj
      rw [show o + P + j = o + (P + j) by omega]
      exact this
  · by_cases z : c - P = 0
    · rw [z] at hg
      unfold ob at hg
      cases h9 : cutB A c P <;> (rw [h9] at hg; simp at hg)
    · obtain ⟨g', o, cur, rfl, q1, q2, q3⟩ := h4 (by omega)
      obtain ⟨c1, e1⟩ : ∃ c1, c - P = c1 + 1 := ⟨c - P - 1, by omega⟩
      obtain ⟨c2, e2⟩ : ∃ c2, c = c2 + 1 := ⟨c - 1, by omega⟩
      have e3 : cutB (some ⟨g', o, none⟩) c P = some ⟨g', o + P, none⟩ := by
        unfold cutB
        rw [if_neg (by omega)]
        show some ((⟨g', o, none⟩ : Addr).add P) = _
        rw [add_at]
      rw [e3, e1] at hg
      rw [e2]
      simpa [ob] using hg
theorem Gr.cut {A : Option Addr} {c P : Nat} (h : Gr W L t V (.slice A kk.size c) dk kk) (hp : P ≤ kk.size) : Gr W L t (V.setCell ⟨L.b, 31, none⟩ (.slice (cutB A c P) (kk.size - P) (c - P))) (.slice (cutB A c P) (kk.size - P) (c - P)) dk (kk.extract P kk.size) := by
  obtain ⟨k1, k2⟩ := kept_cut h.k hp
  exact h.put k1 (fun g m => h.sub g (k2 g m))
theorem Gr.done (h : Gr W L t V v y y) (T : TrmAt W L t) (E : EnvV W) (nv : ∀ b ∈ L.fp, NotV b) : St W L.fp L.b { t with kept := y } V := by
  have far : ∀ {g : Nat} {cur : Array Value} {Ty : TypeId} {fl : Nat × Nat}, W.heap[g]? = some (.cells cur Ty fl) → Ty ≠ 91 → Ty ≠ 127 → (g ∉ ob L.k) → V.heap[g]? = W.heap[g]? := fun {g} {cur} {Ty} {fl} hg n1 n2 n3 => h.mv.blk g (Array.getElem?_eq_some_iff.1 hg).1 (fun m => by
    rcases List.mem_cons.1 m with rfl | m
    · exact T.own.ne hg n1 rfl
    · rcases List.mem_cons.1 m with rfl | m
      · obtain ⟨vs, d⟩ := T.utf.kind
        exact d.ne hg n2 rfl
      · exact n3 m)
  have nk : ∀ {g : Nat} {cur : Array Value} {Ty : TypeId} {fl : Nat × Nat}, W.heap[g]? = some (.cells cur Ty fl) → Ty ≠ 5 → g ∉ ob L.k := fun {g} {cur} {Ty} {fl} hg n m => by
    obtain ⟨c2, q⟩ := T.k.kind g m
    rw [hg] at q
    cases q
    exact n rfl
  have sub : ∀ g ∈ ({ L with k := v } : Lay).fp, g ∈ L.fp ∨ W.heap.size ≤ g := fun g m => by
    rcases Lay.mem.1 m with q | q | q | q | q | q | q | q | q
    · exact Or.inl (Lay.mem.2 (Or.inl q))
    · exact Or.inl (Lay.mem.2 (Or.inr (Or.inl q)))
    · exact Or.inl (Lay.mem.2 (by simp only at q; simp [q]))
    · exact Or.inl (Lay.mem.2 (by simp only at q; simp [q]))
    · exact Or.inl (Lay.mem.2 (by simp only at q; simp [q]))
    · exact Or.inl (Lay.mem.2 (by simp only at q; simp [q]))
    · exact Or.inl (Lay.mem.2 (by simp only at q; simp [q]))
    · exact Or.inl (Lay.mem.2 (by simp only at q; simp [q]))
    · rcases h.sub g q with z | z
      · exact Or.inl (Lay.mem.2 (by simp [z]))
      · exact Or.inr z
  refine ⟨E, ⟨h.mv.os, h.mv.tape, h.mv.output, h.mv.size, fun k hk hn => h.mv.blk k hk (fun m => hn (Lay.mem.2 ?_))⟩, nv, { L with k := v }, rfl, ⟨h.own, h.utf, ?_, ?_, ?_, ?_, ?_, ?_, h.k, T.ca, T.sw, T.rh, ?_, ?_⟩, sub⟩
  · rcases List.mem_cons.1 m with q | m
    · simp [q]
    · rcases List.mem_cons.1 m with q | m
      · simp [q]
      · simp [m]
  · exact T.c.keep (fun g m => by obtain ⟨cur, q⟩ := T.c.kind g m; exact far q (by decide) (by decide) (nk q (by decide)))
  · exact T.a.keep (fun g m => by obtain ⟨cur, q⟩ := T.a.kind g m; exact far q (by decide) (by decide) (nk q (by decide)))
  · exact T.s.keep (fun g m => by obtain ⟨cur, q⟩ := T.s.kind g m; exact far q (by decide) (by decide) (nk q (by decide)))
  · exact T.w.keep (fun g m => by obtain ⟨cur, q⟩ := T.w.kind g m; exact far q (by decide) (by decide) (nk q (by decide)))
  · exact T.r.keep (fun g m => by obtain ⟨cur, q⟩ := T.r.kind g m; exact far q (by decide) (by decide) (T.rk g m))
  · exact T.h.keep (fun g m => by obtain ⟨cur, q⟩ := T.h.kind g m; exact far q (by decide) (by decide) (T.hk g m))
  · exact fun g m m2 => (h.sub g m2).elim (T.rk g m) (fun z => by have := T.r.lt g m; omega)
  · exact fun g m m2 => (h.sub g m2).elim (T.hk g m) (fun z => by have := T.h.lt g m; omega)
/-- what is kept is an end of what was there -/
theorem cert_suffix : ∀ (f : Nat) (s : ByteArray), s.size ≤ f → ∃ P, P ≤ s.size ∧ (certF f s).2 = s.extract P s.size
  | 0, s, h => ⟨s.size, Nat.le_refl _, (ext_none s s.size (Nat.le_refl _)).symm⟩
  | f + 1, s, h => by
    unfold certF
    by_cases z : s.size = 0
    · rw [if_pos z]; exact ⟨s.size, Nat.le_refl _, (ext_none s s.size (Nat.le_refl _)).symm⟩
    · rw [if_neg z]
      by_cases o : openB s = true
      · rw [if_pos o]
        refine ⟨0, Nat.zero_le _, ?_⟩
        apply ByteArray.ext
        rw [ByteArray.data_extract]
        exact (Array.extract_eq_self_of_le (Nat.le_refl _)).symm
      · rw [if_neg o]
        have b := decB_bounds s (by omega)
        have sz : (s.extract (decB s).2 s.size).size = s.size - (decB s).2 := by rw [ByteArray.size_extract]; omega
        obtain ⟨P, h1, h2⟩ := cert_suffix f (s.extract (decB s).2 s.size) (by omega)
        refine ⟨(decB s).2 + P, by omega, ?_⟩
        show (certF f (s.extract (decB s).2 s.size)).2 = _
        rw [h2, sz]
        have dl : (decB s).2 ≤ s.size := b.2.1
        clear h2 b sz z o
        generalize (decB s).2 = d at *
        apply ByteArray.ext
        have e9 : ∀ k, k = s.size → s.data.extract (d + P) k = s.data.extract (d + P) s.size := fun k hk => by rw [hk]
        rw [ByteArray.data_extract, ByteArray.data_extract, ByteArray.data_extract, Array.extract_extract]
        exact e9 _ (by omega)
theorem held_suffix (s : ByteArray) : (certB s).2.size ≤ s.size ∧ (certB s).2 = s.extract (s.size - (certB s).2.size) s.size := by
  obtain ⟨P, h1, h2⟩ := cert_suffix s.size s (Nat.le_refl _)
  have e : (certB s).2 = s.extract P s.size := h2
  have sz : (certB s).2.size = s.size - P := by rw [e, ByteArray.size_extract]; omega
  refine ⟨by omega, ?_⟩
  rw [show s.size - (certB s).2.size = P by omega]
  exact e
end
end Go.Proofs.YtkllilehdpdbdaaGreatDoor

/- A terminal takes a byte. (The frames are printed by gen_take.py.) -/
namespace Go.Proofs.YtkllilehdpdbdaaGreatDoor
open Go Go.RowKit Go.Sort
set_option linter.unusedVariables false
set_option linter.unusedSimpArgs false
section
variable {w0 : World} {F0 : List Nat} {tb : Nat} {t t' : Trm} {W W' : World}
/-- what stands behind a function's first label -/
def restOf : Option Code → Code
  | some (.scope (.seq _ r)) => r
  | _ => .skip
theorem runes_take (t : Trm) (l : List Int) (k : Nat) (h : k < l.length) : runesT t (l.take (k + 1)) = runeT (runesT t (l.take k)) l[k] := by
  unfold runesT
  rw [List.take_add_one, List.getElem?_eq_getElem h, List.foldl_append]
  rfl
theorem runs_fine (l : List Int) {t : Trm} (f : Fine t) (o : OpnOk t) (k : Nat) (q : t.reps.size ≤ 65536) : Fine (runesT t (l.take k)) ∧ OpnOk (runesT t (l.take k)) := ⟨fine_runes _ f, (run_runes _ f o q).1⟩
theorem runes_at {W : World} {v : Value} {l : List Int} {B : Nat} (h : W.ownsRow B 21 1 v l.length (rns l)) (hl : 0 < l.length) : ∃ g c cur, v = .slice (some ⟨g, 0, none⟩) l.length c ∧ W.heap[g]? = some (.cells cur 21 (0, 0)) ∧ ∀ k (hk : k < l.length), W.cell? ⟨g, k, none⟩ = some (.int .i32 l[k]) := by
  rcases h.2 with ⟨_, z⟩ | ⟨g, cap, cur, rfl, _, hg, _⟩
  · omega
  · refine ⟨g, cap, cur, rfl, hg, fun k hk => ?_⟩
    rw [h.cellAt k (by omega)]
    unfold rns
    rw [List.getElem?_map, List.getElem?_eq_getElem hk]
    rfl
set_option maxHeartbeats 16000000 in
set_option maxRecDepth 100000 in
theorem takeG_wp (h : St w0 F0 tb t W) (Lv : Live t) (s0 : t.state = 0) (b : Int) (b0 : 0 ≤ b) (b1 : b < 256) (u11 u12 u13 u14 u15 u16 u71 u72 u73 u74 u75 u76 u77 u81 u82 u83 u84 u85 u86 u87 u88 u89 u90 u91 u92 u93 u94 u95 u96 u97 u98 u109 u110 u111 u112 u113 u114 u115 u116 u117 u118 u119 u120 u121 u125 u126 u127 u131 u132 u133 u138 u139 u140 u141 u142 u143 u144 u145 u146 : Value) (Q : Exit → Act → World → Prop) (hQ : ∀ a w', a.defers = [] → St w0 F0 tb (takeG t b) w' → Q .normal a w') :
    Code.wp Tryz.prog (restOf (Tryz.f41).body) Q { tmps := #[.pointer (some ⟨tb, 0, none⟩), .int .u8 b, undef, undef, undef, undef, undef, undef, undef, undef, undef, u11, u12, u13, u14, u15, u16, undef, undef, undef, undef, undef, undef, undef, undef, undef, undef, undef, undef, undef, undef, undef, undef, undef, undef, undef, undef, undef, undef, undef, undef, undef, undef, undef, undef, undef, undef, undef, undef, undef, undef, undef, undef, undef, undef, undef, undef, undef, undef, undef, undef, undef, undef, undef, undef, undef, undef, undef, undef, undef, undef, u71, u72, u73, u74, u75, u76, u77, undef, undef, undef, u81, u82, u83, u84, u85, u86, u87, u88, u89, u90, u91, u92, u93, u94, u95, u96, u97, u98, undef, undef, undef, undef, undef, undef, undef, undef, undef, undef, u109, u110, u111, u112, u113, u114, u115, u116, u117, u118, u119, u120, u121, undef, undef, undef, u125, u126, u127, undef, undef, undef, u131, u132, u133, undef, undef, undef, undef, u138, u139, u140, u141, u142, u143, u144, u145, u146, undef, undef, undef, undef, undef, undef, undef, undef, undef, undef, undef, undef, undef, undef, undef, undef, undef, undef, undef, undef, undef, undef, undef, undef, undef, undef, undef, undef, undef, undef, undef, undef, undef, undef, undef, undef, undef, undef, undef], defers := [] } W := by
  obtain ⟨L, e, T, h1, up⟩ := h.from
  subst e
  have UP := Lib.hid up
  have HQ := Lib.hid hQ
  have FI := Lib.hid Lv.fine
  have OP := Lib.hid Lv.opn
  have RP := Lib.hid Lv.reps
  have TT := Lib.hid T
  have EV := Lib.hid h1.env
  have NG := Lib.hid h1.ng
  have ks := kept_size Lv.st.kept
  have G1 := Gr.start T
  have k28 := T.own.c 28 _ rfl
  rw [s0] at k28
  obtain ⟨v', V, RC0, ok⟩ := kept_push T.k b b0 b1 (by omega)
  have BA : Below W.heap.size W (W.alloc (.cells #[.int .u8 b] 5)) := (Below.refl _ W).alloc (Nat.le_refl _) _
  obtain ⟨G3, G4⟩ := (G1.below BA).app ok
  obtain ⟨A, c, eA, q1, q2, q3, q4⟩ := T.k
  have k31 : W.cell? ⟨L.b, 31, none⟩ = some (.slice A t.kept.size c) := by rw [← eA]; exact T.own.c 31 _ rfl
  obtain ⟨A2, c2, eV, r1, r2, r3, r4⟩ := ok.new
  subst eV
  have v31 : V.cell? ⟨L.b, 31, none⟩ = some (.slice A t.kept.size c) := by rw [← eA]; exact G3.own.c 31 _ rfl
  have vf31 := G3.own.f 31
  have RC := Lib.hid RC0
  rw [eA] at RC
  have SZ : (pushB t.kept b).size = t.kept.size + 1 := push_size _ _
  obtain ⟨V4, hV4⟩ : ∃ V4, V4 = V.setCell ⟨L.b, 31, none⟩ (.slice A2 (pushB t.kept b).size c2) := ⟨_, rfl⟩
  rw [← hV4] at G4
  have m30 := G4.own.c 30 _ rfl
  have B5 : Below V4.heap.size V4 (V4.alloc (.cells #[.int .u8 b] 5)) := (Below.refl _ V4).alloc (Nat.le_refl _) _
  have G5 := G4.below B5
  have FE : Hid (Calls Tryz.prog 47 #[.pointer (some ⟨L.u, 0, none⟩), .slice (some ⟨V4.heap.size, 0, none⟩) 1 1] (V4.alloc (.cells #[.int .u8 b] 5)) (FeedRet L.u (pushB t.kept b) (V4.alloc (.cells #[.int .u8 b] 5)))) := Lib.hid (by
    refine d_Feed L.u t.kept ⟨#[UInt8.ofNat b.toNat]⟩ ⟨V4.heap.size, 0, none⟩ 1 _ G5.utf (by show t.kept.size + 1 ≤ 4; omega) (Nat.le_refl _) (fun _ => ⟨_, rfl, by simp, fun j u hj => ?_⟩) (Nat.zero_lt_one)
    rw [one_cells b b0 b1] at hj
    cases j with
    | succ j => simp at hj
    | zero =>
      have : u = .int .u8 b := by simpa using hj.symm
      subst this
      have := World.alloc_heap_new V4 (.cells #[.int .u8 b] 5)
      rw [add_at]
      simp only [World.cell?, this]
      rfl)
  obtain ⟨K, hK⟩ : ∃ K, K = pushB t.kept b := ⟨_, rfl⟩
  have TG : Hid (takeG t b = runesT { t with kept := (certB K).2 } (certB K).1) := Lib.hid (by rw [hK]; rfl)
  rw [← hK] at RC hV4 G4 G5 FE SZ
  have G5 := Lib.hid G5
  obtain ⟨hs1, hs2⟩ := held_suffix K
  have HS2 := Lib.hid hs2
  clear h h1 up hQ Lv T G1 G3 G4 BA B5 ok q1 q2 q3 q4 r1 r2 r3 r4 RC0 s0 hK hs2
  have HZ := Lib.hid SZ
  clear SZ
  conv =>
    arg 2
    whnf
  go_upto_region 2 with fail
  go_upto_region 3 with (at_builtin; refine wpList_append_run rfl (.tmp 21) (.tmp 23) 29 29 rfl _ _ _ _ rfl rfl RC.out ?_)
  rw [← hV4]
  clear hV4 k28 k31 v31 vf31 RC eA
  go_wp2_with fail
  refine FE.out.mono ?_; rintro e w6 ⟨vl, rfl, OW, DE, MV⟩
  have G6 := G5.out.feed MV DE
  obtain ⟨d0, d1, d2, d3, DB, _, _⟩ := DE
  have HE := Lib.hid (d_Held L.u _ ((certB K).2.size : Int) w6 DB rfl)
  have n30 := G6.own.c 30 _ rfl
  have n31 := G6.own.c 31 _ rfl
  have nf31 := G6.own.f 31
  have OW := Lib.hid OW
  have G6 := Lib.hid G6
  clear MV DB FE G5 m30
  go_wp2_with fail
  refine HE.out.mono ?_; rintro e w7 ⟨rfl, rfl⟩
  go_upto_if 45 with fail
  go_cut [45] from 45 to 60 (fun s45 wx => s45 = s45 ∧ Hid (St W L.fp L.b { t with kept := (certB K).2 } wx ∧ wx.ownsRow 0 21 1 vl (certB K).1.length (rns (certB K).1)))
  case first =>
    by_cases lt : (certB K).2.size < K.size
    · obtain ⟨P, hP⟩ : ∃ P, P = K.size - (certB K).2.size := ⟨_, rfl⟩
      have lti : ((certB K).2.size : Int) < (K.size : Int) := by omega
      have wk : IntKind.i64.wrap ((K.size : Int) - ((certB K).2.size : Int)) = (P : Int) := by rw [IntWalk.i64_in _ (by have := HZ.out; omega)]; omega
      have SL := bytes_from A2 K.size c2 P (by omega)
      have HPL : Hid (P ≤ K.size) := Lib.hid (by omega)
      have EK : Hid (K.extract P K.size = (certB K).2) := Lib.hid (by rw [hP]; exact HS2.out.symm)
      have n31 := G6.out.own.c 31 _ rfl
      have n31d := (G6.out.below (Below.refl _ _).drew).own.c 31 _ rfl
      have nf31d := (G6.out.below (Below.refl _ _).drew).own.f 31
      have HP := Lib.hid hP
      clear hs1 lt hP
      go_upto_region 6 with fail
      refine wp_region_draw_tail 15 (by kernel_rfl) (by kernel_rfl) ?_
      simp only [List.take_succ_cons, List.take_zero, List.drop_succ_cons, List.drop_zero]
      repeat (quiet_step (fail))
      refine wpQuiet_nil ?_
      intro _ hw'
      obtain ⟨nq, hw''⟩ := hw'
      subst hw''
      go_wp2_with fail
      go_meet
      refine ⟨trivial, Lib.hid ⟨?_, ?_⟩⟩
      · have G := (G6.out.below (below_drewN (Below.refl _ _) nq)).cut (P := P) HPL.out
        rw [EK.out] at G
        exact G.done TT.out EV.out NG.out
      · refine own_low (own_low2 OW.out (fun g hg => ?_)) (Nat.zero_le _)
        obtain ⟨_, cu, hcu⟩ := hg
        exact (heap_setCell_other (w7.drewN nq) ⟨L.b, 31, none⟩ g _ (G6.out.own.ne hcu (by decide))).trans rfl
    · have lti : ¬ ((certB K).2.size : Int) < (K.size : Int) := by omega
      have EK : Hid (K = (certB K).2) := Lib.hid (by
        have h := HS2.out
        rw [show K.size - (certB K).2.size = 0 by omega] at h
        rw [h]
        apply ByteArray.ext
        rw [ByteArray.data_extract]
        exact (Array.extract_eq_self_of_le (Nat.le_refl _)).symm)
      clear hs1 lt
      go_wp2_with fail
      go_meet
      refine ⟨trivial, Lib.hid ⟨?_, own_low OW.out (Nat.zero_le _)⟩⟩
      have G := G6.out
      have G2 : ∀ y, K = y → Gr W L t w7 (.slice A2 K.size c2) y K → Gr W L t w7 (.slice A2 K.size c2) y y := fun y e g => by rw [← e] at g ⊢; exact g
      exact (G2 _ EK.out G).done TT.out EV.out NG.out
  case rest =>
    obtain ⟨_, hR⟩ := hcut
    obtain ⟨hS, hO⟩ := hR.out
    obtain ⟨l, hl⟩ : ∃ l, l = (certB K).1 := ⟨_, rfl⟩
    obtain ⟨t1, ht1⟩ : ∃ t1 : Trm, t1 = { t with kept := (certB K).2 } := ⟨_, rfl⟩
    rw [← ht1] at hS TG
    rw [← hl] at hO TG
    have lc : l.length ≤ 8 := by
      rw [hl]
      have := cert_len K.size K
      have := HZ.out
      show (certF K.size K).1.length ≤ 8
      omega
    have F1 : Fine t1 := by rw [ht1]; exact FI.out.still rfl rfl rfl
    have O1 : OpnOk t1 := by rw [ht1]; exact OP.out.imp id (fun o => o.same ⟨rfl, rfl, rfl, rfl⟩)
    have R1 : t1.reps.size ≤ 65536 := by rw [ht1]; exact RP.out
    obtain ⟨F, h7, up7, hF1, hF2⟩ := hS.hold
    have RF := Lib.hid (fun k => runs_fine l F1 O1 k R1)
    have UP7 := Lib.hid up7
    obtain ⟨X, hX⟩ : ∃ X, X = wc := ⟨_, rfl⟩
    rw [← hX] at h7 hO hF2 UP7
    have H7 : Hid (St X F L.b (runesT t1 (l.take 0)) wc) := Lib.hid (by rw [← hX]; exact h7)
    have CE : Hid (∀ k wr, k < l.length → St X F L.b (runesT t1 (l.take k)) wr → ∃ g c, vl = .slice (some ⟨g, 0, none⟩) l.length c ∧ wr.cell? ⟨g, k, none⟩ = some (.int .i32 (l.getD k 0))) := Lib.hid (fun k wr hk hs => by
      obtain ⟨g, c3, cur, ev, hg, hc⟩ := runes_at hO (by omega)
      refine ⟨g, c3, ev, ?_⟩
      rw [List.getD_eq_getElem?_getD, List.getElem?_eq_getElem hk]
      exact (World.cell?_of_block (hs.mv.blk g (Array.getElem?_eq_some_iff.1 hg).1 (hF2 g cur _ _ hg (by decide)))).trans (hc k hk))
    obtain ⟨A3, c3, ev⟩ : ∃ A3 c3, vl = .slice A3 l.length c3 := by
      rcases hO.2 with ⟨z, z2⟩ | ⟨g, cap, cur, z, _⟩
      · exact ⟨none, 0, by rw [z, z2]⟩
      · exact ⟨_, _, z⟩
    clear hR hS hO hF1 hF2 h7 up7 F1 O1 R1 OW G6 TT EV NG HE hX
    subst ev
    obtain ⟨n, hn⟩ : ∃ n, n = l.length := ⟨_, rfl⟩
    rw [← hn] at lc CE
    rw [← hn]
    have HN := Lib.hid hn
    clear hn
    go_wp2_with fail
    go_loopw [63] (fun i wr => ∃ k : Nat, k ≤ n ∧ i = .int .i64 (k : Int) ∧ Hid (St X F L.b (runesT t1 (l.take k)) wr)) (fun i _ => n - (intOf i).toNat)
    case atStart => exact ⟨0, Nat.zero_le _, by simp, H7⟩
    case round =>
      obtain ⟨k, hk, rfl, hr⟩ := hrel
      clear H7
      by_cases lt : k < n
      · obtain ⟨g, c4, e4, y⟩ := CE.out k wr lt hr.out
        simp only [Value.slice.injEq] at e4
        obtain ⟨rfl, _, rfl⟩ := e4
        have lk : k < l.length := by rw [← HN.out]; exact lt
        obtain ⟨f1, o1⟩ := RF.out k
        have RU := Lib.hid (t_rune hr.out f1 o1 (l.getD k 0))
        have EN : Hid (runesT t1 (l.take (k + 1)) = runeT (runesT t1 (l.take k)) (l.getD k 0)) := Lib.hid (by
          rw [runes_take t1 l k lk, List.getD_eq_getElem?_getD, List.getElem?_eq_getElem lk]; rfl)
        generalize l.getD k 0 = x at *
        have q0 : (0 : Int) ≤ (k : Int) := by omega
        have q5 : (k : Int) < (n : Int) := by omega
        have tn : (k : Int).toNat = k := by omega
        have wk : IntKind.i64.wrap ((k : Int) + 1) = (k : Int) + 1 := IntWalk.i64_in _ (by omega)
        clear hr CE f1 o1 RF
        go_wp2_with fail
        refine RU.out.mono ?_; rintro e w2 ⟨⟨v, rfl⟩, h2⟩
        rw [← EN.out] at h2
        have H2 := Lib.hid h2
        clear h2 RU
        go_wp2_with fail
        go_roundw
        case rel => exact ⟨k + 1, by omega, by go_num, H2⟩
        case measure => simp [intOf]; omega
      · have ek : k = n := by omega
        subst ek
        have q5 : ¬ (k : Int) < (k : Int) := by omega
        clear CE RF
        go_wp2_with fail
        (try simp only [Exit.inBlock, Exit.then])
        refine HQ.out _ _ rfl (UP.out _ _ (UP7.out _ _ ?_))
        rw [TG.out]
        have := hr.out
        rw [HN.out, List.take_length] at this
        exact this
end
end Go.Proofs.YtkllilehdpdbdaaGreatDoor

/- A terminal's act: what needs cells, by a table of methods. -/
namespace Go.Proofs.YtkllilehdpdbdaaGreatDoor
open Go Go.RowKit Go.Sort
set_option linter.unusedVariables false
set_option linter.unusedSimpArgs false
def fnV (k : Nat) : Value := .func (.func k) #[] #[]
def fnV0 : Value := .nilFunc
def actP : List (Nat × Value) := [(65, fnV 128), (66, fnV 129), (67, fnV 130), (68, fnV 131), (69, fnV 132), (70, fnV 133), (71, fnV 134), (72, fnV 135), (73, fnV 136), (74, fnV 137), (75, fnV 138), (76, fnV 139), (77, fnV 140), (80, fnV 141), (83, fnV 142), (84, fnV 143), (88, fnV 144), (90, fnV 145), (64, fnV 146), (96, fnV 134), (97, fnV 130), (100, fnV 147), (101, fnV 129), (102, fnV 135), (114, fnV 148), (117, fnV 149), (126, fnV0)]
def actT0 : TypeId := 182
def actTab : Array Value := #[fnV0, fnV0, fnV0, fnV0, fnV0, fnV0, fnV0, fnV0, fnV0, fnV0, fnV0, fnV0, fnV0, fnV0, fnV0, fnV0, fnV0, fnV0, fnV0, fnV0, fnV0, fnV0, fnV0, fnV0, fnV0, fnV0, fnV0, fnV0, fnV0, fnV0, fnV0, fnV0, fnV0, fnV0, fnV0, fnV0, fnV0, fnV0, fnV0, fnV0, fnV0, fnV0, fnV0, fnV0, fnV0, fnV0, fnV0, fnV0, fnV0, fnV0, fnV0, fnV0, fnV0, fnV0, fnV0, fnV0, fnV0, fnV0, fnV0, fnV0, fnV0, fnV0, fnV0, fnV0, fnV 146, fnV 128, fnV 129, fnV 130, fnV 131, fnV 132, fnV 133, fnV 134, fnV 135, fnV 136, fnV 137, fnV 138, fnV 139, fnV 140, fnV0, fnV0, fnV 141, fnV0, fnV0, fnV 142, fnV 143, fnV0, fnV0, fnV0, fnV 144, fnV0, fnV 145, fnV0, fnV0, fnV0, fnV0, fnV0, fnV 134, fnV 130, fnV0, fnV0, fnV 147, fnV 129, fnV 135, fnV0, fnV0, fnV0, fnV0, fnV0, fnV0, fnV0, fnV0, fnV0, fnV0, fnV0, fnV 148, fnV0, fnV0, fnV 149, fnV0, fnV0, fnV0, fnV0, fnV0, fnV0, fnV0, fnV0, fnV0]
theorem actTab_some : Tryz.prog.built actT0 actP = some actTab := by kernel_rfl
theorem actTab_size : actTab.size = 127 := by kernel_rfl
theorem actTab_one : actTab.all (·.oneCell') = true := by kernel_rfl
section
variable {w0 : World} {F0 : List Nat} {tb : Nat} {t t' : Trm} {W W' : World}
theorem act_at (H : St w0 F0 tb t W) (f : Fine t) (p : Some' t) (b : Nat) (hb : 64 ≤ b ∧ b ≤ 126) (n : Nums) (A : Option Addr) (c : Nat) (N : NumAt W n A c) (hn1 : 0 < n.list.length) :
    (actTab[b]? = some .nilFunc ∧ actT? t (b : Int) n = none) ∨ ∃ k t', actTab[b]? = some (.func (.func k) #[] #[]) ∧ actT? t (b : Int) n = some t' ∧ Calls Tryz.prog k #[.pointer (some ⟨tb, 0, none⟩), numV n A c] W (Vd w0 F0 tb t') ∧ ∀ args w, (callFunc k args).run Tryz.prog w = .ok (.enter k args) w := by
  obtain ⟨h1, h2⟩ := hb
  have key : b = 64 ∨ b = 65 ∨ b = 66 ∨ b = 67 ∨ b = 68 ∨ b = 69 ∨ b = 70 ∨ b = 71 ∨ b = 72 ∨ b = 73 ∨ b = 74 ∨ b = 75 ∨ b = 76 ∨ b = 77 ∨ b = 78 ∨ b = 79 ∨ b = 80 ∨ b = 81 ∨ b = 82 ∨ b = 83 ∨ b = 84 ∨ b = 85 ∨ b = 86 ∨ b = 87 ∨ b = 88 ∨ b = 89 ∨ b = 90 ∨ b = 91 ∨ b = 92 ∨ b = 93 ∨ b = 94 ∨ b = 95 ∨ b = 96 ∨ b = 97 ∨ b = 98 ∨ b = 99 ∨ b = 100 ∨ b = 101 ∨ b = 102 ∨ b = 103 ∨ b = 104 ∨ b = 105 ∨ b = 106 ∨ b = 107 ∨ b = 108 ∨ b = 109 ∨ b = 110 ∨ b = 111 ∨ b = 112 ∨ b = 113 ∨ b = 114 ∨ b = 115 ∨ b = 116 ∨ b = 117 ∨ b = 118 ∨ b = 119 ∨ b = 120 ∨ b = 121 ∨ b = 122 ∨ b = 123 ∨ b = 124 ∨ b = 125 ∨ b = 126 := by omega
  clear h1 h2
  rcases key with rfl | rfl | rfl | rfl | rfl | rfl | rfl | rfl | rfl | rfl | rfl | rfl | rfl | rfl | rfl | rfl | rfl | rfl | rfl | rfl | rfl | rfl | rfl | rfl | rfl | rfl | rfl | rfl | rfl | rfl | rfl | rfl | rfl | rfl | rfl | rfl | rfl | rfl | rfl | rfl | rfl | rfl | rfl | rfl | rfl | rfl | rfl | rfl | rfl | rfl | rfl | rfl | rfl | rfl | rfl | rfl | rfl | rfl | rfl | rfl | rfl | rfl | rfl
  · exact Or.inr ⟨_, _, (by kernel_rfl : actTab[64]? = some (fnV 146)), rfl, t_insertCells H f p n A c N, fun a w => by kernel_rfl⟩
  · exact Or.inr ⟨_, _, (by kernel_rfl : actTab[65]? = some (fnV 128)), rfl, t_up H n A c N (by have := f.y0; have := f.cy; have := f.h1; omega), fun a w => by kernel_rfl⟩
  · exact Or.inr ⟨_, _, (by kernel_rfl : actTab[66]? = some (fnV 129)), rfl, t_down H n A c N (by have := f.y0; have := f.cy; have := f.h1; omega) (by have := f.h0; have := f.h1; omega), fun a w => by kernel_rfl⟩
  · exact Or.inr ⟨_, _, (by kernel_rfl : actTab[67]? = some (fnV 130)), rfl, t_right H n A c N (by have := f.x0; have := f.cx; have := f.w1; omega) (by have := f.w0; have := f.w1; omega), fun a w => by kernel_rfl⟩
  · exact Or.inr ⟨_, _, (by kernel_rfl : actTab[68]? = some (fnV 131)), rfl, t_left H n A c N (by have := f.x0; have := f.cx; have := f.w1; omega), fun a w => by kernel_rfl⟩
  · exact Or.inr ⟨_, _, (by kernel_rfl : actTab[69]? = some (fnV 132)), rfl, t_downLine H n A c N (by have := f.y0; have := f.cy; have := f.h1; omega) (by have := f.h0; have := f.h1; omega), fun a w => by kernel_rfl⟩
  · exact Or.inr ⟨_, _, (by kernel_rfl : actTab[70]? = some (fnV 133)), rfl, t_upLine H n A c N (by have := f.y0; have := f.cy; have := f.h1; omega), fun a w => by kernel_rfl⟩
  · exact Or.inr ⟨_, _, (by kernel_rfl : actTab[71]? = some (fnV 134)), rfl, t_column H n A c N (by have := f.w0; have := f.w1; omega), fun a w => by kernel_rfl⟩
  · exact Or.inr ⟨_, _, (by kernel_rfl : actTab[72]? = some (fnV 135)), rfl, t_place H n A c N (by have := f.w0; have := f.w1; omega) (by have := f.h0; have := f.h1; omega) (by have := f.p0; have := f.p1; have := f.p2; have := f.h1; have := p.2; omega), fun a w => by kernel_rfl⟩
  · exact Or.inr ⟨_, _, (by kernel_rfl : actTab[73]? = some (fnV 136)), rfl, t_tabs H f p n A c N, fun a w => by kernel_rfl⟩
  · exact Or.inr ⟨_, _, (by kernel_rfl : actTab[74]? = some (fnV 137)), rfl, t_eraseScreen H f p n A c N hn1, fun a w => by kernel_rfl⟩
  · exact Or.inr ⟨_, _, (by kernel_rfl : actTab[75]? = some (fnV 138)), rfl, t_eraseLine H f p n A c N hn1, fun a w => by kernel_rfl⟩
  · exact Or.inr ⟨_, _, (by kernel_rfl : actTab[76]? = some (fnV 139)), rfl, t_insertLines H f p n A c N, fun a w => by kernel_rfl⟩
  · exact Or.inr ⟨_, _, (by kernel_rfl : actTab[77]? = some (fnV 140)), rfl, t_deleteLines H f p n A c N, fun a w => by kernel_rfl⟩
  · exact Or.inl ⟨by kernel_rfl, rfl⟩
  · exact Or.inl ⟨by kernel_rfl, rfl⟩
  · exact Or.inr ⟨_, _, (by kernel_rfl : actTab[80]? = some (fnV 141)), rfl, t_deleteCells H f p n A c N, fun a w => by kernel_rfl⟩
  · exact Or.inl ⟨by kernel_rfl, rfl⟩
  · exact Or.inl ⟨by kernel_rfl, rfl⟩
  · exact Or.inr ⟨_, _, (by kernel_rfl : actTab[83]? = some (fnV 142)), rfl, t_scrollUp H f p n A c N, fun a w => by kernel_rfl⟩
  · exact Or.inr ⟨_, _, (by kernel_rfl : actTab[84]? = some (fnV 143)), rfl, t_scrollDown H f p n A c N, fun a w => by kernel_rfl⟩
  · exact Or.inl ⟨by kernel_rfl, rfl⟩
  · exact Or.inl ⟨by kernel_rfl, rfl⟩
  · exact Or.inl ⟨by kernel_rfl, rfl⟩
  · exact Or.inr ⟨_, _, (by kernel_rfl : actTab[88]? = some (fnV 144)), rfl, t_eraseCells H f p n A c N, fun a w => by kernel_rfl⟩
  · exact Or.inl ⟨by kernel_rfl, rfl⟩
  · exact Or.inr ⟨_, _, (by kernel_rfl : actTab[90]? = some (fnV 145)), rfl, t_backTabs H f p n A c N, fun a w => by kernel_rfl⟩
  · exact Or.inl ⟨by kernel_rfl, rfl⟩
  · exact Or.inl ⟨by kernel_rfl, rfl⟩
  · exact Or.inl ⟨by kernel_rfl, rfl⟩
  · exact Or.inl ⟨by kernel_rfl, rfl⟩
  · exact Or.inl ⟨by kernel_rfl, rfl⟩
  · exact Or.inr ⟨_, _, (by kernel_rfl : actTab[96]? = some (fnV 134)), rfl, t_column H n A c N (by have := f.w0; have := f.w1; omega), fun a w => by kernel_rfl⟩
  · exact Or.inr ⟨_, _, (by kernel_rfl : actTab[97]? = some (fnV 130)), rfl, t_right H n A c N (by have := f.x0; have := f.cx; have := f.w1; omega) (by have := f.w0; have := f.w1; omega), fun a w => by kernel_rfl⟩
  · exact Or.inl ⟨by kernel_rfl, rfl⟩
  · exact Or.inl ⟨by kernel_rfl, rfl⟩
  · exact Or.inr ⟨_, _, (by kernel_rfl : actTab[100]? = some (fnV 147)), rfl, t_row H n A c N (by have := f.h0; have := f.h1; omega) (by have := f.p0; have := f.p1; have := f.p2; have := f.h1; have := p.2; omega), fun a w => by kernel_rfl⟩
  · exact Or.inr ⟨_, _, (by kernel_rfl : actTab[101]? = some (fnV 129)), rfl, t_down H n A c N (by have := f.y0; have := f.cy; have := f.h1; omega) (by have := f.h0; have := f.h1; omega), fun a w => by kernel_rfl⟩
  · exact Or.inr ⟨_, _, (by kernel_rfl : actTab[102]? = some (fnV 135)), rfl, t_place H n A c N (by have := f.w0; have := f.w1; omega) (by have := f.h0; have := f.h1; omega) (by have := f.p0; have := f.p1; have := f.p2; have := f.h1; have := p.2; omega), fun a w => by kernel_rfl⟩
  · exact Or.inl ⟨by kernel_rfl, rfl⟩
  · exact Or.inl ⟨by kernel_rfl, rfl⟩
  · exact Or.inl ⟨by kernel_rfl, rfl⟩
  · exact Or.inl ⟨by kernel_rfl, rfl⟩
  · exact Or.inl ⟨by kernel_rfl, rfl⟩
  · exact Or.inl ⟨by kernel_rfl, rfl⟩
  · exact Or.inl ⟨by kernel_rfl, rfl⟩
  · exact Or.inl ⟨by kernel_rfl, rfl⟩
  · exact Or.inl ⟨by kernel_rfl, rfl⟩
  · exact Or.inl ⟨by kernel_rfl, rfl⟩
  · exact Or.inl ⟨by kernel_rfl, rfl⟩
  · exact Or.inr ⟨_, _, (by kernel_rfl : actTab[114]? = some (fnV 148)), rfl, t_margins H f n A c N, fun a w => by kernel_rfl⟩
  · exact Or.inl ⟨by kernel_rfl, rfl⟩
  · exact Or.inl ⟨by kernel_rfl, rfl⟩
  · exact Or.inr ⟨_, _, (by kernel_rfl : actTab[117]? = some (fnV 149)), rfl, t_back H f n A c, fun a w => by kernel_rfl⟩
  · exact Or.inl ⟨by kernel_rfl, rfl⟩
  · exact Or.inl ⟨by kernel_rfl, rfl⟩
  · exact Or.inl ⟨by kernel_rfl, rfl⟩
  · exact Or.inl ⟨by kernel_rfl, rfl⟩
  · exact Or.inl ⟨by kernel_rfl, rfl⟩
  · exact Or.inl ⟨by kernel_rfl, rfl⟩
  · exact Or.inl ⟨by kernel_rfl, rfl⟩
  · exact Or.inl ⟨by kernel_rfl, rfl⟩
  · exact Or.inl ⟨by kernel_rfl, rfl⟩
end
end Go.Proofs.YtkllilehdpdbdaaGreatDoor

/- A terminal's act: the walk. -/
namespace Go.Proofs.YtkllilehdpdbdaaGreatDoor
open Go Go.RowKit Go.Sort
set_option linter.unusedVariables false
set_option linter.unusedSimpArgs false
section
theorem wpList_build_tab {ops : Array Oper} {rest : List Oper} {o : Oper} {a : Act} {w : World} {Q : Exit → Act → World → Prop} (hg : o.guard = none) (parts : Array (Nat × Operand)) (ho : o.op = .build actT0 parts)
    (he : (parts.map fun (i, x) => (i, a.eval x)).toList = actP) (h : wpList Tryz.prog ops Q rest (a.put o.dst (.agg actTab)) w) : wpList Tryz.prog ops Q (o :: rest) a w := by
  refine wpList_build hg actT0 parts ho (by rw [he, actTab_some]; rfl) ?_
  rw [he, actTab_some]
  exact h
variable {w0 : World} {F0 : List Nat} {tb : Nat} {t t' : Trm} {W W' : World}
theorem zeroTab_size : Tryz.zeroCells182.size = 127 := by kernel_rfl
theorem fn_some (k : Nat) (w : World) : (binOp .neq 180 (.func (.func k) #[] #[]) .nilFunc).run Tryz.prog w = .ok (.bool true) w := by kernel_rfl
theorem fn_none (w : World) : (binOp .neq 180 .nilFunc .nilFunc).run Tryz.prog w = .ok (.bool false) w := by kernel_rfl
set_option maxHeartbeats 8000000 in
set_option maxRecDepth 100000 in
theorem t_act (h : St w0 F0 tb t W) (f : Fine t) (p : Some' t) (b : Nat) (hb : 64 ≤ b ∧ b ≤ 126) (n : Nums) (A : Option Addr) (c : Nat) (N : NumAt W n A c) (hn1 : 0 < n.list.length) : Calls Tryz.prog 98 #[.pointer (some ⟨tb, 0, none⟩), .int .u8 (b : Int), numV n A c] W (Vd w0 F0 tb (actT t (b : Int) n)) := by
  obtain ⟨W1, hW1⟩ : ∃ W1, W1 = W.alloc (.cells [.int .u8 n.prefix_, .slice A n.list.length c, .bool n.void].toArray 151) := ⟨_, rfl⟩
  have BQ1 : Below W.heap.size W W1 := by rw [hW1]; exact (Below.refl _ W).alloc (Nat.le_refl _) _
  have KQ1 : Bk W1 W.heap.size [.int .u8 n.prefix_, .slice A n.list.length c, .bool n.void] 151 := by rw [hW1]; exact Bk.new W _ _
  obtain ⟨V0, hV0⟩ : ∃ V0, V0 = W1.alloc (.cells Tryz.zeroCells182 182) := ⟨_, rfl⟩
  have hg0 : V0.heap[W1.heap.size]? = some (.cells Tryz.zeroCells182 182 (0, 0)) := by rw [hV0]; exact World.alloc_heap_new W1 _
  obtain ⟨V, hV⟩ : ∃ V, V = V0.setRow W1.heap.size actTab := ⟨_, rfl⟩
  have lt1 : W.heap.size < W1.heap.size := by rw [hW1]; simp
  have BV0 : Below W.heap.size W V0 := by rw [hV0]; exact BQ1.alloc BQ1.size _
  have BV : Below W.heap.size W V := by
    rw [hV]
    exact ⟨BV0.os, BV0.tape, BV0.output, by simpa using BV0.size, fun k hk => (setRow_other V0 W1.heap.size k actTab (by omega)).trans (BV0.block k hk)⟩
  have KV : Bk V W.heap.size [.int .u8 n.prefix_, .slice A n.list.length c, .bool n.void] 151 := by
    refine KQ1.of_eq ?_
    rw [hV, setRow_other V0 W1.heap.size W.heap.size actTab (by omega), hV0]
    exact ((Below.refl _ W1).alloc (Nat.le_refl _) _).block _ lt1
  have TV : ∀ j, V.cell? ⟨W1.heap.size, j, none⟩ = actTab[j]? := fun j => by
    rw [hV]; exact cell_setRow_same V0 W1.heap.size j Tryz.zeroCells182 actTab 182 (0, 0) hg0
  have H := Lib.hid (h.below BV)
  have NV := Lib.hid (N.below BV)
  have hcp : n.list.length ≤ c := N.cap
  have hcl := N.len
  unfold numV
  go_enter Tryz.func98, Tryz.ntmps98
  go_upto_region 1 with fail
  rw [← hW1]
  clear hW1 BQ1 KQ1 BV0 lt1 h N
  have HG0 := Lib.hid hg0
  clear hg0
  go_upto_region 2 with (first | (refine wpList_build_tab rfl _ rfl (by kernel_rfl) ?_) | (refine wpList_store_row rfl _ _ _ rfl _ actTab rfl rfl _ _ (hV0 ▸ HG0.out) (by kernel_rfl) (by rw [actTab_size]; exact zeroTab_size) actTab_one ?_))
  rw [← hV0, ← hV]
  clear hV0 hV HG0
  have sx : 0 ≤ t.cur.x ∧ t.cur.x < t.w := ⟨f.x0, by have := f.cx; have := p.1; omega⟩
  have sl : (t.stops.length : Int) = t.w := f.sl
  by_cases e103 : b = 103
  · subst e103
    obtain ⟨ad, rfl, hx⟩ := num_head NV.out hn1
    have q0 := hx V (Below.refl _ _)
    have AE : Hid (actT t (103 : Int) n = if n.list.getD 0 0 = 0 then { t with stops := t.stops.set t.cur.x.toNat false } else if n.list.getD 0 0 = 3 then { t with stops := List.replicate t.stops.length false } else t) := Lib.hid rfl
    rw [show ((103 : Nat) : Int) = 103 from rfl] at *
    have j1 := KV.c 1 _ rfl
    have hn2 : (0 : Int) < (n.list.length : Int) := by omega
    clear hx NV KV TV BV hn1
    generalize n.list.getD 0 0 = k at *
    generalize n.list.length = m at *
    by_cases k0 : k = 0
    · have AE2 : Hid (actT t 103 n = { t with stops := t.stops.set t.cur.x.toNat false }) := Lib.hid (by rw [AE.out, if_pos k0])
      subst k0
      clear AE
      obtain ⟨L, g, cap, B, ec, hc, ho, st⟩ := H.out.rowS (by omega)
      have k23 := B.c 23 _ rfl
      rw [ec] at k23
      have k3 := B.c 3 _ rfl
      have S2 := Lib.hid (st t.cur.x.toNat false)
      have y : V.cell? ⟨g, t.cur.x.toNat, none⟩ = some (.bool (t.stops.getD t.cur.x.toNat false)) := by rw [ho.cellAt _ (by omega)]; exact bools_at (by omega)
      have yf : V.frozen? ⟨g, t.cur.x.toNat, none⟩ = false := ho.frozenAt _
      obtain ⟨sx0, sx1⟩ := sx
      have sx2 : t.cur.x < (t.stops.length : Int) := by omega
      clear B ec ho st H f p
      generalize t.stops.length = M at *
      generalize t.cur.x = x at *
      generalize t.stops.getD x.toNat false = yy at *
      go_upto_region 10 with fail
      refine wp_region_draw_tail 10 (by kernel_rfl) (by kernel_rfl) ?_
      simp only [List.take_succ_cons, List.take_zero, List.drop_succ_cons, List.drop_zero]
      repeat (quiet_step (fail))
      refine wpQuiet_nil ?_
      intro _ hw'
      obtain ⟨nq, hw''⟩ := hw'
      subst hw''
      go_wp2_with fail
      go_end0
      exact ⟨⟨_, rfl⟩, by rw [AE2.out]; exact S2.out.below (below_drewN (Below.refl _ _) nq)⟩
    · by_cases k3 : k = 3
      · have AE2 : Hid (actT t 103 n = { t with stops := List.replicate t.stops.length false }) := Lib.hid (by rw [AE.out, if_neg k0, if_pos k3])
        subst k3
        clear AE
        obtain ⟨L, g, cap, B, ec, RUN, st⟩ := H.out.clearS (by omega)
        have k23 := B.c 23 _ rfl
        rw [ec] at k23
        have S2 := Lib.hid st
        clear B ec st H f p sx sl
        generalize t.stops.length = M at *
        go_wp2_with fail
        go_end0
        exact ⟨⟨_, rfl⟩, by rw [AE2.out]; exact S2.out⟩
      · have AE2 : Hid (actT t 103 n = t) := Lib.hid (by rw [AE.out, if_neg k0, if_neg k3])
        have d0 : decide (k = 0) = false := decide_eq_false k0
        have b0 : (k == 0) = false := by simpa using k0
        have b3 : (k == 3) = false := by simpa using k3
        have d3 : decide (k = 3) = false := decide_eq_false k3
        clear AE sx sl f p k0 k3
        go_wp2_with fail
        go_end0
        exact ⟨⟨_, rfl⟩, by rw [AE2.out]; exact H.out⟩
  by_cases e115 : b = 115
  · subst e115
    have AE : Hid (actT t (115 : Int) n = savT t) := Lib.hid rfl
    rw [show ((115 : Nat) : Int) = 115 from rfl] at *
    clear NV KV TV BV hn1 sx sl f p hb e103
    obtain ⟨L, B5⟩ := H.out.bk
    have k3 := B5.c 3 _ rfl
    have k4 := B5.c 4 _ rfl
    have k5 := B5.c 5 _ rfl
    have k6 := B5.c 6 _ rfl
    have k7 := B5.c 7 _ rfl
    have k8 := B5.c 8 _ rfl
    have k10 := B5.c 10 _ rfl
    have k11 := B5.c 11 _ rfl
    have k12 := B5.c 12 _ rfl
    have k13 := B5.c 13 _ rfl
    have k14 := B5.c 14 _ rfl
    have k15 := B5.c 15 _ rfl
    have kf10 := B5.f 10
    have kf11 := B5.f 11
    have kf12 := B5.f 12
    have kf13 := B5.f 13
    have kf14 := B5.f 14
    have kf15 := B5.f 15
    have S2 := Lib.hid H.out.setSav
    clear B5 H
    go_wp2_with fail
    go_end0
    exact ⟨⟨_, rfl⟩, by rw [AE.out]; exact S2.out⟩
  have n103 : ¬ (b : Int) = 103 := by omega
  have n115 : ¬ (b : Int) = 115 := by omega
  have FS := fn_some
  have FN := fn_none
  have AE : Hid (actT t (b : Int) n = match actT? t (b : Int) n with | some t' => { t' with pend := false } | none => t) := Lib.hid (by unfold actT; rw [if_neg n103, if_neg n115]; cases actT? t (b : Int) n <;> rfl)
  have i0 : (0 : Int) ≤ (b : Int) := by omega
  have i1 : (b : Int) < 127 := by omega
  have tv := TV b
  rcases act_at H.out f p b hb n A c NV.out hn1 with ⟨h1, h2⟩ | ⟨k, t', h1, h2, h3, h4⟩
  · have AE2 : Hid (actT t (b : Int) n = t) := Lib.hid (by rw [AE.out, h2])
    rw [h1] at tv
    clear NV KV TV BV hn1 sx sl f p hb AE h1 h2
    go_wp2_with fail
    go_end0
    exact ⟨⟨_, rfl⟩, by rw [AE2.out]; exact H.out⟩
  · have AE2 : Hid (actT t (b : Int) n = { t' with pend := false }) := Lib.hid (by rw [AE.out, h2])
    rw [h1] at tv
    have C3 := Lib.hid h3
    have j0 := KV.c 0 _ rfl
    have j1 := KV.c 1 _ rfl
    have j2 := KV.c 2 _ rfl
    clear NV KV TV BV hn1 sx sl f p hb AE h1 h2 h3
    unfold numV at C3
    go_wp2_with fail
    refine C3.out.mono ?_; rintro e w1 ⟨⟨_, rfl⟩, S1⟩
    have S2 := Lib.hid (S1.setPend false)
    obtain ⟨L1, B1⟩ := S1.bk
    have k16 := B1.c 16 _ rfl
    have kf16 := B1.f 16
    clear B1 S1 C3
    go_wp2_with fail
    go_end0
    exact ⟨⟨_, rfl⟩, by rw [AE2.out]; exact S2.out⟩
end
end Go.Proofs.YtkllilehdpdbdaaGreatDoor

/- A terminal behind an ESC: plain; memory of ESC c. -/
namespace Go.Proofs.YtkllilehdpdbdaaGreatDoor
open Go Go.RowKit Go.Sort
set_option linter.unusedVariables false
set_option linter.unusedSimpArgs false
section
variable {w0 : World} {F0 : List Nat} {tb : Nat} {t t' : Trm} {W W' V V0 X : World} {L : Lay}
/-- the first half of what a byte behind an ESC does; the second -/
def swT (t1 : Trm) (b : Int) : Trm := if b = 91 then { t1 with state := 3, held := zB } else if b = 93 then { t1 with state := 4, held := zB } else if b = 80 ∨ b = 88 ∨ b = 94 ∨ b = 95 then { t1 with state := 5 }
    else if b = 99 then allW { newV t1.w t1.h with reps := t1.reps } else if b = 55 then { t1 with sav := t1.cur } else if b = 56 then restoreT t1 else t1
def endT (t : Trm) (b : Int) : Trm := if t.w * t.h = 0 then t
  else if b = 69 then { (indexT (setX t 0)) with pend := false }
  else if b = 68 then { (indexT t) with pend := false }
  else if b = 77 then { (reverseT t) with pend := false }
  else if b = 72 then { t with stops := t.stops.set t.cur.x.toNat true }
  else t
theorem esc_eq (t : Trm) (b : Int) : escapedT t b = endT (swT { t with state := 0 } b) b := rfl
theorem fine_sw {t : Trm} (f : Fine t) (b : Int) : Fine (swT t b) := by
  unfold swT
  repeat' split
  all_goals first
  | exact f.still rfl rfl rfl
  | exact (fine_allW (fine_new t.w t.h f.w0 f.w1 f.h0 f.h1 f.ar)).still rfl rfl rfl
  | exact fine_restore f
  | exact f
/-- a new terminal of an older world is one of a world ahead of it -/
theorem St.older {nb : Nat} {n : Trm} (h : St X [] nb n W) (E : EnvV V0) (hb : Below V0.heap.size V0 X) : St V0 [] nb n W := by
  obtain ⟨L, e, T, hf⟩ := h.lay
  exact ⟨E, (Mv.below (F := []) hb).trans h.mv (by simp), by simp, L, e, T, fun b m => (hf b m).elim (fun z => by simp at z) (fun z => Or.inr (Nat.le_trans hb.size z))⟩
/-- answers of another terminal are taken over -/
theorem TrmAt.setR (T : TrmAt W L t) {v : Value} {y : ByteArray} (K : KeptAt W v y) (dh : ∀ g ∈ ob v, g ∉ ob L.h) (dk : ∀ g ∈ ob v, g ∉ ob L.k) : TrmAt (W.setCell ⟨L.b, 26, none⟩ v) { L with r := v } { t with reps := y } := by
  have far2 : ∀ g, g ≠ L.b → (W.setCell ⟨L.b, 26, none⟩ v).heap[g]? = W.heap[g]? := fun g hg => heap_setCell_other W ⟨L.b, 26, none⟩ g v hg
  refine ⟨T.own.set 26 v, ?_, ?_, ?_, ?_, ?_, K.keep (fun g m => by obtain ⟨cur, k⟩ := K.kind g m; exact far2 g (T.own.ne k (by decide))), T.h.keep (fun g m => by obtain ⟨cur, k⟩ := T.h.kind g m; exact far2 g (T.own.ne k (by decide))), T.k.keep (fun g m => by obtain ⟨cur, k⟩ := T.k.kind g m; exact far2 g (T.own.ne k (by decide))), T.ca, T.sw, dh, dk, T.hk⟩
  · obtain ⟨_, k⟩ := T.utf.kind; exact T.utf.keep (far2 _ (T.own.ne k (by decide)))
  · exact T.c.keep (fun g m => by obtain ⟨cur, k⟩ := T.c.kind g m; exact far2 g (T.own.ne k (by decide)))
  · exact T.a.keep (fun g m => by obtain ⟨cur, k⟩ := T.a.kind g m; exact far2 g (T.own.ne k (by decide)))
  · exact T.s.keep (fun g m => by obtain ⟨cur, k⟩ := T.s.kind g m; exact far2 g (T.own.ne k (by decide)))
  · exact T.w.keep (fun g m => by obtain ⟨cur, k⟩ := T.w.kind g m; exact far2 g (T.own.ne k (by decide)))
/-- a terminal beside a new one that takes over its answers -/
theorem St.fresh {nb : Nat} {n : Trm} (H0 : St w0 F0 tb t V0) (hb : Below V0.heap.size V0 V) (hn : St V0 [] nb n V) : ∃ L0 L1 A c, Bk V tb (trmV t L0) 91 ∧ L0.r = .slice A t.reps.size c ∧ Bk V nb (trmV n L1) 91 ∧
    St w0 F0 tb t (V.setCell ⟨nb, 26, none⟩ (.slice A t.reps.size c)) ∧ ∃ F, St (V.setCell ⟨nb, 26, none⟩ (.slice A t.reps.size c)) F nb { n with reps := t.reps } (V.setCell ⟨nb, 26, none⟩ (.slice A t.reps.size c)) ∧ (∀ b ∈ F, b ∈ F0 ∨ w0.heap.size ≤ b) ∧ tb ∉ F := by
  obtain ⟨L0, e0, T0, hf0⟩ := H0.lay
  have T0V := T0.keep (fun g m => hb.block g (T0.lt g m))
  obtain ⟨L1, e1, T1, h1, _⟩ := hn.from
  obtain ⟨L1', e1', T1', hf1⟩ := hn.lay
  have eL : ob L1.h = ob L1'.h ∧ ob L1.k = ob L1'.k ∧ ∀ g ∈ L1.fp, g = nb ∨ g ∈ L1'.fp := by
    have q := T1.own
    have q' := T1'.own
    rw [e1] at q
    rw [e1'] at q'
    unfold Bk at q q'
    rw [q] at q'
    injection q' with q'
    injection q' with q'
    have ee : trmV n L1 = trmV n L1' := by simpa using q'
    simp only [trmV, List.cons.injEq, Value.pointer.injEq, Option.some.injEq, Addr.mk.injEq] at ee
    obtain ⟨-, -, x2, -, -, -, -, -, -, x9, -, -, -, -, -, -, -, -, -, -, -, -, -, x23, -, -, x26, x27, -, x29, x30, x31, -⟩ := ee
    refine ⟨by rw [x29], by rw [x31], fun g m => Or.inr ?_⟩
    refine Lay.mem.2 ?_
    rcases Lay.mem.1 m with z | z | z | z | z | z | z | z | z
    · left; rw [z, e1, e1']
    · right; left; rw [z]; exact x30.1
    · rw [x2] at z; simp [z]
    · rw [x9] at z; simp [z]
    · rw [x23] at z; simp [z]
    · rw [x27] at z; simp [z]
    · rw [x26] at z; simp [z]
    · rw [x29] at z; simp [z]
    · rw [x31] at z; simp [z]
  have new : ∀ g ∈ L1'.fp, V0.heap.size ≤ g := fun g m => (hf1 g m).elim (fun z => by simp at z) id
  have nbn : V0.heap.size ≤ nb := by rw [← e1']; exact new _ (Lay.mem.2 (by simp))
  have K0 := T0V.r
  obtain ⟨A, c, er, _⟩ := T0V.r
  have old : ∀ g ∈ ob L0.r, g < V0.heap.size := T0.r.lt
  have T2 := T1.setR (v := .slice A t.reps.size c) (y := t.reps) (er ▸ K0) (fun g m m2 => by
    rw [← er] at m
    rw [eL.1] at m2
    have := old g m
    have := new g (Lay.mem.2 (by simp [m2]))
    omega) (fun g m m2 => by
    rw [← er] at m
    rw [eL.2.1] at m2
    have := old g m
    have := new g (Lay.mem.2 (by simp [m2]))
    omega)
  have far : ∀ g, g ≠ nb → (V.setCell ⟨nb, 26, none⟩ (.slice A t.reps.size c)).heap[g]? = V.heap[g]? := fun g hg => heap_setCell_other V ⟨nb, 26, none⟩ g _ hg
  have mvV : Mv F0 w0 V := H0.mv.trans (Mv.below (F := []) hb) (by simp)
  have ge : w0.heap.size ≤ V0.heap.size := H0.mv.size
  have mv2 : Mv F0 w0 (V.setCell ⟨nb, 26, none⟩ (.slice A t.reps.size c)) := mvV.trans (Mv.set (F := [nb]) V (by simp)) (fun b m => Or.inr (by rw [List.mem_singleton.1 m]; omega))
  have S0 : St w0 F0 tb t (V.setCell ⟨nb, 26, none⟩ (.slice A t.reps.size c)) := ⟨H0.g0, mv2, H0.ng, L0, e0, T0V.keep (fun g m => far g (by have := T0.lt g m; omega)), hf0⟩
  have ngo : ∀ g ∈ ob L0.r, NotV g := fun g m => by
    obtain ⟨LL, _, TT, q, _⟩ := H0.from
    rcases hf0 g (Lay.mem.2 (by simp [m])) with z | z
    · exact H0.ng g z
    · have a := block_lt_of_cell (H0.g0.st.on 0 (by decide))
      have c := block_lt_of_cell (H0.g0.st.off 0 (by decide))
      have d := H0.g0.pg
      simp only at a c
      exact ⟨by omega, by omega, by omega⟩
  have fpc : ∀ g ∈ ({ L1 with r := .slice A t.reps.size c } : Lay).fp, g ∈ L1.fp ∨ g ∈ ob L0.r := fun g m => by
    rcases Lay.mem.1 m with z | z | z | z | z | z | z | z | z
    · exact Or.inl (Lay.mem.2 (Or.inl z))
    · exact Or.inl (Lay.mem.2 (Or.inr (Or.inl z)))
    · exact Or.inl (Lay.mem.2 (by simp only at z; simp [z]))
    · exact Or.inl (Lay.mem.2 (by simp only at z; simp [z]))
    · exact Or.inl (Lay.mem.2 (by simp only at z; simp [z]))
    · exact Or.inl (Lay.mem.2 (by simp only at z; simp [z]))
    · exact Or.inr (by rw [er]; exact z)
    · exact Or.inl (Lay.mem.2 (by simp only at z; simp [z]))
    · exact Or.inl (Lay.mem.2 (by simp only at z; simp [z]))
  subst e1
  have S1 := St.start (S0.env) T2 (fun g m => (fpc g m).elim (h1.ng g) (ngo g))
  refine ⟨L0, L1, A, c, e0 ▸ T0V.own, er, T1.own, S0, _, S1, fun b m => ?_, fun m => ?_⟩
  · rcases fpc b m with z | z
    · rcases eL.2.2 b z with z | z
      · right; omega
      · right; have := new b z; omega
    · exact hf0 b (Lay.mem.2 (by simp [z]))
  · have lt := T0.own.lt
    rw [e0] at lt
    rcases fpc tb m with z | z
    · rcases eL.2.2 tb z with z | z
      · omega
      · have := new tb z; omega
    · obtain ⟨cur, q⟩ := T0.r.kind tb z
      exact T0.own.ne q (by decide) e0.symm
/-- a terminal takes over another one's parts -/
theorem St.become2 {n : Trm} {nb : Nat} {F : List Nat} (h : St w0 F0 tb t V) (hn : St V F nb n X) (hF : ∀ b ∈ F, b ∈ F0 ∨ w0.heap.size ≤ b) (htb : tb ∉ F) : ∃ L L0, L.b = nb ∧ Bk X tb (trmV t L0) 91 ∧ Bk X nb (trmV n L) 91 ∧ ((∃ A n c, L.c = .slice A n c) ∧ (∃ A n c, L.a = .slice A n c) ∧ (∃ A n c, L.s = .slice A n c) ∧ (∃ A n c, L.w = .slice A n c) ∧ (∃ A n c, L.r = .slice A n c) ∧ (∃ A n c, L.h = .slice A n c) ∧ (∃ A n c, L.k = .slice A n c)) ∧ St w0 F0 tb n (X.setRow tb (trmV n L).toArray) := by
  obtain ⟨L0, rfl, T0, hf0⟩ := h.lay
  obtain ⟨L, rfl, T, hf⟩ := hn.lay
  have hB : Mv F0 w0 X := h.mv.trans hn.mv hF
  have T1 : Bk X L0.b (trmV t L0) 91 := T0.own.of_eq (hn.mv.blk _ T0.own.lt htb)
  have lt := T0.own.lt
  have nt : ∀ g ∈ L.fp, g ≠ L0.b := fun g m e => by
    subst e
    rcases hf _ m with z | z
    · exact htb z
    · omega
  have far : ∀ g ∈ L.fp, (X.setRow L0.b (trmV n L).toArray).heap[g]? = X.heap[g]? := fun g m => setRow_other X L0.b g _ (nt g m)
  have o : Bk (X.setRow L0.b (trmV n L).toArray) L0.b (trmV n { L with b := L0.b }) 91 := setRow_heap X L0.b _ _ _ _ T1
  have sl : (∃ A n c, L.c = .slice A n c) ∧ (∃ A n c, L.a = .slice A n c) ∧ (∃ A n c, L.s = .slice A n c) ∧ (∃ A n c, L.w = .slice A n c) ∧ (∃ A n c, L.r = .slice A n c) ∧ (∃ A n c, L.h = .slice A n c) ∧ (∃ A n c, L.k = .slice A n c) := by
    obtain ⟨A1, c1, e1⟩ := T.c.asSlice
    obtain ⟨A2, c2, e2⟩ := T.a.asSlice
    obtain ⟨A3, c3, e3⟩ := T.s.asSlice
    obtain ⟨A4, c4, e4⟩ := T.w.asSlice
    obtain ⟨A5, c5, e5, _⟩ := T.r
    obtain ⟨A6, c6, e6, _⟩ := T.h
    obtain ⟨A7, c7, e7, _⟩ := T.k
    exact ⟨⟨_, _, _, e1⟩, ⟨_, _, _, e2⟩, ⟨_, _, _, e3⟩, ⟨_, _, _, e4⟩, ⟨_, _, _, e5⟩, ⟨_, _, _, e6⟩, ⟨_, _, _, e7⟩⟩
  have up : ∀ b ∈ L.fp, b ∈ F0 ∨ w0.heap.size ≤ b := fun b m => (hf b m).elim (hF b) (fun z => Or.inr (Nat.le_trans h.mv.size z))
  refine ⟨L, L0, rfl, T1, T.own, sl, h.g0, hB.trans (show Mv [L0.b] X (X.setRow L0.b (trmV n L).toArray) from ⟨rfl, rfl, rfl, by simp, fun k _ hk => setRow_other X L0.b k _ (by simpa using hk)⟩) (by intro b hb; rw [List.mem_singleton.1 hb]; exact hf0 _ (Lay.mem.2 (by simp))), h.ng, { L with b := L0.b }, rfl, ?_, fun b hb => ?_⟩
  · have T2 := T.keep far
    exact ⟨o, T2.utf, T2.c, T2.a, T2.s, T2.w, T2.r, T2.h, T2.k, T.ca, T.sw, T.rh, T.rk, T.hk⟩
  · rcases Lay.mem.1 hb with z | z
    · rw [z]; exact hf0 _ (Lay.mem.2 (by simp))
    · exact up b (Lay.mem.2 (Or.inr z))
end
end Go.Proofs.YtkllilehdpdbdaaGreatDoor
