/- Do two texts join: the program's side: Joins. -/
import Derived.Test.YtkllilehdpdbdaaDoorDfM
import Derived.Test.YtkllilehdpdbdaaDoorDfF
import Derived.Test.YtkllilehdpdbdaaDoorDgUc
import Derived.Lib.AppendStr
import Derived.RegionTactic
import Derived.ChangeAlike
namespace Go.Proofs.YtkllilehdpdbdaaDoor
open Go.RowKit Go.Sort
set_option linter.unusedVariables false
set_option linter.unusedSimpArgs false

theorem cls_nth : ∀ (L : List (ByteArray × Int)) (i : Nat) (h : i < L.length), (cls L)[i * 2]? = some (.string (L[i]).1) ∧ (cls L)[i * 2 + 1]? = some (.int .i64 (L[i]).2)
  | [], i, h => by cases h
  | p :: l, 0, _ => ⟨rfl, rfl⟩
  | p :: l, i + 1, h => by
    have ih := cls_nth l i (by simpa using h)
    have e : cls (p :: l) = .string p.1 :: .int .i64 p.2 :: cls l := rfl
    rw [e, show (i + 1) * 2 = i * 2 + 1 + 1 by omega]
    simpa using ih
theorem cls_at {w : World} {B : Nat} {A : Option Addr} {L : List (ByteArray × Int)} (h : Sees w B A (cls L)) (i : Nat) (hi : i < L.length) : ∃ ad, A = some ad ∧ ad.block < B ∧ w.cell? (ad.add (i * 2)) = some (.string (L[i]).1) ∧ w.cell? ⟨(ad.add (i * 2)).block, (ad.add (i * 2)).off + 1, none⟩ = some (.int .i64 (L[i]).2) := by
  obtain ⟨ad, e, hb, hc⟩ := h (fun e => by have := cls_len L; rw [e] at this; simp at this; omega)
  have c := cls_nth L i hi
  refine ⟨ad, e, hb, hc _ _ c.1, ?_⟩
  rw [add_ltt (ad.add (i * 2)) 1 (by decide), add_plus]
  exact hc _ _ c.2
theorem own2_sees {w : World} {base : Nat} {T : TypeId} {v : Value} {n : Nat} {xs : List Value} (h : w.ownsRow base T 2 v n xs) : ∃ A c, v = .slice A n c ∧ n ≤ c ∧ Sees w w.heap.size A xs := by
  rcases own2_form h with ⟨rfl, rfl⟩ | ⟨g, c, rfl, h1, h2, h3, h4, h5⟩
  · have := h.1
    simp at this
    subst this
    exact ⟨_, _, rfl, Nat.le_refl _, Sees.nil _ _ _⟩
  · refine ⟨_, _, rfl, h3, fun _ => ⟨_, rfl, h2, fun j u hj => ?_⟩⟩
    have e : ((⟨g, 0, none⟩ : Addr).add j) = ⟨g, j, none⟩ := by
      unfold Addr.add
      split
      · rename_i z; rw [z]
      · simp
    rw [e]
    exact h5 j u hj
theorem str_ne {s t : ByteArray} (h : ¬ s = t) : ¬ s.toList = t.toList := fun e => h (by
  rw [ByteArray.toList_eq, ByteArray.toList_eq] at e
  exact ByteArray.ext (Array.toList_inj.1 e))

set_option maxHeartbeats 16000000 in
set_option maxRecDepth 100000 in
theorem d_Joins (a b : ByteArray) (h : a.size + b.size ≤ 1000000000000) (w : World) : Calls Tryd.prog 32 #[.string a, .string b] w fun e w' => e = .returned (.bool (joinsB a b)) ∧ Below w.heap.size w w' := by
  have S1 := Lib.hid (d_Split (a ++ b) (by rw [ByteArray.size_append]; exact h))
  have S2 := Lib.hid (d_Split a (by omega))
  have S3 := Lib.hid (d_Split b (by omega))
  have L1 := splitB_len (a ++ b)
  have L2 := splitB_len a
  have L3 := splitB_len b
  rw [ByteArray.size_append] at L1
  have JB : Hid (joinsB a b = decide (splitB (a ++ b) ≠ splitB a ++ splitB b)) := Lib.hid rfl
  generalize joinsB a b = r at *
  have nov : (9223372036854775807 < a.size + b.size) = False := eq_false (by omega)
  generalize splitB (a ++ b) = L at *
  generalize splitB a = M at *
  generalize splitB b = K at *
  go_enter Tryd.func32, Tryd.ntmps32
  go_wp2_with fail
  refine (S1.out _).mono ?_; rintro e w1 ⟨v1, rfl, o1, b1⟩
  obtain ⟨A1, c1, rfl, n1, s1⟩ := own2_sees o1
  have W1 := Lib.hid b1
  have Q1 := Lib.hid s1
  clear o1 b1 s1
  go_wp2_with fail
  refine (S2.out _).mono ?_; rintro e w2 ⟨v2, rfl, o2, b2⟩
  obtain ⟨A2, c2, rfl, n2, s2⟩ := own2_sees o2
  have W2 := Lib.hid (below_call W1.out W1.out.size b2)
  have Q1 := Lib.hid ((Q1.out.below b2 (Nat.le_refl _)).more b2.size)
  have Q2 := Lib.hid s2
  clear o2 b2 s2 W1
  go_wp2_with fail
  refine (S3.out _).mono ?_; rintro e w3 ⟨v3, rfl, o3, b3⟩
  obtain ⟨A3, c3, rfl, n3, s3⟩ := own2_sees o3
  have W3 := Lib.hid (below_call W2.out W2.out.size b3)
  have Q1 := Lib.hid ((Q1.out.below b3 (Nat.le_refl _)).more b3.size)
  have Q2 := Lib.hid ((Q2.out.below b3 (Nat.le_refl _)).more b3.size)
  have Q3 := Lib.hid s3
  clear o3 b3 s3 W2
  obtain ⟨n, hn⟩ : ∃ n, n = L.length := ⟨_, rfl⟩
  obtain ⟨m, hm⟩ : ∃ m, m = M.length := ⟨_, rfl⟩
  obtain ⟨p, hp⟩ : ∃ p, p = K.length := ⟨_, rfl⟩
  rw [← hn] at L1 n1 ⊢
  rw [← hm] at L2 n2 ⊢
  rw [← hp] at L3 n3 ⊢
  have HN := Lib.hid hn
  have HM := Lib.hid hm
  have HP := Lib.hid hp
  clear hn hm hp nov
  by_cases e : n = m + p
  · subst e
    have e1 : ((m : Int) + (p : Int) != (m : Int) + (p : Int)) = false := by simp
    go_wp2_with fail
    go_loopw [28] (fun i wr => ∃ k : Nat, k ≤ m + p ∧ i = .int .i64 k ∧ Hid (∀ j, j < k → L[j]? = (M ++ K)[j]?) ∧ Hid (Below w3.heap.size w3 wr)) (fun i _ => m + p - (intOf i).toNat)
    case atStart => exact ⟨0, Nat.zero_le _, rfl, Lib.hid (fun j h => by omega), Lib.hid (Below.refl _ _)⟩
    case round =>
      obtain ⟨k, hk, rfl, hr, hb⟩ := hrel
      by_cases lt : k < m + p
      · have kl : k < L.length := by rw [← HN.out]; exact lt
        obtain ⟨ad1, rfl, a1, x1, y1⟩ := cls_at Q1.out k kl
        have x1 := (hb.out.cell (p := ad1.add (k * 2)) (by rw [add_blk]; exact a1)).trans x1
        have y1 := (hb.out.cell (p := ⟨(ad1.add (k * 2)).block, (ad1.add (k * 2)).off + 1, none⟩) (by simp only [add_blk]; exact a1)).trans y1
        have E1 : Hid (L[k]? = some (L[k].1, L[k].2)) := Lib.hid (by rw [List.getElem?_eq_getElem kl])
        generalize (L[k]).1 = t1 at *
        generalize (L[k]).2 = u1 at *
        have lt2 : (k : Int) < (m : Int) + (p : Int) := by omega
        go_upto_region 7 with fail
        have K2 : C2 (wr.alloc (.cells #[.string t1, .int .i64 u1] 79)) wr.heap.size (.string t1) (.int .i64 u1) := by constructor <;> simp [go_sem]
        have HX := Lib.hid (hb.out.alloc hb.out.size (.cells #[.string t1, .int .i64 u1] 79))
        generalize wr.alloc (.cells #[.string t1, .int .i64 u1] 79) = X at *
        have k00 := fun d os => ((K2).regrown d os).c0
        have k01 := fun d os => ((K2).regrown d os).c1
        clear x1 y1 hb K2
        by_cases km : k < m
        · have nm : ¬ m ≤ k := by omega
          obtain ⟨ad2, rfl, a2, x2, y2⟩ := cls_at Q2.out k (show k < M.length by rw [← HM.out]; exact km)
          have x2 := fun d os => ((HX.out.trans ((below_regrown X d os).mono HX.out.size)).cell (p := ad2.add (k * 2)) (by rw [add_blk]; exact a2)).trans x2
          have y2 := fun d os => ((HX.out.trans ((below_regrown X d os).mono HX.out.size)).cell (p := ⟨(ad2.add (k * 2)).block, (ad2.add (k * 2)).off + 1, none⟩) (by simp only [add_blk]; exact a2)).trans y2
          have E2 : Hid ((M ++ K)[k]? = some (M[k].1, M[k].2)) := Lib.hid (by rw [List.getElem?_append_left (by rw [← HM.out]; exact km), List.getElem?_eq_getElem (by rw [← HM.out]; exact km)])
          generalize (M[k]).1 = t2 at *
          generalize (M[k]).2 = u2 at *
          by_cases te : t1 = t2
          · subst te
            by_cases ue : u1 = u2
            · subst ue
              have NX : Hid (∀ j, j < k + 1 → L[j]? = (M ++ K)[j]?) := Lib.hid (fun j hj => by
                by_cases jk : j = k
                · rw [jk, E1.out, E2.out]
                · exact hr.out j (by omega))
              refine wp_region_spec 28 [] [] (by kernel_rfl) (by kernel_rfl) (by kernel_rfl) (by intro t ht; cases ht) ?_
              simp only [List.take_succ_cons, List.take_zero, List.drop_succ_cons, List.drop_zero]
              repeat (refine wpS_step (by rfl) (fun K hK => ?_); go_simp; first | (refine hK _ ?_; clear hK K) | (apply Exists.intro; refine ⟨fun _ => ?_, hK _ ?_⟩; (fail); clear hK K))
              refine wpS_nil ?_
              intro W5 vs5 hl hv
              have hb5 := later_below.1 hl
              have B5 := Lib.hid (HX.out.trans (hb5.mono HX.out.size))
              clear hl hv hb5 x2 y2 k00 k01
              simp only [fillA]
              go_wp2_with fail
              go_roundw
              case rel => exact ⟨k + 1, by omega, by go_num, NX, B5⟩
              case measure => simp [intOf]; omega
            · have NE : Hid (r = true) := Lib.hid (by
                rw [JB.out]
                refine decide_eq_true (fun h => ue ?_)
                have := E1.out
                rw [h, E2.out] at this
                exact (Prod.mk.inj (Option.some.inj this)).2.symm)
              refine wp_region_spec 28 [] [] (by kernel_rfl) (by kernel_rfl) (by kernel_rfl) (by intro t ht; cases ht) ?_
              simp only [List.take_succ_cons, List.take_zero, List.drop_succ_cons, List.drop_zero]
              repeat (refine wpS_step (by rfl) (fun K hK => ?_); go_simp; first | (refine hK _ ?_; clear hK K) | (apply Exists.intro; refine ⟨fun _ => ?_, hK _ ?_⟩; (fail); clear hK K))
              refine wpS_nil ?_
              intro W5 vs5 hl hv
              have hb5 := later_below.1 hl
              have B5 := Lib.hid (HX.out.trans (hb5.mono HX.out.size))
              clear hl hv hb5 x2 y2 k00 k01
              simp only [fillA]
              go_wp2_with fail
              go_ret
              exact ⟨ret_bool (by rw [NE.out]), W3.out.trans (B5.out.mono W3.out.size)⟩
          · have NE : Hid (r = true) := Lib.hid (by
              rw [JB.out]
              refine decide_eq_true (fun h => te ?_)
              have := E1.out
              rw [h, E2.out] at this
              exact (Prod.mk.inj (Option.some.inj this)).1.symm)
            have tl := str_ne te
            refine wp_region_spec 28 [] [] (by kernel_rfl) (by kernel_rfl) (by kernel_rfl) (by intro t ht; cases ht) ?_
            simp only [List.take_succ_cons, List.take_zero, List.drop_succ_cons, List.drop_zero]
            repeat (refine wpS_step (by rfl) (fun K hK => ?_); go_simp; first | (refine hK _ ?_; clear hK K) | (apply Exists.intro; refine ⟨fun _ => ?_, hK _ ?_⟩; (fail); clear hK K))
            refine wpS_nil ?_
            intro W5 vs5 hl hv
            have hb5 := later_below.1 hl
            have B5 := Lib.hid (HX.out.trans (hb5.mono HX.out.size))
            clear hl hv hb5 x2 y2 k00 k01
            simp only [fillA]
            go_wp2_with fail
            go_ret
            exact ⟨ret_bool (by rw [NE.out]), W3.out.trans (B5.out.mono W3.out.size)⟩
        · obtain ⟨q, hq⟩ : ∃ q : Nat, (k : Int) - (m : Int) = (q : Int) := ⟨k - m, by omega⟩
          have qp : q < p := by omega
          have mk : m ≤ k := by omega
          have wq : IntKind.i64.wrap (q : Int) = (q : Int) := by rw [IntKind.wrap_i64]; omega
          have qk : k - M.length = q := by rw [← HM.out]; omega
          obtain ⟨ad2, rfl, a2, x2, y2⟩ := cls_at Q3.out q (show q < K.length by rw [← HP.out]; exact qp)
          have x2 := fun d os => ((HX.out.trans ((below_regrown X d os).mono HX.out.size)).cell (p := ad2.add (q * 2)) (by rw [add_blk]; exact a2)).trans x2
          have y2 := fun d os => ((HX.out.trans ((below_regrown X d os).mono HX.out.size)).cell (p := ⟨(ad2.add (q * 2)).block, (ad2.add (q * 2)).off + 1, none⟩) (by simp only [add_blk]; exact a2)).trans y2
          have E2 : Hid ((M ++ K)[k]? = some (K[q].1, K[q].2)) := Lib.hid (by rw [List.getElem?_append_right (by rw [← HM.out]; exact mk), qk, List.getElem?_eq_getElem (by rw [← HP.out]; exact qp)])
          generalize (K[q]).1 = t2 at *
          generalize (K[q]).2 = u2 at *
          by_cases te : t1 = t2
          · subst te
            by_cases ue : u1 = u2
            · subst ue
              have NX : Hid (∀ j, j < k + 1 → L[j]? = (M ++ K)[j]?) := Lib.hid (fun j hj => by
                by_cases jk : j = k
                · rw [jk, E1.out, E2.out]
                · exact hr.out j (by omega))
              refine wp_region_spec 28 [] [] (by kernel_rfl) (by kernel_rfl) (by kernel_rfl) (by intro t ht; cases ht) ?_
              simp only [List.take_succ_cons, List.take_zero, List.drop_succ_cons, List.drop_zero]
              repeat (refine wpS_step (by rfl) (fun K hK => ?_); go_simp; first | (refine hK _ ?_; clear hK K) | (apply Exists.intro; refine ⟨fun _ => ?_, hK _ ?_⟩; (fail); clear hK K))
              refine wpS_nil ?_
              intro W5 vs5 hl hv
              have hb5 := later_below.1 hl
              have B5 := Lib.hid (HX.out.trans (hb5.mono HX.out.size))
              clear hl hv hb5 x2 y2 k00 k01
              simp only [fillA]
              go_wp2_with fail
              go_roundw
              case rel => exact ⟨k + 1, by omega, by go_num, NX, B5⟩
              case measure => simp [intOf]; omega
            · have NE : Hid (r = true) := Lib.hid (by
                rw [JB.out]
                refine decide_eq_true (fun h => ue ?_)
                have := E1.out
                rw [h, E2.out] at this
                exact (Prod.mk.inj (Option.some.inj this)).2.symm)
              refine wp_region_spec 28 [] [] (by kernel_rfl) (by kernel_rfl) (by kernel_rfl) (by intro t ht; cases ht) ?_
              simp only [List.take_succ_cons, List.take_zero, List.drop_succ_cons, List.drop_zero]
              repeat (refine wpS_step (by rfl) (fun K hK => ?_); go_simp; first | (refine hK _ ?_; clear hK K) | (apply Exists.intro; refine ⟨fun _ => ?_, hK _ ?_⟩; (fail); clear hK K))
              refine wpS_nil ?_
              intro W5 vs5 hl hv
              have hb5 := later_below.1 hl
              have B5 := Lib.hid (HX.out.trans (hb5.mono HX.out.size))
              clear hl hv hb5 x2 y2 k00 k01
              simp only [fillA]
              go_wp2_with fail
              go_ret
              exact ⟨ret_bool (by rw [NE.out]), W3.out.trans (B5.out.mono W3.out.size)⟩
          · have NE : Hid (r = true) := Lib.hid (by
              rw [JB.out]
              refine decide_eq_true (fun h => te ?_)
              have := E1.out
              rw [h, E2.out] at this
              exact (Prod.mk.inj (Option.some.inj this)).1.symm)
            have tl := str_ne te
            refine wp_region_spec 28 [] [] (by kernel_rfl) (by kernel_rfl) (by kernel_rfl) (by intro t ht; cases ht) ?_
            simp only [List.take_succ_cons, List.take_zero, List.drop_succ_cons, List.drop_zero]
            repeat (refine wpS_step (by rfl) (fun K hK => ?_); go_simp; first | (refine hK _ ?_; clear hK K) | (apply Exists.intro; refine ⟨fun _ => ?_, hK _ ?_⟩; (fail); clear hK K))
            refine wpS_nil ?_
            intro W5 vs5 hl hv
            have hb5 := later_below.1 hl
            have B5 := Lib.hid (HX.out.trans (hb5.mono HX.out.size))
            clear hl hv hb5 x2 y2 k00 k01
            simp only [fillA]
            go_wp2_with fail
            go_ret
            exact ⟨ret_bool (by rw [NE.out]), W3.out.trans (B5.out.mono W3.out.size)⟩
      · have e : k = m + p := by omega
        have nk : ¬ (k : Int) < (m : Int) + (p : Int) := by omega
        have R : Hid (r = false) := Lib.hid (by
          rw [JB.out]
          refine decide_eq_false (fun h => h ?_)
          refine List.ext_getElem? fun j => ?_
          by_cases jk : j < k
          · exact hr.out j jk
          · rw [List.getElem?_eq_none (by rw [← HN.out]; omega), List.getElem?_eq_none (by rw [List.length_append, ← HM.out, ← HP.out]; omega)])
        have BB := Lib.hid (W3.out.trans (hb.out.mono W3.out.size))
        clear hr hb
        go_wp2_with fail
        go_ret
        exact ⟨ret_bool (by rw [R.out]), BB.out⟩
  · have e1 : ((n : Int) != (m : Int) + (p : Int)) = true := by simp; omega
    have R : Hid (r = true) := Lib.hid (by
      rw [JB.out]
      refine decide_eq_true (fun h => e ?_)
      rw [HN.out, h, List.length_append, ← HM.out, ← HP.out])
    clear e
    go_wp2_with fail
    go_ret
    exact ⟨ret_bool (by rw [R.out]), W3.out⟩
end Go.Proofs.YtkllilehdpdbdaaDoor

/- A frame's bytes, the program's side: what Frame's closures work on; sequence, move. -/
namespace Go.Proofs.YtkllilehdpdbdaaDoor
open Go Go.RowKit Go.Sort
set_option linter.unusedVariables false
set_option linter.unusedSimpArgs false

/-- a block known whole -/
def Own1 (W : World) (b : Nat) (vs : List Value) (T : TypeId) : Prop := W.heap[b]? = some (.cells vs.toArray T (0, 0))
theorem Own1.blk {W : World} {b : Nat} {vs : List Value} {T : TypeId} (h : Own1 W b vs T) : Blk W b vs := by
  unfold Own1 at h
  refine ⟨fun i v hv => ?_, fun i v hv => ?_⟩
  · simp [World.cell?, h, hv]
  · simp [World.frozen?, h]
theorem Own1.lt {W : World} {b : Nat} {vs : List Value} {T : TypeId} (h : Own1 W b vs T) : b < W.heap.size := (Array.getElem?_eq_some_iff.1 h).1
theorem Own1.set {W : World} {b : Nat} {vs : List Value} {T : TypeId} (h : Own1 W b vs T) (i : Nat) (y : Value) : Own1 (W.setCell ⟨b, i, none⟩ y) b (vs.set i y) T := by
  have := heap_setCell_same W b i vs.toArray T y h
  unfold Own1
  rw [this]
  simp
theorem Own1.of_grown {W W' : World} {b : Nat} {vs : List Value} {T : TypeId} {row : Option Nat} (h : Own1 W b vs T) (hg : W.grownBy W' row) (ne : some b ≠ row) : Own1 W' b vs T := (hg.block b h.lt ne).trans h
theorem Own1.below {W W' : World} {b : Nat} {vs : List Value} {T : TypeId} (h : Own1 W b vs T) (hb : Below W.heap.size W W') : Own1 W' b vs T := (hb.block b h.lt).trans h
theorem grown_of_below {W W' : World} (hb : Below W.heap.size W W') (row : Option Nat) : W.grownBy W' row := ⟨hb.os, hb.tape, hb.output, hb.size, fun k hk _ => hb.block k hk⟩
theorem grown_trans {A B C : World} {row : Option Nat} (h : A.grownBy B row) (k : B.grownBy C row) : A.grownBy C row :=
  ⟨k.os.trans h.os, k.tape.trans h.tape, k.output.trans h.output, Nat.le_trans h.size k.size, fun j hj ne => (k.block j (Nat.lt_of_lt_of_le hj h.size) ne).trans (h.block j hj ne)⟩

/-- blocks of cells stay -/
def KeepT (W W' : World) : Prop := ∀ (k : Nat) (arr : Array Value) (fl : Nat × Nat), W.heap[k]? = some (Obj.cells arr 51 fl) → W'.heap[k]? = W.heap[k]?
theorem KeepT.refl (W : World) : KeepT W W := fun _ _ _ _ => rfl
theorem KeepT.trans {A B C : World} (h : KeepT A B) (k : KeepT B C) : KeepT A C := fun j arr fl hj => (k j arr fl ((h j arr fl hj).trans hj)).trans (h j arr fl hj)
theorem KeepT.below {W W' : World} (hb : Below W.heap.size W W') : KeepT W W' := fun k arr fl hk => hb.block k (Array.getElem?_eq_some_iff.1 hk).1
theorem KeepT.grown {W W' : World} {row : Option Nat} (hg : W.grownBy W' row) (hr : ∀ b, row = some b → ∀ arr fl, W.heap[b]? ≠ some (.cells arr 51 fl)) : KeepT W W' := fun k arr fl hk =>
  hg.block k (Array.getElem?_eq_some_iff.1 hk).1 (fun e => hr k e.symm arr fl hk)
theorem KeepT.set {W : World} {b i : Nat} {vs : List Value} {T : TypeId} {y : Value} (h : Own1 W b vs T) (ne : T ≠ 51) : KeepT W (W.setCell ⟨b, i, none⟩ y) :=
  KeepT.grown (grown_set W ⟨b, i, none⟩ y) (fun b' e arr fl hk => by
    cases e
    unfold Own1 at h
    rw [h] at hk
    cases hk
    exact ne rfl)
theorem KeepT.sees {W W' : World} (h : KeepT W W') {g : Nat} {arr : Array Value} {fl : Nat × Nat} (hg : W.heap[g]? = some (.cells arr 51 fl)) {B : Nat} {xs : List Value} (S : Sees W B (some ⟨g, 0, none⟩) xs) : Sees W' B (some ⟨g, 0, none⟩) xs := fun hne => by
  obtain ⟨ad, e, hb, hc⟩ := S hne
  cases e
  refine ⟨_, rfl, hb, fun j u hj => ?_⟩
  have e : W'.cell? (({ block := g, off := 0 } : Addr).add j) = W.cell? (({ block := g, off := 0 } : Addr).add j) := World.cell?_of_block (by rw [add_blk]; exact h g arr fl hg)
  rw [e]
  exact hc j u hj

theorem strCells_app (a b : ByteArray) : Lib.strCells (a ++ b) = Lib.strCells a ++ Lib.strCells b := by
  unfold Lib.strCells
  rw [ByteArray.data_append, Array.toList_append, List.map_append]

/-- what stays the same while a frame is told: the world ahead of the bytes' box, the writer, its box, the screen's box, the writer's depth and last screen -/
structure Fix where
  w0 : World
  b : Nat
  p : Nat
  r : Nat
  d : Int
  LW : Int
  LH : Int
  LA : Option Addr
  Ln : Nat
  Lc : Nat
  LX : Int
  LY : Int
  Ls : Bool
  R : Scr
  RA : Option Addr
  Rc : Nat
/-- the bytes' box -/
def Fix.o (F : Fix) : Nat := F.w0.heap.size
def Fix.wri (F : Fix) (told : Bool) (t : Tel) (shn : Bool) : List Value := wriV F.d told F.LW F.LH F.LA F.Ln F.Lc F.LX F.LY F.Ls t shn
structure FixOk (F : Fix) : Prop where
  pb : F.p ≠ F.b
  rb : F.r ≠ F.b
  bo : F.b < F.w0.heap.size
  env : EnvD F.w0
  nb : F.b ≠ 1 ∧ F.b ≠ 0 ∧ F.b ≠ 2
  bp : Own1 F.w0 F.p [.pointer (some ⟨F.b, 0, none⟩)] 35
  br : Own1 F.w0 F.r [.int .i64 F.R.w, .int .i64 F.R.h, .slice F.RA F.R.cells.length F.Rc, .int .i64 F.R.x, .int .i64 F.R.y, .bool F.R.shown] 24
/-- the state between two calls of the closures -/
structure FrSt (F : Fix) (told : Bool) (t : Tel) (shn : Bool) (W : World) : Prop where
  ok : FixOk F
  bw : Own1 W F.b (F.wri told t shn) 60
  bs : Own1 W (F.o + 1) [.func (.func 25) #[] #[.pointer (some ⟨F.o, 0, none⟩), .pointer (some ⟨F.p, 0, none⟩)]] 61
  bm : Own1 W (F.o + 2) [.func (.func 26) #[] #[.pointer (some ⟨F.o + 1, 0, none⟩), .pointer (some ⟨F.p, 0, none⟩)]] 63
  bo : ∃ v, Boxed W F.o 26 v ∧ W.ownsRow (F.o + 3) 5 1 v t.out.size (Lib.strCells t.out)
  gr : F.w0.grownBy W (some F.b)
theorem FrSt.below {F : Fix} {told : Bool} {t : Tel} {shn : Bool} {W W' : World} (h : FrSt F told t shn W) (hb : Below W.heap.size W W') : FrSt F told t shn W' := by
  obtain ⟨v, h1, h2⟩ := h.bo
  exact ⟨h.ok, h.bw.below hb, h.bs.below hb, h.bm.below hb, ⟨v, (hb.block F.o h1.lt).trans h1, own_call h2 hb⟩, grown_trans h.gr (grown_of_below hb _)⟩
theorem FrSt.bp {F : Fix} {told : Bool} {t : Tel} {shn : Bool} {W : World} (h : FrSt F told t shn W) : Own1 W F.p [.pointer (some ⟨F.b, 0, none⟩)] 35 := h.ok.bp.of_grown h.gr (fun e => h.ok.pb (Option.some.inj e))
theorem FrSt.br {F : Fix} {told : Bool} {t : Tel} {shn : Bool} {W : World} (h : FrSt F told t shn W) : Own1 W F.r [.int .i64 F.R.w, .int .i64 F.R.h, .slice F.RA F.R.cells.length F.Rc, .int .i64 F.R.x, .int .i64 F.R.y, .bool F.R.shown] 24 := h.ok.br.of_grown h.gr (fun e => h.ok.rb (Option.some.inj e))
theorem FrSt.sz {F : Fix} {told : Bool} {t : Tel} {shn : Bool} {W : World} (h : FrSt F told t shn W) : F.o + 3 ≤ W.heap.size := h.bm.lt
theorem EnvD.grown {w w' : World} {b : Nat} (h : EnvD w) (hg : w.grownBy w' (some b)) (n1 : b ≠ 1) (n2 : b ≠ 0) (n3 : b ≠ 2) : EnvD w' where
  st := ⟨fun k hk => (World.cell?_of_block (hg.block _ (block_lt_of_cell (h.st.on k hk)) (fun e => n1 (Option.some.inj e).symm))).trans (h.st.on k hk), fun k hk => (World.cell?_of_block (hg.block _ (block_lt_of_cell (h.st.off k hk)) (fun e => n2 (Option.some.inj e).symm))).trans (h.st.off k hk)⟩
  tab := by
    have t := h.tab
    unfold Lib.TabIs World.var? at t ⊢
    have gn : Tryd.prog.globalNamed "internal/strconv.uint64pow10" = some 2 := by kernel_rfl
    simp only [gn, Option.bind_some] at t ⊢
    rw [hg.block _ h.pg (fun e => n3 (Option.some.inj e).symm)]
    exact t
  pg := Nat.lt_of_lt_of_le h.pg hg.size
theorem FrSt.env {F : Fix} {told : Bool} {t : Tel} {shn : Bool} {W : World} (h : FrSt F told t shn W) : EnvD W := h.ok.env.grown h.gr h.ok.nb.1 h.ok.nb.2.1 h.ok.nb.2.2
/-- the writer's cells are set -/
theorem FrSt.setW {F : Fix} {told told' : Bool} {t t' : Tel} {shn shn' : Bool} {W : World} (h : FrSt F told t shn W) (i : Nat) (y : Value) (e : (F.wri told t shn).set i y = F.wri told' t' shn') (eo : t'.out = t.out) : FrSt F told' t' shn' (W.setCell ⟨F.b, i, none⟩ y) ∧ KeepT W (W.setCell ⟨F.b, i, none⟩ y) := by
  have g := grown_set W ⟨F.b, i, none⟩ y
  have bo := h.ok.bo
  have s := h.sz
  obtain ⟨v, h1, h2⟩ := h.bo
  refine ⟨⟨h.ok, by rw [← e]; exact h.bw.set i y, h.bs.of_grown g (fun q => ?_), h.bm.of_grown g (fun q => ?_), ⟨v, h1.kept g (fun q => ?_), ?_⟩, grown_trans h.gr g⟩, KeepT.set h.bw (by decide)⟩
  · have := Option.some.inj q; simp only [Fix.o] at this; omega
  · have := Option.some.inj q; simp only [Fix.o] at this; omega
  · have := Option.some.inj q; simp only [Fix.o] at this; omega
  · rw [eo]
    refine h2.kept g ?_
    rcases h2.2 with ⟨rfl, _⟩ | ⟨g', cap, cur, rfl, hb, _⟩
    · exact Or.inl rfl
    · refine Or.inr (fun q => ?_)
      have := Option.some.inj q
      simp only [Fix.o] at *
      omega
/-- bytes are added to the box's row -/
theorem FrSt.added {F : Fix} {told : Bool} {t : Tel} {shn : Bool} {W w1 : World} {v v' : Value} {s : ByteArray} (h : FrSt F told t shn W) (hv : Boxed W F.o 26 v) (hr : W.ownsRow (F.o + 3) 5 1 v t.out.size (Lib.strCells t.out))
    (hown : w1.ownsRow (F.o + 3) 5 1 v' (t.out.size + s.size) (Lib.strCells t.out ++ Lib.strCells s)) (hg : W.grownBy w1 v.ownBlock) :
    Boxed w1 F.o 26 v ∧ FrSt F told ⟨t.place, t.x, t.y, t.st, t.text, t.out ++ s⟩ shn (w1.setCell ⟨F.o, 0, none⟩ v') ∧ KeepT W (w1.setCell ⟨F.o, 0, none⟩ v') := by
  have g := grown_set w1 ⟨F.o, 0, none⟩ v'
  have bo := h.ok.bo
  have hsz := h.sz
  have vb : ∀ k, v.ownBlock = some k → F.o + 3 ≤ k := fun k e => (hr.lt k e).1
  have nb : ∀ k, k < F.o + 3 → some k ≠ v.ownBlock := fun k hk e => by have := vb k e.symm; omega
  have hv1 := hv.kept hg (nb F.o (by omega))
  have so : F.o = F.w0.heap.size := rfl
  have step : ∀ k, k ≠ F.o → k < F.o + 3 → k < W.heap.size → (w1.setCell ⟨F.o, 0, none⟩ v').heap[k]? = W.heap[k]? := fun k h1 h2 h3 =>
    (g.block k (Nat.lt_of_lt_of_le h3 hg.size) (fun q => h1 (Option.some.inj q))).trans (hg.block k h3 (nb k h2))
  refine ⟨hv1, ⟨h.ok, (step F.b (by omega) (by omega) h.bw.lt).trans h.bw, (step _ (by omega) (by omega) h.bs.lt).trans h.bs, (step _ (by omega) (by omega) h.bm.lt).trans h.bm, ⟨v', hv1.set v', ?_⟩, ?_⟩, ?_⟩
  · show (w1.setCell ⟨F.o, 0, none⟩ v').ownsRow (F.o + 3) 5 1 v' (t.out ++ s).size (Lib.strCells (t.out ++ s))
    rw [ByteArray.size_append, strCells_app]
    refine hown.kept g ?_
    rcases hown.2 with ⟨rfl, _⟩ | ⟨g', cap, cur, rfl, hb, _⟩
    · exact Or.inl rfl
    · refine Or.inr (fun q => ?_)
      have := Option.some.inj q
      simp only at this
      omega
  · refine ⟨g.os.trans (hg.os.trans h.gr.os), g.tape.trans (hg.tape.trans h.gr.tape), g.output.trans (hg.output.trans h.gr.output), Nat.le_trans h.gr.size (Nat.le_trans hg.size g.size), fun k hk ne => ?_⟩
    exact (step k (by omega) (by omega) (Nat.lt_of_lt_of_le hk h.gr.size)).trans (h.gr.block k hk ne)
  · refine KeepT.trans (KeepT.grown hg (fun k e arr fl hk => ?_)) (KeepT.grown g (fun k e arr fl hk => ?_))
    · rcases hr.2 with ⟨rfl, _⟩ | ⟨g', cap, cur, rfl, _, hgb, _⟩
      · cases e
      · cases e
        rw [hgb] at hk
        cases hk
    · cases e
      rw [show w1.heap[F.o]? = _ from hv1] at hk
      cases hk

set_option maxHeartbeats 8000000 in
set_option maxRecDepth 100000 in
theorem f_seq (F : Fix) (told : Bool) (t : Tel) (shn : Bool) (W : World) (h : FrSt F told t shn W) (s : ByteArray) (hs : t.out.size + s.size ≤ 100000000000000) :
    Calls Tryd.prog 25 #[.string s, .pointer (some ⟨F.o, 0, none⟩), .pointer (some ⟨F.p, 0, none⟩)] W fun e W' => (∃ v, e = .returned v) ∧ FrSt F told (seqT t s) shn W' ∧ KeepT W W' := by
  obtain ⟨i0, hi0, hz0, hz1, hz2⟩ := info_parts infoB
  obtain ⟨v, hv, hr⟩ := h.bo
  have cO := hv.cell
  have sz := h.sz
  have H := Lib.hid h
  clear h
  go_enter Tryd.func25, Tryd.ntmps25
  go_wp2_with (at_builtin; refine Lib.wpList_append_own_string _ rfl (.tmp 4) (.tmp 5) 26 9 rfl (F.o + 3) 5 i0 Tryd.underlying26 Tryd.underlying9 hi0 hz0 hz1 hz2 _ _ _ rfl hr s rfl (by unfold maxLen; omega) (by omega) sz ?_; intro v' w1 hown' hgrow _; obtain ⟨A, c, rfl⟩ := own_slice' hown'; obtain ⟨hv1, hf, hk⟩ := H.out.added hv hr hown' hgrow; have c1 := hv1.cell; have f1 := hv1.frozen; have pp := hf.bp.blk.c 0 _ rfl; have b15 := hf.bw.blk.c 15 _ rfl; have q15 := hf.bw.blk.f 15 _ rfl)
  go_end0
  obtain ⟨h1, h2⟩ := hf.setW (told' := told) (t' := seqT t s) (shn' := shn) 15 (.string zB) rfl rfl
  exact ⟨⟨_, rfl⟩, h1, hk.trans h2⟩

set_option maxHeartbeats 8000000 in
set_option maxRecDepth 100000 in
theorem f_move (F : Fix) (told : Bool) (t : Tel) (shn : Bool) (W : World) (h : FrSt F told t shn W) (x y : Int) (x0 : -10000000 ≤ x) (x1 : x ≤ 10000000) (y0 : -10000000 ≤ y) (y1 : y ≤ 10000000) (hs : t.out.size ≤ 90000000000000) :
    Calls Tryd.prog 26 #[.int .i64 x, .int .i64 y, .pointer (some ⟨F.o + 1, 0, none⟩), .pointer (some ⟨F.p, 0, none⟩)] W fun e W' => (∃ v, e = .returned v) ∧ FrSt F told (moveT t x y) shn W' ∧ KeepT W W' := by
  have IY : Hid (∀ d os, Calls Tryd.prog 27 #[.int .i64 (y + 1)] (grow (redrawn W d) os) fun e w' => e = .returned (.string (itB (y + 1))) ∧ Later (grow (redrawn W d) os) w') := Lib.hid (fun d os => calls_later (d_Itoa (y + 1) (by omega) (by omega) _ (h.env.of_below (below_regrown W d os) (Nat.le_refl _))))
  have IX : Hid (∀ d os, Calls Tryd.prog 27 #[.int .i64 (x + 1)] (grow (redrawn W d) os) fun e w' => e = .returned (.string (itB (x + 1))) ∧ Later (grow (redrawn W d) os) w') := Lib.hid (fun d os => calls_later (d_Itoa (x + 1) (by omega) (by omega) _ (h.env.of_below (below_regrown W d os) (Nat.le_refl _))))
  have sy := itB_size (y + 1) (by omega) (by omega)
  have sx := itB_size (x + 1) (by omega) (by omega)
  have MB : Hid (moveB x y = (((⟨#[27, 91]⟩ ++ itB (y + 1)) ++ ⟨#[59]⟩) ++ itB (x + 1)) ++ ⟨#[72]⟩) := Lib.hid rfl
  generalize itB (y + 1) = a at *
  generalize itB (x + 1) = b at *
  have n1 : (9223372036854775807 < 2 + a.size) = False := eq_false (by omega)
  have n2 : (9223372036854775807 < 2 + a.size + 1) = False := eq_false (by omega)
  have n3 : (9223372036854775807 < 2 + a.size + 1 + b.size) = False := eq_false (by omega)
  have n4 : (9223372036854775807 < 2 + a.size + 1 + b.size + 1) = False := eq_false (by omega)
  have MS : Hid ((moveB x y).size ≤ 100) := Lib.hid (by
    rw [MB.out, ByteArray.size_append, ByteArray.size_append, ByteArray.size_append, ByteArray.size_append]
    have : (⟨#[27, 91]⟩ : ByteArray).size = 2 := rfl
    have : (⟨#[59]⟩ : ByteArray).size = 1 := rfl
    have : (⟨#[72]⟩ : ByteArray).size = 1 := rfl
    omega)
  have wy : IntKind.i64.wrap (y + 1) = y + 1 := IntWalk.i64_in _ (by omega)
  have wx : IntKind.i64.wrap (x + 1) = x + 1 := IntWalk.i64_in _ (by omega)
  have g6 := fun d os => (h.bs.blk.regrown d os).c 0 _ rfl
  have H := Lib.hid h
  clear h
  go_enter Tryd.func26, Tryd.ntmps26
  go_wp2_with fail
  refine wp_region_spec 11 [] [] (by kernel_rfl) (by kernel_rfl) (by kernel_rfl) (by intro t ht; cases ht) ?_
  simp only [List.take_succ_cons, List.take_zero, List.drop_succ_cons, List.drop_zero]
  repeat (refine wpS_step (by rfl) (fun K hK => ?_); go_simp; first | (refine hK _ ?_; clear hK K) | (apply Exists.intro; refine ⟨fun _ => ?_, hK _ ?_⟩; (first | with_reducible exact IY.out _ _ | with_reducible exact IX.out _ _); clear hK K))

  refine wpS_nil ?_
  intro W5 vs5 hl hv
  have hb5 := later_below.1 hl
  have H5 := Lib.hid (H.out.below hb5)
  have K5 := Lib.hid (KeepT.below hb5)
  clear hl hv hb5 g6 n1 n2 n3 n4
  simp only [fillA]
  go_wp2_with fail
  rw [← MB.out]
  refine (f_seq F told t shn W5 H5.out (moveB x y) (by have := MS.out; omega)).mono ?_; rintro e W6 ⟨⟨v, rfl⟩, h6, k6⟩
  have H6 := Lib.hid h6
  have K6 := Lib.hid (K5.out.trans k6)
  clear h6 k6
  go_wp2_with fail
  have pc := H6.out.bp.blk.c 0 _ rfl
  have b9 := H6.out.bw.blk.c 9 _ rfl
  have q9 := H6.out.bw.blk.f 9 _ rfl
  have b10 := H6.out.bw.blk.c 10 _ rfl
  have q10 := H6.out.bw.blk.f 10 _ rfl
  have b8 := H6.out.bw.blk.c 8 _ rfl
  have q8 := H6.out.bw.blk.f 8 _ rfl
  have pb := H6.out.ok.pb
  have pb2 : F.b ≠ F.p := fun e => pb e.symm
  go_region
  go_wp2_with fail
  go_end0
  obtain ⟨a1, k1⟩ := H6.out.setW (told' := told) (t' := ⟨t.place, x, t.y, t.st, zB, t.out ++ moveB x y⟩) (shn' := shn) 9 (.int .i64 x) rfl rfl
  obtain ⟨a2, k2⟩ := a1.setW (told' := told) (t' := ⟨t.place, x, y, t.st, zB, t.out ++ moveB x y⟩) (shn' := shn) 10 (.int .i64 y) rfl rfl
  obtain ⟨a3, k3⟩ := a2.setW (told' := told) (t' := moveT t x y) (shn' := shn) 8 (.bool true) rfl rfl
  have dr : ∀ X : World, Below X.heap.size X X.drew := fun X => (Below.refl _ X).drew
  exact ⟨⟨_, rfl⟩, a3.below (dr _), (((K6.out.trans k1).trans k2).trans k3).trans (KeepT.below (dr _))⟩
end Go.Proofs.YtkllilehdpdbdaaDoor
