/- Do two texts join: the program's side (for a seat without diff). -/
import Derived.Test.YtkllilehdpdbdaaGreatDoorVyPb
import Derived.Test.YtkllilehdpdbdaaGreatDoorDfM
import Derived.LoopTactic
import Derived.Test.YtkllilehdpdbdaaGreatDoorStyS
import Derived.Lib.AppendStr
import Derived.RegionTactic
import Derived.ChangeAlike
namespace Go.Proofs.YtkllilehdpdbdaaGreatDoor
open Go.RowKit Go.Sort
set_option linter.unusedVariables false
set_option linter.unusedSimpArgs false

theorem cls_nth : ∀ (L : List (ByteArray × Int)) (i : Nat) (h : i < L.length), (cls L)[i * 2]? = some (.string (L[i]).1) ∧ (cls L)[i * 2 + 1]? = some (.int .i64 (L[i]).2)
  | [], i, h => by cases h
  | p :: l, 0, _ => ⟨rfl, rfl⟩
  | p :: l, i + 1, h => by
    have ih := cls_nth l i (by simpa using h)
    have e : cls (p :: l) = .string p.1 :: .int .i64 p.2 :: cls l := rfl
    rw [e, show (i + 1) * 2 = i * 2 + 1 + 1 by omega]
    simpa using ih
theorem cls_at {w : World} {B : Nat} {A : Option Addr} {L : List (ByteArray × Int)} (h : Sees w B A (cls L)) (i : Nat) (hi : i < L.length) : ∃ ad, A = some ad ∧ ad.block < B ∧ w.cell? (ad.add (i * 2)) = some (.string (L[i]).1) ∧ w.cell? ⟨(ad.add (i * 2)).block, (ad.add (i * 2)).off + 1, none⟩ = some (.int .i64 (L[i]).2) := by
  obtain ⟨ad, e, hb, hc⟩ := h (fun e => by have := cls_len L; rw [e] at this; simp at this; omega)
  have c := cls_nth L i hi
  refine ⟨ad, e, hb, hc _ _ c.1, ?_⟩
  rw [add_ltt (ad.add (i * 2)) 1 (by decide), add_plus]
  exact hc _ _ c.2
theorem own2_sees {w : World} {base : Nat} {T : TypeId} {v : Value} {n : Nat} {xs : List Value} (h : w.ownsRow base T 2 v n xs) : ∃ A c, v = .slice A n c ∧ n ≤ c ∧ Sees w w.heap.size A xs := by
  rcases own2_form h with ⟨rfl, rfl⟩ | ⟨g, c, rfl, h1, h2, h3, h4, h5⟩
  · have := h.1
    simp at this
    subst this
    exact ⟨_, _, rfl, Nat.le_refl _, Sees.nil _ _ _⟩
  · refine ⟨_, _, rfl, h3, fun _ => ⟨_, rfl, h2, fun j u hj => ?_⟩⟩
    have e : ((⟨g, 0, none⟩ : Addr).add j) = ⟨g, j, none⟩ := by
      unfold Addr.add
      split
      · rename_i z; rw [z]
      · simp
    rw [e]
    exact h5 j u hj
theorem str_ne {s t : ByteArray} (h : ¬ s = t) : ¬ s.toList = t.toList := fun e => h (by
  rw [ByteArray.toList_eq, ByteArray.toList_eq] at e
  exact ByteArray.ext (Array.toList_inj.1 e))

set_option maxHeartbeats 16000000 in
set_option maxRecDepth 100000 in
theorem d_Joins (a b : ByteArray) (h : a.size + b.size ≤ 1000000000000) (w : World) : Calls Tryz.prog 37 #[.string a, .string b] w fun e w' => e = .returned (.bool (joinsB a b)) ∧ Below w.heap.size w w' := by
  have S1 := Lib.hid (d_Split (a ++ b) (by rw [ByteArray.size_append]; exact h))
  have S2 := Lib.hid (d_Split a (by omega))
  have S3 := Lib.hid (d_Split b (by omega))
  have L1 := splitB_len (a ++ b)
  have L2 := splitB_len a
  have L3 := splitB_len b
  rw [ByteArray.size_append] at L1
  have JB : Hid (joinsB a b = decide (splitB (a ++ b) ≠ splitB a ++ splitB b)) := Lib.hid rfl
  generalize joinsB a b = r at *
  have nov : (9223372036854775807 < a.size + b.size) = False := eq_false (by omega)
  generalize splitB (a ++ b) = L at *
  generalize splitB a = M at *
  generalize splitB b = K at *
  go_enter Tryz.func37, Tryz.ntmps37
  go_wp2_with fail
  refine (S1.out _).mono ?_; rintro e w1 ⟨v1, rfl, o1, b1⟩
  obtain ⟨A1, c1, rfl, n1, s1⟩ := own2_sees o1
  have W1 := Lib.hid b1
  have Q1 := Lib.hid s1
  clear o1 b1 s1
  go_wp2_with fail
  refine (S2.out _).mono ?_; rintro e w2 ⟨v2, rfl, o2, b2⟩
  obtain ⟨A2, c2, rfl, n2, s2⟩ := own2_sees o2
  have W2 := Lib.hid (below_call W1.out W1.out.size b2)
  have Q1 := Lib.hid ((Q1.out.below b2 (Nat.le_refl _)).more b2.size)
  have Q2 := Lib.hid s2
  clear o2 b2 s2 W1
  go_wp2_with fail
  refine (S3.out _).mono ?_; rintro e w3 ⟨v3, rfl, o3, b3⟩
  obtain ⟨A3, c3, rfl, n3, s3⟩ := own2_sees o3
  have W3 := Lib.hid (below_call W2.out W2.out.size b3)
  have Q1 := Lib.hid ((Q1.out.below b3 (Nat.le_refl _)).more b3.size)
  have Q2 := Lib.hid ((Q2.out.below b3 (Nat.le_refl _)).more b3.size)
  have Q3 := Lib.hid s3
  clear o3 b3 s3 W2
  obtain ⟨n, hn⟩ : ∃ n, n = L.length := ⟨_, rfl⟩
  obtain ⟨m, hm⟩ : ∃ m, m = M.length := ⟨_, rfl⟩
  obtain ⟨p, hp⟩ : ∃ p, p = K.length := ⟨_, rfl⟩
  rw [← hn] at L1 n1 ⊢
  rw [← hm] at L2 n2 ⊢
  rw [← hp] at L3 n3 ⊢
  have HN := Lib.hid hn
  have HM := Lib.hid hm
  have HP := Lib.hid hp
  clear hn hm hp nov
  by_cases e : n = m + p
  · subst e
    have e1 : ((m : Int) + (p : Int) != (m : Int) + (p : Int)) = false := by simp
    go_wp2_with fail
    go_loopw [28] (fun i wr => ∃ k : Nat, k ≤ m + p ∧ i = .int .i64 k ∧ Hid (∀ j, j < k → L[j]? = (M ++ K)[j]?) ∧ Hid (Below w3.heap.size w3 wr)) (fun i _ => m + p - (intOf i).toNat)
    case atStart => exact ⟨0, Nat.zero_le _, rfl, Lib.hid (fun j h => by omega), Lib.hid (Below.refl _ _)⟩
    case round =>
      obtain ⟨k, hk, rfl, hr, hb⟩ := hrel
      by_cases lt : k < m + p
      · have kl : k < L.length := by rw [← HN.out]; exact lt
        obtain ⟨ad1, rfl, a1, x1, y1⟩ := cls_at Q1.out k kl
        have x1 := (hb.out.cell (p := ad1.add (k * 2)) (by rw [add_blk]; exact a1)).trans x1
        have y1 := (hb.out.cell (p := ⟨(ad1.add (k * 2)).block, (ad1.add (k * 2)).off + 1, none⟩) (by simp only [add_blk]; exact a1)).trans y1
        have E1 : Hid (L[k]? = some (L[k].1, L[k].2)) := Lib.hid (by rw [List.getElem?_eq_getElem kl])
        generalize (L[k]).1 = t1 at *
        generalize (L[k]).2 = u1 at *
        have lt2 : (k : Int) < (m : Int) + (p : Int) := by omega
        go_upto_region 7 with fail
        have K2 : C2 (wr.alloc (.cells #[.string t1, .int .i64 u1] 78)) wr.heap.size (.string t1) (.int .i64 u1) := by constructor <;> simp [go_sem]
        have HX := Lib.hid (hb.out.alloc hb.out.size (.cells #[.string t1, .int .i64 u1] 78))
        generalize wr.alloc (.cells #[.string t1, .int .i64 u1] 78) = X at *
        have k00 := fun d os => ((K2).regrown d os).c0
        have k01 := fun d os => ((K2).regrown d os).c1
        clear x1 y1 hb K2
        by_cases km : k < m
        · have nm : ¬ m ≤ k := by omega
          obtain ⟨ad2, rfl, a2, x2, y2⟩ := cls_at Q2.out k (show k < M.length by rw [← HM.out]; exact km)
          have x2 := fun d os => ((HX.out.trans ((below_regrown X d os).mono HX.out.size)).cell (p := ad2.add (k * 2)) (by rw [add_blk]; exact a2)).trans x2
          have y2 := fun d os => ((HX.out.trans ((below_regrown X d os).mono HX.out.size)).cell (p := ⟨(ad2.add (k * 2)).block, (ad2.add (k * 2)).off + 1, none⟩) (by simp only [add_blk]; exact a2)).trans y2
          have E2 : Hid ((M ++ K)[k]? = some (M[k].1, M[k].2)) := Lib.hid (by rw [List.getElem?_append_left (by rw [← HM.out]; exact km), List.getElem?_eq_getElem (by rw [← HM.out]; exact km)])
          generalize (M[k]).1 = t2 at *
          generalize (M[k]).2 = u2 at *
          by_cases te : t1 = t2
          · subst te
            by_cases ue : u1 = u2
            · subst ue
              have NX : Hid (∀ j, j < k + 1 → L[j]? = (M ++ K)[j]?) := Lib.hid (fun j hj => by
                by_cases jk : j = k
                · rw [jk, E1.out, E2.out]
                · exact hr.out j (by omega))
              refine wp_region_spec 28 [] [] (by kernel_rfl) (by kernel_rfl) (by kernel_rfl) (by intro t ht; cases ht) ?_
              simp only [List.take_succ_cons, List.take_zero, List.drop_succ_cons, List.drop_zero]
              repeat (refine wpS_step (by rfl) (fun K hK => ?_); go_simp; first | (refine hK _ ?_; clear hK K) | (apply Exists.intro; refine ⟨fun _ => ?_, hK _ ?_⟩; (fail); clear hK K))
              refine wpS_nil ?_
              intro W5 vs5 hl hv
              have hb5 := later_below.1 hl
              have B5 := Lib.hid (HX.out.trans (hb5.mono HX.out.size))
              clear hl hv hb5 x2 y2 k00 k01
              simp only [fillA]
              go_wp2_with fail
              go_roundw
              case rel => exact ⟨k + 1, by omega, by go_num, NX, B5⟩
              case measure => simp [intOf]; omega
            · have NE : Hid (r = true) := Lib.hid (by
                rw [JB.out]
                refine decide_eq_true (fun h => ue ?_)
                have := E1.out
                rw [h, E2.out] at this
                exact (Prod.mk.inj (Option.some.inj this)).2.symm)
              refine wp_region_spec 28 [] [] (by kernel_rfl) (by kernel_rfl) (by kernel_rfl) (by intro t ht; cases ht) ?_
              simp only [List.take_succ_cons, List.take_zero, List.drop_succ_cons, List.drop_zero]
              repeat (refine wpS_step (by rfl) (fun K hK => ?_); go_simp; first | (refine hK _ ?_; clear hK K) | (apply Exists.intro; refine ⟨fun _ => ?_, hK _ ?_⟩; (fail); clear hK K))
              refine wpS_nil ?_
              intro W5 vs5 hl hv
              have hb5 := later_below.1 hl
              have B5 := Lib.hid (HX.out.trans (hb5.mono HX.out.size))
              clear hl hv hb5 x2 y2 k00 k01
              simp only [fillA]
              go_wp2_with fail
              go_ret
              exact ⟨ret_bool (by rw [NE.out]), W3.out.trans (B5.out.mono W3.out.size)⟩
          · have NE : Hid (r = true) := Lib.hid (by
              rw [JB.out]
              refine decide_eq_true (fun h => te ?_)
              have := E1.out
              rw [h, E2.out] at this
              exact (Prod.mk.inj (Option.some.inj this)).1.symm)
            have tl := str_ne te
            refine wp_region_spec 28 [] [] (by kernel_rfl) (by kernel_rfl) (by kernel_rfl) (by intro t ht; cases ht) ?_
            simp only [List.take_succ_cons, List.take_zero, List.drop_succ_cons, List.drop_zero]
            repeat (refine wpS_step (by rfl) (fun K hK => ?_); go_simp; first | (refine hK _ ?_; clear hK K) | (apply Exists.intro; refine ⟨fun _ => ?_, hK _ ?_⟩; (fail); clear hK K))
            refine wpS_nil ?_
            intro W5 vs5 hl hv
            have hb5 := later_below.1 hl
            have B5 := Lib.hid (HX.out.trans (hb5.mono HX.out.size))
            clear hl hv hb5 x2 y2 k00 k01
            simp only [fillA]
            go_wp2_with fail
            go_ret
            exact ⟨ret_bool (by rw [NE.out]), W3.out.trans (B5.out.mono W3.out.size)⟩
        · obtain ⟨q, hq⟩ : ∃ q : Nat, (k : Int) - (m : Int) = (q : Int) := ⟨k - m, by omega⟩
          have qp : q < p := by omega
          have mk : m ≤ k := by omega
          have wq : IntKind.i64.wrap (q : Int) = (q : Int) := by rw [IntKind.wrap_i64]; omega
          have qk : k - M.length = q := by rw [← HM.out]; omega
          obtain ⟨ad2, rfl, a2, x2, y2⟩ := cls_at Q3.out q (show q < K.length by rw [← HP.out]; exact qp)
          have x2 := fun d os => ((HX.out.trans ((below_regrown X d os).mono HX.out.size)).cell (p := ad2.add (q * 2)) (by rw [add_blk]; exact a2)).trans x2
          have y2 := fun d os => ((HX.out.trans ((below_regrown X d os).mono HX.out.size)).cell (p := ⟨(ad2.add (q * 2)).block, (ad2.add (q * 2)).off + 1, none⟩) (by simp only [add_blk]; exact a2)).trans y2
          have E2 : Hid ((M ++ K)[k]? = some (K[q].1, K[q].2)) := Lib.hid (by rw [List.getElem?_append_right (by rw [← HM.out]; exact mk), qk, List.getElem?_eq_getElem (by rw [← HP.out]; exact qp)])
          generalize (K[q]).1 = t2 at *
          generalize (K[q]).2 = u2 at *
          by_cases te : t1 = t2
          · subst te
            by_cases ue : u1 = u2
            · subst ue
              have NX : Hid (∀ j, j < k + 1 → L[j]? = (M ++ K)[j]?) := Lib.hid (fun j hj => by
                by_cases jk : j = k
                · rw [jk, E1.out, E2.out]
                · exact hr.out j (by omega))
              refine wp_region_spec 28 [] [] (by kernel_rfl) (by kernel_rfl) (by kernel_rfl) (by intro t ht; cases ht) ?_
              simp only [List.take_succ_cons, List.take_zero, List.drop_succ_cons, List.drop_zero]
              repeat (refine wpS_step (by rfl) (fun K hK => ?_); go_simp; first | (refine hK _ ?_; clear hK K) | (apply Exists.intro; refine ⟨fun _ => ?_, hK _ ?_⟩; (fail); clear hK K))
              refine wpS_nil ?_
              intro W5 vs5 hl hv
              have hb5 := later_below.1 hl
              have B5 := Lib.hid (HX.out.trans (hb5.mono HX.out.size))
              clear hl hv hb5 x2 y2 k00 k01
              simp only [fillA]
              go_wp2_with fail
              go_roundw
              case rel => exact ⟨k + 1, by omega, by go_num, NX, B5⟩
              case measure => simp [intOf]; omega
            · have NE : Hid (r = true) := Lib.hid (by
                rw [JB.out]
                refine decide_eq_true (fun h => ue ?_)
                have := E1.out
                rw [h, E2.out] at this
                exact (Prod.mk.inj (Option.some.inj this)).2.symm)
              refine wp_region_spec 28 [] [] (by kernel_rfl) (by kernel_rfl) (by kernel_rfl) (by intro t ht; cases ht) ?_
              simp only [List.take_succ_cons, List.take_zero, List.drop_succ_cons, List.drop_zero]
              repeat (refine wpS_step (by rfl) (fun K hK => ?_); go_simp; first | (refine hK _ ?_; clear hK K) | (apply Exists.intro; refine ⟨fun _ => ?_, hK _ ?_⟩; (fail); clear hK K))
              refine wpS_nil ?_
              intro W5 vs5 hl hv
              have hb5 := later_below.1 hl
              have B5 := Lib.hid (HX.out.trans (hb5.mono HX.out.size))
              clear hl hv hb5 x2 y2 k00 k01
              simp only [fillA]
              go_wp2_with fail
              go_ret
              exact ⟨ret_bool (by rw [NE.out]), W3.out.trans (B5.out.mono W3.out.size)⟩
          · have NE : Hid (r = true) := Lib.hid (by
              rw [JB.out]
              refine decide_eq_true (fun h => te ?_)
              have := E1.out
              rw [h, E2.out] at this
              exact (Prod.mk.inj (Option.some.inj this)).1.symm)
            have tl := str_ne te
            refine wp_region_spec 28 [] [] (by kernel_rfl) (by kernel_rfl) (by kernel_rfl) (by intro t ht; cases ht) ?_
            simp only [List.take_succ_cons, List.take_zero, List.drop_succ_cons, List.drop_zero]
            repeat (refine wpS_step (by rfl) (fun K hK => ?_); go_simp; first | (refine hK _ ?_; clear hK K) | (apply Exists.intro; refine ⟨fun _ => ?_, hK _ ?_⟩; (fail); clear hK K))
            refine wpS_nil ?_
            intro W5 vs5 hl hv
            have hb5 := later_below.1 hl
            have B5 := Lib.hid (HX.out.trans (hb5.mono HX.out.size))
            clear hl hv hb5 x2 y2 k00 k01
            simp only [fillA]
            go_wp2_with fail
            go_ret
            exact ⟨ret_bool (by rw [NE.out]), W3.out.trans (B5.out.mono W3.out.size)⟩
      · have e : k = m + p := by omega
        have nk : ¬ (k : Int) < (m : Int) + (p : Int) := by omega
        have R : Hid (r = false) := Lib.hid (by
          rw [JB.out]
          refine decide_eq_false (fun h => h ?_)
          refine List.ext_getElem? fun j => ?_
          by_cases jk : j < k
          · exact hr.out j jk
          · rw [List.getElem?_eq_none (by rw [← HN.out]; omega), List.getElem?_eq_none (by rw [List.length_append, ← HM.out, ← HP.out]; omega)])
        have BB := Lib.hid (W3.out.trans (hb.out.mono W3.out.size))
        clear hr hb
        go_wp2_with fail
        go_ret
        exact ⟨ret_bool (by rw [R.out]), BB.out⟩
  · have e1 : ((n : Int) != (m : Int) + (p : Int)) = true := by simp; omega
    have R : Hid (r = true) := Lib.hid (by
      rw [JB.out]
      refine decide_eq_true (fun h => e ?_)
      rw [HN.out, h, List.length_append, ← HM.out, ← HP.out])
    clear e
    go_wp2_with fail
    go_ret
    exact ⟨ret_bool (by rw [R.out]), W3.out⟩
end Go.Proofs.YtkllilehdpdbdaaGreatDoor
