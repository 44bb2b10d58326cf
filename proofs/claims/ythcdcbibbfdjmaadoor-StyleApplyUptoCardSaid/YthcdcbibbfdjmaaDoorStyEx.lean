/- What numbers do to a style, the reference: the walk of Apply. -/
import Derived.Test.YthcdcbibbfdjmaaDoorStyEc
import Derived.Deep.DeepCutAuto
namespace Go.Proofs.YthcdcbibbfdjmaaDoor
open Go.RowKit Go.Sort
set_option linter.unusedVariables false

theorem Sees.cut' {w : World} {B : Nat} {ad : Addr} {xs : List Int} (h : Sees w B (some ad) (ints xs)) (k : Nat) : Sees w B (some (ad.add k)) (ints (xs.drop k)) := by
  intro ne
  obtain ⟨a, e, hb, hc⟩ := h (by
    intro z
    apply ne
    have : xs = [] := by simpa [ints] using z
    rw [this]; simp [ints])
  cases e
  refine ⟨_, rfl, by rw [add_blk]; exact hb, fun j u hu => ?_⟩
  rw [add_plus]
  apply hc
  simp only [ints, List.getElem?_map, List.getElem?_drop] at hu ⊢
  exact hu

theorem run_none38 (t : Sty) (x : Int) (r : List Int) (hx : x = 38 ∨ x = 48) (hr : richL r = none) : runL t (x :: r) = t := run_poor t x r (by rcases hx with rfl | rfl <;> rfl) hr

set_option maxHeartbeats 8000000 in
set_option maxRecDepth 100000 in
theorem ref_Apply (s : Sty) (A : Option Addr) (c : Nat) (xs : List Int) (hf : col32 s.fg) (hb : col32 s.bg) (hm : xs.length ≤ 35184372087808) (hc : xs.length ≤ c) (hx64 : ∀ x ∈ xs, x ≤ 9223372036854775807) (w : World) (h : Sees w w.heap.size A (ints xs)) :
    Calls Tryd.prog 22 #[styV s.fg s.bg s.at_, .slice A xs.length c] w fun e w' => e = .returned (styV (applyL s xs).fg (applyL s xs).bg (applyL s xs).at_) ∧ Below w.heap.size w w' := by
  have C0 := Lib.hid (ref_Counts s.fg s.bg s.at_ hf hb)
  clear hf hb
  by_cases z : xs = []
  · subst z
    go_enter Tryd.func22, Tryd.ntmps22
    go_wp2_with fail
    refine (C0.out _).mono ?_; rintro e w1 ⟨rfl, hb1⟩
    have q2 : C3 w1 (w.heap.size + 1) (.int .i32 0) (.int .i32 0) (.int .u8 0) := C3.keep (by constructor <;> simp [go_sem]) hb1 (by simp)
    have hB1 : Below w.heap.size w w1 := below_call (by go_grown) (by simp; omega) hb1
    have l2 := q2.lt
    obtain ⟨z0, z1, z2, y0, y1, y2⟩ := q2
    go_wp2_with fail
    refine bodyPost_ret (v := styV 0 0 0) (by simp [results, Tryd.results22, go_sem, z0, z1, z2, l2]; rfl) rfl ⟨rfl, ?_⟩
    exact (below_put3 hB1 (Nat.le_succ _) _ _ _).alloc (by simp; omega) _
  have AL : Hid (applyL s xs = runL (countS s) xs) := Lib.hid (by unfold applyL; rw [if_neg z]; rfl)
  obtain ⟨ad, rfl, hab, hcell⟩ := h (by simpa [ints] using z)
  have HS : Hid (Sees w w.heap.size (some ad) (ints xs)) := Lib.hid h
  have HCE := Lib.hid hcell
  have H64 := Lib.hid hx64
  obtain ⟨n, hn⟩ : ∃ n, n = xs.length := ⟨_, rfl⟩
  have HN := Lib.hid hn
  rw [← hn] at hm hc ⊢
  have n0 : 0 < n := by rw [hn]; exact List.length_pos_iff.2 z
  have g0 : ((n : Int) == 0) = false := by simp; omega
  clear h hcell hn z hx64
  go_enter Tryd.func22, Tryd.ntmps22
  go_wp2_with fail
  refine (C0.out _).mono ?_; rintro e w1 ⟨rfl, hb1⟩
  have q2 : C3 w1 (w.heap.size + 1) (.int .i32 0) (.int .i32 0) (.int .u8 0) := C3.keep (by constructor <;> simp [go_sem]) hb1 (by simp)
  have hB1 : Below w.heap.size w w1 := below_call (by go_grown) (by simp; omega) hb1
  have l2 := q2.lt
  have W0 : Hid (w.heap.size ≤ w1.heap.size) := Lib.hid (by omega)
  have Q2 := Lib.hid (q2.alloc (.cells #[.int .i32 (plC s.fg), .int .i32 (plC s.bg), .int .u8 (bI s.at_)] 24))
  have HB := Lib.hid (hB1.alloc (by omega) (.cells #[.int .i32 (plC s.fg), .int .i32 (plC s.bg), .int .u8 (bI s.at_)] 24))
  have Q1 : Hid (C3 (w1.alloc (.cells #[.int .i32 (plC s.fg), .int .i32 (plC s.bg), .int .u8 (bI s.at_)] 24)) w1.heap.size (.int .i32 (plC s.fg)) (.int .i32 (plC s.bg)) (.int .u8 (bI s.at_))) := Lib.hid (by constructor <;> simp [go_sem])
  obtain ⟨b1, hb1'⟩ : ∃ b1, b1 = w1.heap.size := ⟨_, rfl⟩
  rw [← hb1'] at Q1 W0 l2
  have HBB := Lib.hid hb1'
  clear hb1 hB1 q2
  go_upto_region 4 with fail
  rw [← hb1']
  clear hb1'
  go_wp2_with fail
  go_loopw [6] (fun s6 wr => ∃ (k : Nat) (t : Sty), k ≤ n ∧ s6 = .int .i64 k ∧ Hid (runL t (xs.drop k) = runL (countS s) xs) ∧ Hid (C3 wr b1 (.int .i32 t.fg) (.int .i32 t.bg) (.int .u8 (bI t.at_)) ∧ C3 wr (w.heap.size + 1) (.int .i32 0) (.int .i32 0) (.int .u8 0) ∧ Below w.heap.size w wr)) (fun s6 _ => n - (intOf s6).toNat)
  case atStart => exact ⟨0, countS s, by omega, rfl, Lib.hid rfl, Lib.hid ⟨Q1.out, Q2.out, HB.out⟩⟩
  case round =>
    obtain ⟨k, t, hk, rfl, ht, hc3⟩ := hrel
    clear Q1 Q2 HB
    by_cases lt : k < n
    · have kl : k < xs.length := by have := HN.out; omega
      obtain ⟨x, hx⟩ : ∃ x, x = xs[k] := ⟨_, rfl⟩
      have x64 : x ≤ 9223372036854775807 := by rw [hx]; exact H64.out _ (List.getElem_mem _)
      have cx : wr.cell? (ad.add k) = some (.int .i64 x) := (hc3.out.2.2.cell (p := ad.add k) (by rw [add_blk]; exact hab)).trans (HCE.out k _ (by simp [ints, hx, kl]))
      have DR : Hid (xs.drop k = x :: xs.drop (k + 1)) := Lib.hid (by rw [hx]; exact List.drop_eq_getElem_cons kl)
      have SC : Hid (Sees wr wr.heap.size (some (ad.add (k + 1))) (ints (xs.drop (k + 1)))) := Lib.hid (((HS.out.below hc3.out.2.2 (Nat.le_refl _)).more hc3.out.2.2.size).cut' (k + 1))
      have DL : Hid ((xs.drop (k + 1)).length = n - (k + 1)) := Lib.hid (by rw [List.length_drop, HN.out])
      obtain ⟨rest, hrest⟩ : ∃ rest, rest = xs.drop (k + 1) := ⟨_, rfl⟩
      rw [← hrest] at DR SC DL
      have HR := Lib.hid hrest
      clear hx kl hrest
      have ne : w.heap.size + 1 ≠ b1 := by omega
      obtain ⟨a0, a1, a2, f0, f1, f2⟩ := hc3.out.1
      by_cases z0 : x = 0
      · subst z0
        have RR : Hid (runL plainS (xs.drop (k + 1)) = runL (countS s) xs) := Lib.hid (by rw [← HR.out, ← runL_zero t, ← ht.out, DR.out])
        go_wp2_with fail
        go_roundw
        case rel => exact ⟨k + 1, plainS, by omega, by go_num, RR, Lib.hid ⟨hc3.out.1.put _ _ _, ((hc3.out.2.1.far ne).far ne).far ne, below_put3 hc3.out.2.2 W0.out _ _ _⟩⟩
        case measure => simp [intOf]; omega
      have g1 : (x == 0) = false := by simpa using z0
      have Z0 := Lib.hid z0
      clear z0
      obtain ⟨AD, hAD⟩ : ∃ AD, AD = (if c = k + 1 then some ad else some (ad.add (k + 1))) := ⟨_, rfl⟩
      have slr : ∀ W : World, (Instr.slice 25 (.slice (some ad) n c) (some (.int .i64 ((k : Int) + 1))) none none).run Tryd.prog W = .ok (.slice AD (n - (k + 1)) (c - (k + 1))) W := fun W => by
        rw [run_slice_l W 25 (some ad) n c (by kernel_rfl) .i64 ((k : Int) + 1) (by omega) (by omega)]
        have tn : ((k : Int) + 1).toNat = k + 1 := by omega
        rw [tn, hAD]
        have sz : (sizeOf (Tryd.prog.elem 25)).run Tryd.prog W = .ok 1 W := by kernel_rfl
        rw [sz]
        simp only [Result.andThen, sliced, Nat.mul_one, Option.map]
      have ST : Hid (Calls Tryd.prog 43 #[.slice AD (n - (k + 1)) (c - (k + 1))] wr fun e w' => e = .returned (richV (richL rest)) ∧ Below wr.heap.size wr w') := Lib.hid (by
        have SS : Sees wr wr.heap.size AD (ints rest) := by
          rw [hAD]
          split
          · have : rest = [] := List.eq_nil_of_length_eq_zero (by have := DL.out; omega)
            rw [this]
            exact Sees.nil _ _ _
          · exact SC.out
        have := ref_long AD (c - (k + 1)) rest (by have := DL.out; omega) wr SS
        rw [DL.out] at this
        exact this)
      have HAD := Lib.hid hAD
      clear hAD
      by_cases z38 : x = 38
      · subst z38
        cases hr : richL rest with
        | none =>
          have FIN : Hid (t = runL (countS s) xs) := Lib.hid (by rw [← ht.out, DR.out, run_none38 t 38 rest (by decide) hr])
          have ST := ST.out
          rw [hr] at ST
          have ST := Lib.hid ST
          clear hr
          go_wp2_with fail
          refine ST.out.mono ?_; rintro e' w3 ⟨rfl, hb3⟩
          obtain ⟨p0, p1, p2, q0, q1, q2⟩ := hc3.out.1.keep hb3 hc3.out.1.lt
          obtain ⟨d0, d1, d2, j0, j1, j2⟩ := hc3.out.2.1.keep hb3 hc3.out.2.1.lt
          have K2 := Lib.hid (below_call hc3.out.2.2 hc3.out.2.2.size hb3)
          clear hb3
          simp only [richV]
          go_wp2_with fail
          refine bodyPost_ret (v := styV (applyL s xs).fg (applyL s xs).bg (applyL s xs).at_) (by rw [AL.out, ← FIN.out]; simp [results, Tryd.results22, go_sem, d0, d1, d2]) rfl ⟨rfl, ?_⟩
          exact below_put3 K2.out (Nat.le_succ _) _ _ _
        | some pr =>
          obtain ⟨cc, q⟩ := pr
          obtain ⟨q1, q2, q3, q4⟩ := rich_len hr
          have FIN : Hid (runL ⟨cc, t.bg, t.at_⟩ (xs.drop (k + q + 1)) = runL (countS s) xs) := Lib.hid (by
            rw [← ht.out, DR.out, runL_38 t rest cc q hr, HR.out, List.drop_drop]
            congr 2
            omega)
          have QL : k + q + 1 ≤ n := by have := DL.out; omega
          have gq : ((q : Int) == 0) = false := by simp; omega
          have ST := ST.out
          rw [hr] at ST
          have ST := Lib.hid ST
          clear hr q1 q3 q4
          go_wp2_with fail
          refine ST.out.mono ?_; rintro e' w3 ⟨rfl, hb3⟩
          have K0 := Lib.hid (hc3.out.1.keep hb3 hc3.out.1.lt)
          have K1 := Lib.hid (hc3.out.2.1.keep hb3 hc3.out.2.1.lt)
          have K2 := Lib.hid (below_call hc3.out.2.2 hc3.out.2.2.size hb3)
          clear hb3
          obtain ⟨p0, p1, p2, i0, i1, i2⟩ := K0.out
          simp only [richV]
          go_wp2_with fail
          go_roundw
          case rel => exact ⟨k + q + 1, ⟨cc, t.bg, t.at_⟩, QL, by go_num, FIN, Lib.hid ⟨K0.out.set0 _, K1.out.far ne, K2.out.setCell W0.out _⟩⟩
          case measure => simp [intOf]; omega
      have g38 : (x == 38) = false := by simpa using z38
      have Z38 := Lib.hid z38
      clear z38
      by_cases z48 : x = 48
      · subst z48
        cases hr : richL rest with
        | none =>
          have FIN : Hid (t = runL (countS s) xs) := Lib.hid (by rw [← ht.out, DR.out, run_none38 t 48 rest (by decide) hr])
          have ST := ST.out
          rw [hr] at ST
          have ST := Lib.hid ST
          clear hr
          go_wp2_with fail
          refine ST.out.mono ?_; rintro e' w3 ⟨rfl, hb3⟩
          obtain ⟨p0, p1, p2, q0, q1, q2⟩ := hc3.out.1.keep hb3 hc3.out.1.lt
          obtain ⟨d0, d1, d2, j0, j1, j2⟩ := hc3.out.2.1.keep hb3 hc3.out.2.1.lt
          have K2 := Lib.hid (below_call hc3.out.2.2 hc3.out.2.2.size hb3)
          clear hb3
          simp only [richV]
          go_wp2_with fail
          refine bodyPost_ret (v := styV (applyL s xs).fg (applyL s xs).bg (applyL s xs).at_) (by rw [AL.out, ← FIN.out]; simp [results, Tryd.results22, go_sem, d0, d1, d2]) rfl ⟨rfl, ?_⟩
          exact below_put3 K2.out (Nat.le_succ _) _ _ _
        | some pr =>
          obtain ⟨cc, q⟩ := pr
          obtain ⟨q1, q2, q3, q4⟩ := rich_len hr
          have FIN : Hid (runL ⟨t.fg, cc, t.at_⟩ (xs.drop (k + q + 1)) = runL (countS s) xs) := Lib.hid (by
            rw [← ht.out, DR.out, runL_48 t rest cc q hr, HR.out, List.drop_drop]
            congr 2
            omega)
          have QL : k + q + 1 ≤ n := by have := DL.out; omega
          have gq : ((q : Int) == 0) = false := by simp; omega
          have ST := ST.out
          rw [hr] at ST
          have ST := Lib.hid ST
          clear hr q1 q3 q4
          go_wp2_with fail
          refine ST.out.mono ?_; rintro e' w3 ⟨rfl, hb3⟩
          have K0 := Lib.hid (hc3.out.1.keep hb3 hc3.out.1.lt)
          have K1 := Lib.hid (hc3.out.2.1.keep hb3 hc3.out.2.1.lt)
          have K2 := Lib.hid (below_call hc3.out.2.2 hc3.out.2.2.size hb3)
          clear hb3
          obtain ⟨p0, p1, p2, i0, i1, i2⟩ := K0.out
          simp only [richV]
          go_wp2_with fail
          go_roundw
          case rel => exact ⟨k + q + 1, ⟨t.fg, cc, t.at_⟩, QL, by go_num, FIN, Lib.hid ⟨K0.out.set1 _, K1.out.far ne, K2.out.setCell W0.out _⟩⟩
          case measure => simp [intOf]; omega
      have g48 : (x == 48) = false := by simpa using z48
      have Z48 := Lib.hid z48
      clear z48
      have NX : Hid (runL (stepN t x) (xs.drop (k + 1)) = runL (countS s) xs) := Lib.hid (by
        rw [← HR.out, ← runL_simple t x rest (by unfold smpl; exact decide_eq_true ⟨Z0.out, Z38.out, Z48.out⟩), ← ht.out, DR.out])
      have EF := Lib.hid (colN_ok t.fg x)
      have EB := Lib.hid (colN_ok t.bg (x - 10))
      have AT := Lib.hid (ref_attribute x)
      have S1 := ref_short x
      have S2 := ref_short (x - 10)
      have NV : Hid (stepN t x = ⟨colN t.fg x, colN t.bg (x - 10), (t.at_ &&& ~~~(takeM x)) ||| setM x⟩) := Lib.hid rfl
      generalize stepN t x = t' at *
      generalize setM x = SM at *
      generalize takeM x = TM at *
      generalize colN 0 x = V1 at *
      generalize colN 0 (x - 10) = V2 at *
      clear slr ST
      by_cases hp : 0 < x
      · cases h1 : okS x
        all_goals cases h2 : okS (x - 10)
        all_goals
          rw [h1] at S1 EF
          rw [h2] at S2 EB
          have EF := EF.out
          have EB := EB.out
          simp only [Bool.false_eq_true, if_false, if_true] at EF EB
          have NV := NV.out
          rw [EF, EB] at NV
          have NV := Lib.hid NV
          have S1 := Lib.hid S1
          have S2 := Lib.hid S2
          clear h1 h2 EF EB
          go_wp2_with fail
          refine (AT.out _).mono ?_; rintro e' w3 ⟨rfl, hb3⟩
          have K0 := Lib.hid (hc3.out.1.keep hb3 hc3.out.1.lt)
          have K1 := Lib.hid (hc3.out.2.1.keep hb3 hc3.out.2.1.lt)
          have K2 := Lib.hid (below_call hc3.out.2.2 hc3.out.2.2.size hb3)
          clear hb3 a0 a1 a2 f0 f1 f2 cx
          obtain ⟨a0, a1, a2, f0, f1, f2⟩ := K0.out
          go_wp2_with fail
          refine (S1.out _).mono ?_; rintro e' w' ⟨rfl, rfl⟩
          go_wp2_with fail
          refine (S2.out _).mono ?_; rintro e' w' ⟨rfl, rfl⟩
          go_wp2_with fail
          go_roundw
          case rel =>
            refine ⟨k + 1, t', by omega, by go_num, NX, Lib.hid ⟨?_, ?_, ?_⟩⟩
            · rw [NV.out]
              first | with_reducible exact K0.out.set2 _ | with_reducible exact (K0.out.set2 _).set0 _ | with_reducible exact (K0.out.set2 _).set1 _ | with_reducible exact ((K0.out.set2 _).set0 _).set1 _
            · first | with_reducible exact K1.out.far ne | with_reducible exact (K1.out.far ne).far ne | with_reducible exact ((K1.out.far ne).far ne).far ne
            · first | with_reducible exact K2.out.setCell W0.out _ | with_reducible exact (K2.out.setCell W0.out _).setCell W0.out _ | with_reducible exact ((K2.out.setCell W0.out _).setCell W0.out _).setCell W0.out _
          case measure => simp [intOf]; omega
      · have o1 : okS x = false := by unfold okS; exact decide_eq_false (by omega)
        have o2 : okS (x - 10) = false := by unfold okS; exact decide_eq_false (by omega)
        rw [o1] at S1 EF
        rw [o2] at EB
        have EF := EF.out
        have EB := EB.out
        simp only [Bool.false_eq_true, if_false] at EF EB
        have NV := NV.out
        rw [EF, EB] at NV
        have NV := Lib.hid NV
        have S1 := Lib.hid S1
        clear o1 o2 EF EB S2
        go_wp2_with fail
        refine (AT.out _).mono ?_; rintro e' w3 ⟨rfl, hb3⟩
        have K0 := Lib.hid (hc3.out.1.keep hb3 hc3.out.1.lt)
        have K1 := Lib.hid (hc3.out.2.1.keep hb3 hc3.out.2.1.lt)
        have K2 := Lib.hid (below_call hc3.out.2.2 hc3.out.2.2.size hb3)
        clear hb3 a0 a1 a2 f0 f1 f2 cx
        obtain ⟨a0, a1, a2, f0, f1, f2⟩ := K0.out
        go_wp2_with fail
        refine (S1.out _).mono ?_; rintro e' w' ⟨rfl, rfl⟩
        go_wp2_with fail
        go_roundw
        case rel => exact ⟨k + 1, t', by omega, by go_num, NX, Lib.hid ⟨by rw [NV.out]; exact K0.out.set2 _, K1.out.far ne, K2.out.setCell W0.out _⟩⟩
        case measure => simp [intOf]; omega
    · have ek : k = n := by omega
      subst ek
      have TT : Hid (t = applyL s xs) := Lib.hid (by rw [AL.out, ← ht.out, HN.out, List.drop_length]; rfl)
      obtain ⟨h1, h2, h3⟩ := hc3.out
      have H3 := Lib.hid h3
      obtain ⟨a0, a1, a2, f0, f1, f2⟩ := h1
      obtain ⟨b0, b1', b2, g0', g1, g2⟩ := h2
      clear h3
      go_wp2_with fail
      refine bodyPost_ret (v := styV (applyL s xs).fg (applyL s xs).bg (applyL s xs).at_) (by rw [← TT.out]; simp [results, Tryd.results22, go_sem, b0, b1', b2]) rfl ⟨rfl, ?_⟩
      exact below_put3 H3.out (Nat.le_succ _) _ _ _
end Go.Proofs.YthcdcbibbfdjmaaDoor
