/- What numbers do to a style: the program's walk. -/
import Derived.Test.YtkllilehdpdbdaaGreatDoorStyPl
import Derived.Test.YtkllilehdpdbdaaGreatDoorStyI
import Derived.Test.YtkllilehdpdbdaaGreatDoorStyM
import Derived.Deep.CutBlock
import Derived.Laws.BitsAllLaws
import Derived.Laws.ShiftsVarLaws
namespace Go.Proofs.YtkllilehdpdbdaaGreatDoor
open Go.RowKit Go.Sort
set_option linter.unusedVariables false

theorem Sees.cut {w : World} {B : Nat} {ad : Addr} {xs : List Int} (h : Sees w B (some ad) (ints xs)) (k : Nat) : Sees w B (some (ad.add k)) (ints (xs.drop k)) := by
  intro ne
  obtain ⟨a, e, hb, hc⟩ := h (by
    intro z
    apply ne
    have : xs = [] := by simpa [ints] using z
    rw [this]; simp [ints])
  cases e
  refine ⟨_, rfl, by rw [add_blk]; exact hb, fun j u hu => ?_⟩
  rw [add_plus]
  apply hc
  simp only [ints, List.getElem?_map, List.getElem?_drop] at hu ⊢
  exact hu

set_option maxHeartbeats 8000000 in
set_option maxRecDepth 100000 in
theorem st_Apply (s : Sty) (A : Option Addr) (c : Nat) (xs : List Int) (hm : xs.length ≤ 35184372087808) (hc : xs.length ≤ c) (w : World) (E : EnvS w) (h : Sees w w.heap.size A (ints xs)) :
    Calls Tryz.prog 95 #[styV s.fg s.bg s.at_, .slice A xs.length c] w fun e w' => e = .returned (styV (applyL s xs).fg (applyL s xs).bg (applyL s xs).at_) ∧ Below w.heap.size w w' := by
  by_cases z : xs = []
  · subst z
    go_enter Tryz.func95, Tryz.ntmps95
    go_wp2_with fail
    exact bodyPost_ret (v := styV 0 0 0) (by simp [results, Tryz.results95, go_sem]; rfl) rfl ⟨rfl, by go_grown⟩
  have AL : Hid (applyL s xs = runL (countS s) xs) := Lib.hid (by unfold applyL; rw [if_neg z]; rfl)
  obtain ⟨ad, rfl, hab, hcell⟩ := h (by simpa [ints] using z)
  have HS : Hid (Sees w w.heap.size (some ad) (ints xs)) := Lib.hid h
  have HCE := Lib.hid hcell
  have HE := Lib.hid E
  obtain ⟨n, hn⟩ : ∃ n, n = xs.length := ⟨_, rfl⟩
  have HN := Lib.hid hn
  rw [← hn] at hm hc ⊢
  have n0 : 0 < n := by rw [hn]; exact List.length_pos_iff.2 z
  clear h hcell hn z E
  go_enter Tryz.func95, Tryz.ntmps95
  go_wp2_with fail
  refine (st_counts _ _ _ _).mono ?_; rintro e w1 ⟨rfl, hb1⟩
  have q1 : C3 w1 w.heap.size (.int .i32 s.fg) (.int .i32 s.bg) (.int .u8 (bI s.at_)) := C3.keep (by constructor <;> simp [go_sem]) hb1 (by simp; omega)
  have q2 : C3 w1 (w.heap.size + 1) (.int .i32 0) (.int .i32 0) (.int .u8 0) := C3.keep (by constructor <;> simp [go_sem]) hb1 (by simp)
  have hB1 : Below w.heap.size w w1 := below_call (by go_grown) (by simp; omega) hb1
  clear hb1
  have q1' := q1.put (.int .i32 (plC s.fg)) (.int .i32 (plC s.bg)) (.int .u8 (bI s.at_))
  have q2' := ((q2.far (b' := w.heap.size) (o := 0) (y := .int .i32 (plC s.fg)) (by omega)).far (b' := w.heap.size) (o := 1) (y := .int .i32 (plC s.bg)) (by omega)).far (b' := w.heap.size) (o := 2) (y := .int .u8 (bI s.at_)) (by omega)
  have hB1' : Below w.heap.size w (((w1.setCell ⟨w.heap.size, 0, none⟩ (.int .i32 (plC s.fg))).setCell ⟨w.heap.size, 1, none⟩ (.int .i32 (plC s.bg))).setCell ⟨w.heap.size, 2, none⟩ (.int .u8 (bI s.at_))) := ((hB1.setCell (Nat.le_refl _) _).setCell (Nat.le_refl _) _).setCell (Nat.le_refl _) _
  have Q1 := Lib.hid q1'
  have Q2 := Lib.hid q2'
  have HB := Lib.hid hB1'
  obtain ⟨a0, a1, a2, f0, f1, f2⟩ := q1
  clear q2 q1' q2' hB1 hB1'
  go_wp2_with fail
  clear a0 a1 a2 f0 f1 f2
  go_loopw [5] (fun s5 wr => ∃ (k : Nat) (t : Sty), k ≤ n ∧ s5 = .int .i64 k ∧ Hid (runL t (xs.drop k) = runL (countS s) xs) ∧ Hid (C3 wr w.heap.size (.int .i32 t.fg) (.int .i32 t.bg) (.int .u8 (bI t.at_)) ∧ C3 wr (w.heap.size + 1) (.int .i32 0) (.int .i32 0) (.int .u8 0) ∧ Below w.heap.size w wr)) (fun s5 _ => n - (intOf s5).toNat)
  case atStart => exact ⟨0, countS s, by omega, rfl, Lib.hid rfl, Lib.hid ⟨Q1.out, Q2.out, HB.out⟩⟩
  case round =>
    obtain ⟨k, t, hk, rfl, ht, hc3⟩ := hrel
    clear Q1 Q2 HB
    by_cases lt : k < n
    · have kl : k < xs.length := by have := HN.out; omega
      obtain ⟨x, hx⟩ : ∃ x, x = xs[k] := ⟨_, rfl⟩
      have cx : wr.cell? (ad.add k) = some (.int .i64 x) := (hc3.out.2.2.cell (p := ad.add k) (by rw [add_blk]; exact hab)).trans (HCE.out k _ (by simp [ints, hx, kl]))
      have DR : Hid (xs.drop k = x :: xs.drop (k + 1)) := Lib.hid (by rw [hx]; exact List.drop_eq_getElem_cons kl)
      have SC : Hid (Sees wr wr.heap.size (some (ad.add (k + 1))) (ints (xs.drop (k + 1)))) := Lib.hid (((HS.out.below hc3.out.2.2 (Nat.le_refl _)).more hc3.out.2.2.size).cut (k + 1))
      have DL : Hid ((xs.drop (k + 1)).length = n - (k + 1)) := Lib.hid (by rw [List.length_drop, HN.out])
      obtain ⟨rest, hrest⟩ : ∃ rest, rest = xs.drop (k + 1) := ⟨_, rfl⟩
      rw [← hrest] at DR SC DL
      have HR := Lib.hid hrest
      clear hx kl hrest
      go_upto_region 9 with fail
      go_cut [41] from 28 to 41 (fun s41 wx => s41 = .bool (shN x) ∧ wx = wr)
      case first =>
        by_cases r1 : x < 40
        · have e : Hid (shN x = false) := Lib.hid (by unfold shN; exact decide_eq_false (by omega))
          go_wp2_with fail
          go_meet
          exact ⟨by rw [e.out], rfl⟩
        by_cases r2 : x ≤ 49
        · have e : Hid (shN x = true) := Lib.hid (by unfold shN; exact decide_eq_true (by omega))
          go_wp2_with fail
          go_meet
          exact ⟨by rw [e.out], rfl⟩
        by_cases r3 : x < 100
        · have e : Hid (shN x = false) := Lib.hid (by unfold shN; exact decide_eq_false (by omega))
          go_wp2_with fail
          go_meet
          exact ⟨by rw [e.out], rfl⟩
        by_cases r4 : x ≤ 107
        · have e : Hid (shN x = true) := Lib.hid (by unfold shN; exact decide_eq_true (by omega))
          go_wp2_with fail
          go_meet
          exact ⟨by rw [e.out], rfl⟩
        · have e : Hid (shN x = false) := Lib.hid (by unfold shN; exact decide_eq_false (by omega))
          go_wp2_with fail
          go_meet
          exact ⟨by rw [e.out], rfl⟩
      case rest =>
        obtain ⟨rfl, ew⟩ := hcut
        obtain ⟨w2, hw2⟩ : ∃ w2, w2 = wr := ⟨_, rfl⟩
        rw [← hw2] at ew hc3 cx SC
        clear hw2
        subst ew
        go_upto_if 41 with fail
        go_cut [6, 7] from 41 to 44 (fun s6 s7 wx => s6 = .int .i64 (mN x) ∧ s7 = .pointer (some ⟨w.heap.size, (if shN x = true then 1 else 0), none⟩) ∧ wx = wc)
        case first =>
          cases hsh : shN x with
          | true =>
            have e : Hid (mN x = x - 10) := Lib.hid (by unfold mN; rw [if_pos hsh])
            have b : 40 ≤ x ∧ x ≤ 107 := by unfold shN at hsh; rw [decide_eq_true_iff] at hsh; omega
            obtain ⟨b1, b2⟩ := b
            go_wp2_with fail
            go_meet
            exact ⟨by rw [e.out], by simp [hsh], rfl⟩
          | false =>
            have e : Hid (mN x = x) := Lib.hid (by unfold mN; rw [if_neg (by rw [hsh]; decide)])
            go_wp2_with fail
            go_meet
            exact ⟨by rw [e.out], by simp [hsh], rfl⟩
        case rest =>
          obtain ⟨rfl, rfl, ew⟩ := hcut
          rw [← ew] at hc3 SC
          clear ew cx
          obtain ⟨fo, hfo⟩ : ∃ fo : Nat, fo = if shN x = true then 1 else 0 := ⟨_, rfl⟩
          obtain ⟨m, hmm⟩ : ∃ m, m = mN x := ⟨_, rfl⟩
          rw [← hfo, ← hmm]
          have HFO := Lib.hid hfo
          have HM := Lib.hid hmm
          clear hfo hmm
          go_upto_block 2 with fail
          go_cut [5, 8, 9] from 45 to 99 (fun s5 s8 s9 wx => ∃ (j : Nat) (t' : Sty), k ≤ j ∧ j + 1 ≤ n ∧ s5 = .int .i64 j ∧ Hid (runL { t' with at_ := attrN t'.at_ m } (xs.drop (j + 1)) = runL (countS s) xs) ∧ Hid (C3 wx w.heap.size (.int .i32 t'.fg) (.int .i32 t'.bg) (.int .u8 (bI t'.at_)) ∧ C3 wx (w.heap.size + 1) (.int .i32 0) (.int .i32 0) (.int .u8 0) ∧ Below w.heap.size w wx))
          case first =>
            obtain ⟨a0, a1, a2, f0, f1, f2⟩ := hc3.out.1
            have l0 := hc3.out.1.lt
            have ne : w.heap.size + 1 ≠ w.heap.size := by omega
            by_cases z0 : m = 0
            · have RR : Hid (runL { plainS with at_ := attrN plainS.at_ m } (xs.drop (k + 1)) = runL (countS s) xs) := Lib.hid (by
                have := mN_zero x (HM.out.symm.trans z0)
                rw [z0, ← HR.out, ← run_reset t, ← ht.out, DR.out, this])
              have g0 : (m == 0) = true := by rw [z0]; rfl
              clear z0
              go_wp2_with fail
              go_meet
              refine ⟨k, plainS, Nat.le_refl _, lt, rfl, RR, Lib.hid ⟨?_, ?_, ?_⟩⟩
              · exact hc3.out.1.put (.int .i32 0) (.int .i32 0) (.int .u8 0)
              · exact ((hc3.out.2.1.far ne).far ne).far ne
              · exact ((hc3.out.2.2.setCell (Nat.le_refl _) _).setCell (Nat.le_refl _) _).setCell (Nat.le_refl _) _
            have g0 : (m == 0) = false := by simpa using z0
            have Z0 := Lib.hid z0
            clear z0
            by_cases z38 : m = 38
            · obtain ⟨AD, hAD⟩ : ∃ AD, AD = (if c = k + 1 then some ad else some (ad.add (k + 1))) := ⟨_, rfl⟩
              have slr : ∀ W : World, (Instr.slice 33 (.slice (some ad) n c) (some (.int .i64 ((k : Int) + 1))) none none).run Tryz.prog W = .ok (.slice AD (n - (k + 1)) (c - (k + 1))) W := fun W => by
                rw [run_slice_l W 33 (some ad) n c (by kernel_rfl) .i64 ((k : Int) + 1) (by omega) (by omega)]
                have tn : ((k : Int) + 1).toNat = k + 1 := by omega
                rw [tn, hAD]
                have sz : (sizeOf (Tryz.prog.elem 33)).run Tryz.prog W = .ok 1 W := by kernel_rfl
                rw [sz]
                simp only [Result.andThen, sliced, Nat.mul_one, Option.map]
              have SS : Hid (Sees wc wc.heap.size AD (ints rest)) := Lib.hid (by
                rw [hAD]
                split
                · have : rest = [] := List.eq_nil_of_length_eq_zero (by have := DL.out; omega)
                  rw [this]
                  exact Sees.nil _ _ _
                · exact SC.out)
              have HAD := Lib.hid hAD
              clear hAD
              have g38 : (m == 38) = true := by rw [z38]; rfl
              have HM38 : Hid (mN x = 38) := Lib.hid (HM.out.symm.trans z38)
              have ST := Lib.hid (st_rich AD (c - (k + 1)) rest (by have := DL.out; omega) wc SS.out)
              have DLn := DL.out
              have ST : Hid (Calls Tryz.prog 126 #[.slice AD (n - (k + 1)) (c - (k + 1))] wc fun e w' => e = .returned (richV (richL rest)) ∧ Below wc.heap.size wc w') := Lib.hid (by have := ST.out; rw [DLn] at this; exact this)
              have Z38 := Lib.hid z38
              clear z38 DLn
              cases hr : richL rest with
              | none =>
                have FIN : Hid (t = runL (countS s) xs) := Lib.hid (by rw [← ht.out, DR.out, run_poor t x rest HM38.out hr])
                rw [hr] at ST
                have ST := Lib.hid ST.out
                clear hr
                go_wp2_with fail
                refine ST.out.mono ?_; rintro e' w3 ⟨rfl, hb3⟩
                have K0 := Lib.hid (hc3.out.1.keep hb3 l0)
                have K1 := Lib.hid (hc3.out.2.1.keep hb3 hc3.out.2.1.lt)
                have K2 := Lib.hid (below_call hc3.out.2.2 hc3.out.2.2.size hb3)
                clear hb3
                obtain ⟨b0, b1, b2, i0, i1, i2⟩ := K0.out
                obtain ⟨d0, d1, d2, j0, j1, j2⟩ := K1.out
                simp only [richV]
                go_wp2_with fail
                refine bodyPost_ret (v := styV (applyL s xs).fg (applyL s xs).bg (applyL s xs).at_) (by rw [AL.out, ← FIN.out]; simp [results, Tryz.results95, go_sem, d0, d1, d2]) rfl ⟨rfl, ?_⟩
                exact ((K2.out.setCell (Nat.le_succ _) _).setCell (Nat.le_succ _) _).setCell (Nat.le_succ _) _
              | some p =>
                obtain ⟨cc, q⟩ := p
                obtain ⟨q1, q2, q3, q4⟩ := rich_len hr
                have FIN : Hid (runL (if shN x = true then { t with bg := cc, at_ := attrN t.at_ 38 } else { t with fg := cc, at_ := attrN t.at_ 38 }) (xs.drop (k + q + 1)) = runL (countS s) xs) := Lib.hid (by
                  rw [← ht.out, DR.out, run_rich t x rest HM38.out cc q hr, HR.out, List.drop_drop]
                  congr 2
                  omega)
                have QL : k + q + 1 ≤ n := by have := DL.out; omega
                have gq : ((q : Int) == 0) = false := by simp; omega
                rw [hr] at ST
                have ST := Lib.hid ST.out
                clear hr q1 q3 q4
                go_wp2_with fail
                refine ST.out.mono ?_; rintro e' w3 ⟨rfl, hb3⟩
                have K0 := Lib.hid (hc3.out.1.keep hb3 l0)
                have K1 := Lib.hid (hc3.out.2.1.keep hb3 hc3.out.2.1.lt)
                have K2 := Lib.hid (below_call hc3.out.2.2 hc3.out.2.2.size hb3)
                clear hb3
                obtain ⟨b0, b1, b2, i0, i1, i2⟩ := K0.out
                simp only [richV]
                cases hs : shN x with
                | true =>
                  have e1 : fo = 1 := by rw [HFO.out, if_pos hs]
                  have FIN2 : Hid (runL { (⟨t.fg, cc, t.at_⟩ : Sty) with at_ := attrN t.at_ m } (xs.drop (k + q + 1)) = runL (countS s) xs) := Lib.hid (by have := FIN.out; rw [if_pos hs] at this; rw [Z38.out]; exact this)
                  subst e1
                  clear hs
                  go_wp2_with fail
                  go_meet
                  exact ⟨k + q, ⟨t.fg, cc, t.at_⟩, by omega, QL, by go_num, FIN2, Lib.hid ⟨K0.out.set1 _, K1.out.far ne, K2.out.setCell (Nat.le_refl _) _⟩⟩
                | false =>
                  have e1 : fo = 0 := by rw [HFO.out, if_neg (by rw [hs]; decide)]
                  have FIN2 : Hid (runL { (⟨cc, t.bg, t.at_⟩ : Sty) with at_ := attrN t.at_ m } (xs.drop (k + q + 1)) = runL (countS s) xs) := Lib.hid (by have := FIN.out; rw [if_neg (by rw [hs]; decide)] at this; rw [Z38.out]; exact this)
                  subst e1
                  clear hs
                  go_wp2_with fail
                  go_meet
                  exact ⟨k + q, ⟨cc, t.bg, t.at_⟩, by omega, QL, by go_num, FIN2, Lib.hid ⟨K0.out.set0 _, K1.out.far ne, K2.out.setCell (Nat.le_refl _) _⟩⟩
            have g38 : (m == 38) = false := by simpa using z38
            have Z38 := Lib.hid z38
            clear z38
            have RF : Hid (shN x = false → runL { (⟨colN t.fg m, t.bg, t.at_⟩ : Sty) with at_ := attrN t.at_ m } (xs.drop (k + 1)) = runL (countS s) xs) := Lib.hid (fun h => by
              rw [← HR.out, HM.out, ← run_fgN t x rest h (by rw [← HM.out]; exact Z0.out) (by rw [← HM.out]; exact Z38.out), ← ht.out, DR.out])
            have RB : Hid (shN x = true → runL { (⟨t.fg, colN t.bg m, t.at_⟩ : Sty) with at_ := attrN t.at_ m } (xs.drop (k + 1)) = runL (countS s) xs) := Lib.hid (fun h => by
              rw [← HR.out, HM.out, ← run_bgN t x rest h (by rw [← HM.out]; exact Z38.out), ← ht.out, DR.out])
            have CN : ∀ v : Int, (∀ c, colN c m = v) → Hid (∀ wx : World, wx = wc.setCell ⟨w.heap.size, fo, none⟩ (.int .i32 v) → ∃ t' : Sty, Hid (runL { t' with at_ := attrN t'.at_ m } (xs.drop (k + 1)) = runL (countS s) xs) ∧ Hid (C3 wx w.heap.size (.int .i32 t'.fg) (.int .i32 t'.bg) (.int .u8 (bI t'.at_)) ∧ C3 wx (w.heap.size + 1) (.int .i32 0) (.int .i32 0) (.int .u8 0) ∧ Below w.heap.size w wx)) := fun v hv => Lib.hid (fun wx hwx => by
              subst hwx
              cases hs : shN x with
              | true =>
                have e1 : fo = 1 := by rw [HFO.out, if_pos hs]
                subst e1
                exact ⟨⟨t.fg, v, t.at_⟩, Lib.hid (by have := RB.out hs; rw [hv] at this; exact this), Lib.hid ⟨hc3.out.1.set1 _, hc3.out.2.1.far ne, hc3.out.2.2.setCell (Nat.le_refl _) _⟩⟩
              | false =>
                have e1 : fo = 0 := by rw [HFO.out, if_neg (by rw [hs]; decide)]
                subst e1
                exact ⟨⟨v, t.bg, t.at_⟩, Lib.hid (by have := RF.out hs; rw [hv] at this; exact this), Lib.hid ⟨hc3.out.1.set0 _, hc3.out.2.1.far ne, hc3.out.2.2.setCell (Nat.le_refl _) _⟩⟩)
            have NC : (∀ c, colN c m = c) → Hid (runL { t with at_ := attrN t.at_ m } (xs.drop (k + 1)) = runL (countS s) xs) := fun hv => Lib.hid (by
              cases hs : shN x with
              | true => have := RB.out hs; rw [hv] at this; exact this
              | false => have := RF.out hs; rw [hv] at this; exact this)
            have CN := Lib.hid CN
            have NC := Lib.hid NC
            have fo1 : fo = 0 ∨ fo = 1 := by rw [HFO.out]; split <;> simp
            have ff : wc.frozen? ⟨w.heap.size, fo, none⟩ = false := by rcases fo1 with rfl | rfl; exact f0; exact f1
            obtain ⟨cv, cf⟩ : ∃ cv, wc.cell? ⟨w.heap.size, fo, none⟩ = some cv := by rcases fo1 with rfl | rfl; exact ⟨_, a0⟩; exact ⟨_, a1⟩
            clear fo1 RF RB
            by_cases z39 : m = 39
            · have K := (CN.out 0 (fun c => by unfold colN; rw [if_neg (by omega), if_neg (by omega), if_pos z39])).out _ rfl
              have K := Lib.hid K
              have g39 : (m == 39) = true := by rw [z39]; rfl
              clear z39
              go_wp2_with fail
              go_meet
              obtain ⟨t', k1, k2⟩ := K.out
              exact ⟨k, t', Nat.le_refl _, lt, rfl, k1, k2⟩
            have g39 : (m == 39) = false := by simpa using z39
            have Z39 := Lib.hid z39
            clear z39
            by_cases b1 : m < 30
            · have K := NC.out (fun c => by unfold colN; rw [if_neg (by omega), if_neg (by omega), if_neg Z39.out])
              go_wp2_with fail
              go_meet
              exact ⟨k, t, Nat.le_refl _, lt, rfl, K, hc3⟩
            by_cases b2 : m ≤ 37
            · have K := Lib.hid ((CN.out (256 + (m - 30)) (fun c => by unfold colN; rw [if_pos (by omega)]; omega)).out _ rfl)
              go_wp2_with fail
              go_meet
              obtain ⟨t', k1, k2⟩ := K.out
              exact ⟨k, t', Nat.le_refl _, lt, rfl, k1, k2⟩
            by_cases b3 : m < 90
            · have K := NC.out (fun c => by unfold colN; rw [if_neg (by omega), if_neg (by omega), if_neg Z39.out])
              go_wp2_with fail
              go_meet
              exact ⟨k, t, Nat.le_refl _, lt, rfl, K, hc3⟩
            by_cases b4 : m ≤ 97
            · have K := Lib.hid ((CN.out (256 + (m - 82)) (fun c => by unfold colN; rw [if_neg (by omega), if_pos (by omega)]; omega)).out _ rfl)
              go_wp2_with fail
              go_meet
              obtain ⟨t', k1, k2⟩ := K.out
              exact ⟨k, t', Nat.le_refl _, lt, rfl, k1, k2⟩
            · have K := NC.out (fun c => by unfold colN; rw [if_neg (by omega), if_neg (by omega), if_neg Z39.out])
              go_wp2_with fail
              go_meet
              exact ⟨k, t, Nat.le_refl _, lt, rfl, K, hc3⟩
          case rest =>
            obtain ⟨j, t', kj, jn, rfl, ht', hc'⟩ := hcut
            clear hc3 HR DR SC DL HM HFO ht
            go_wp2_with fail
            go_loopw [100] (fun s100 wx => ∃ q : Nat, q ≤ 8 ∧ s100 = .int .i64 q ∧ Hid (C3 wx w.heap.size (.int .i32 t'.fg) (.int .i32 t'.bg) (.int .u8 (bI (foldA m t'.at_ q))) ∧ C3 wx (w.heap.size + 1) (.int .i32 0) (.int .i32 0) (.int .u8 0) ∧ Below w.heap.size w wx)) (fun s100 _ => 8 - (intOf s100).toNat)
            case atStart => exact ⟨0, by omega, rfl, hc'⟩
            case round =>
              obtain ⟨q, q8, rfl, hq⟩ := hrel
              by_cases lq : q < 8
              · have EV := HE.out.of_below hq.out.2.2 (Nat.le_refl _)
                have o1 := EV.on q lq
                have o2 := EV.off q lq
                obtain ⟨a0, a1, a2, f0, f1, f2⟩ := hq.out.1
                have FS : Hid (foldA m t'.at_ (q + 1) = (if m = offN q then (if m = onN q then foldA m t'.at_ q ||| bitS q else foldA m t'.at_ q) &&& ~~~bitS q else (if m = onN q then foldA m t'.at_ q ||| bitS q else foldA m t'.at_ q))) := Lib.hid rfl
                have DF : onN q ≠ offN q := by
                  have hh : ∀ j : Fin 8, onN j.val ≠ offN j.val := by decide
                  exact hh ⟨q, lq⟩
                have sh : IntKind.u8.wrap ((2 : Int) ^ q) = bI (bitS q) := by
                  have hh : ∀ i : Fin 8, IntKind.u8.wrap ((2 : Int) ^ i.val) = bI (bitS i.val) := by decide
                  exact hh ⟨q, lq⟩
                have ne : w.heap.size + 1 ≠ w.heap.size := by omega
                have nz1 : 0 ≠ w.heap.size := by have := block_lt_of_cell (HE.out.on 0 (by decide)); simp only at this; omega
                have nz2 : 1 ≠ w.heap.size := by have := block_lt_of_cell (HE.out.off 0 (by decide)); simp only at this; omega
                obtain ⟨f1', hf1⟩ : ∃ f1', f1' = foldA m t'.at_ (q + 1) := ⟨_, rfl⟩
                rw [← hf1] at FS
                have HF1 := Lib.hid hf1
                clear hf1
                generalize onN q = on at *
                generalize offN q = of at *
                generalize bitS q = T at *
                obtain ⟨f0', hf0⟩ : ∃ f0', f0' = foldA m t'.at_ q := ⟨_, rfl⟩
                rw [← hf0] at FS hq a2
                clear hf0
                by_cases e1 : m = on
                · have g1 : (m == on) = true := by simpa using e1
                  have g2 : (m == of) = false := by rw [e1]; simpa using DF
                  have F1 : Hid (f1' = f0' ||| T) := Lib.hid (by rw [FS.out, if_neg (by rw [e1]; exact DF), if_pos e1])
                  clear e1 DF
                  go_upto_region 30 with fail
                  refine wp_region_draw_tail 6 (by kernel_rfl) (by kernel_rfl) ?_
                  simp only [List.take_succ_cons, List.take_zero, List.drop_succ_cons, List.drop_zero]
                  repeat (quiet_step (fail))
                  refine wpQuiet_nil ?_
                  intro _ hw'
                  obtain ⟨nq, hw''⟩ := hw'
                  subst hw''
                  go_wp2_with fail
                  go_roundw
                  case rel =>
                    first
                      | exact ⟨q + 1, by omega, by go_num, Lib.hid (by rw [← HF1.out, F1.out]; exact ⟨(hq.out.1.draw nq).set2 _, (hq.out.2.1.draw nq).far ne, (below_drewN hq.out.2.2 nq).setCell (Nat.le_refl _) _⟩)⟩
                      | ((repeat apply Exists.intro); exact ⟨⟨q + 1, by omega, by go_num, Lib.hid (by rw [← HF1.out, F1.out]; exact ⟨(hq.out.1.draw nq).set2 _, (hq.out.2.1.draw nq).far ne, (below_drewN hq.out.2.2 nq).setCell (Nat.le_refl _) _⟩)⟩, rfl⟩)
                  case measure => simp [intOf]; omega
                by_cases e2 : m = of
                · have g1 : (m == on) = false := by simpa using e1
                  have g2 : (m == of) = true := by simpa using e2
                  have F1 : Hid (f1' = f0' &&& ~~~T) := Lib.hid (by rw [FS.out, if_pos e2, if_neg e1])
                  clear e1 e2 DF
                  go_upto_region 32 with fail
                  refine wp_region_draw_tail 6 (by kernel_rfl) (by kernel_rfl) ?_
                  simp only [List.take_succ_cons, List.take_zero, List.drop_succ_cons, List.drop_zero]
                  repeat (quiet_step (fail))
                  refine wpQuiet_nil ?_
                  intro _ hw'
                  obtain ⟨nq, hw''⟩ := hw'
                  subst hw''
                  go_wp2_with fail
                  go_roundw
                  case rel =>
                    first
                      | exact ⟨q + 1, by omega, by go_num, Lib.hid (by rw [← HF1.out, F1.out]; exact ⟨(hq.out.1.draw nq).set2 _, (hq.out.2.1.draw nq).far ne, (below_drewN hq.out.2.2 nq).setCell (Nat.le_refl _) _⟩)⟩
                      | ((repeat apply Exists.intro); exact ⟨⟨q + 1, by omega, by go_num, Lib.hid (by rw [← HF1.out, F1.out]; exact ⟨(hq.out.1.draw nq).set2 _, (hq.out.2.1.draw nq).far ne, (below_drewN hq.out.2.2 nq).setCell (Nat.le_refl _) _⟩)⟩, rfl⟩)
                  case measure => simp [intOf]; omega
                · have g1 : (m == on) = false := by simpa using e1
                  have g2 : (m == of) = false := by simpa using e2
                  have F1 : Hid (f1' = f0') := Lib.hid (by rw [FS.out, if_neg e2, if_neg e1])
                  clear e1 e2 DF
                  go_wp2_with fail
                  go_roundw
                  case rel =>
                    first
                      | exact ⟨q + 1, by omega, by go_num, Lib.hid (by rw [← HF1.out, F1.out]; exact hq.out)⟩
                      | ((repeat apply Exists.intro); exact ⟨⟨q + 1, by omega, by go_num, Lib.hid (by rw [← HF1.out, F1.out]; exact hq.out)⟩, rfl⟩)
                  case measure => simp [intOf]; omega
              · have eq8 : q = 8 := by omega
                subst eq8
                rw [fold_attr] at hq
                go_wp2_with fail
                go_roundw
                case rel => first | exact ⟨j + 1, { t' with at_ := attrN t'.at_ m }, jn, by go_num, ht', hq⟩ | ((repeat apply Exists.intro); exact ⟨⟨j + 1, { t' with at_ := attrN t'.at_ m }, jn, by go_num, ht', hq⟩, rfl⟩)
                case measure => simp [intOf]; omega
    · have ek : k = n := by omega
      subst ek
      have TT : Hid (t = applyL s xs) := Lib.hid (by rw [AL.out, ← ht.out, HN.out, List.drop_length]; rfl)
      obtain ⟨h1, h2, h3⟩ := hc3.out
      have H3 := Lib.hid h3
      obtain ⟨a0, a1, a2, f0, f1, f2⟩ := h1
      obtain ⟨b0, b1, b2, g0, g1, g2⟩ := h2
      clear h3
      go_wp2_with fail
      refine bodyPost_ret (v := styV (applyL s xs).fg (applyL s xs).bg (applyL s xs).at_) (by rw [← TT.out]; simp [results, Tryz.results95, go_sem, b0, b1, b2]) rfl ⟨rfl, ?_⟩
      exact ((H3.out.setCell (Nat.le_succ _) _).setCell (Nat.le_succ _) _).setCell (Nat.le_succ _) _
end Go.Proofs.YtkllilehdpdbdaaGreatDoor
