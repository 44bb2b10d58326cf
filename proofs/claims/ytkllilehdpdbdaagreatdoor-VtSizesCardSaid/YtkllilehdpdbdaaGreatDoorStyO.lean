/- Patches laid over a style: the walks of both sides. -/
import Derived.Test.YtkllilehdpdbdaaGreatDoorStyC
import Derived.Test.YtkllilehdpdbdaaGreatDoorGen
import Derived.Test.YtkllilehdpdbdaaGreatDoorMem
import Derived.Deep.Slices
namespace Go.Proofs.YtkllilehdpdbdaaGreatDoor
open Go.RowKit Go.Sort
set_option linter.unusedVariables false

theorem add_plus (a : Addr) (m n : Nat) : (a.add m).add n = a.add (m + n) := Go.Deep.add_add a m n

theorem add_lit (a : Addr) (n : Nat) (h : n ≠ 0) : (⟨a.block, a.off + n, none⟩ : Addr) = a.add n := by unfold Addr.add; rw [if_neg h]

def patL (p : Pat) : List Value := [.int .i32 p.fg, .int .i32 p.bg, .int .u8 (bI p.add), .int .u8 (bI p.drop)]
/-- a slice of patches at A shows ps, in blocks below B -/
def SeesP (w : World) (B : Nat) (A : Option Addr) (ps : List Pat) : Prop :=
  ps ≠ [] → ∃ ad, A = some ad ∧ ad.block < B ∧ ∀ j p, ps[j]? = some p → ∀ i u, (patL p)[i]? = some u → w.cell? (ad.add (j * 4 + i)) = some u

set_option maxHeartbeats 4000000 in
set_option maxRecDepth 100000 in
theorem st_Over (s : Sty) (A : Option Addr) (c : Nat) (ps : List Pat) (w : World) (hS : SeesP w w.heap.size A ps) (hn : ps.length ≤ 100000000000000) :
    Calls Tryz.prog 87 #[styV s.fg s.bg s.at_, .slice A ps.length c] w fun e w' => e = .returned (styV (overL s ps).fg (overL s ps).bg (overL s ps).at_) ∧ Below w.heap.size w w' := by
  obtain ⟨n, hnn⟩ : ∃ n, n = ps.length := ⟨_, rfl⟩
  have HN := Lib.hid hnn
  rw [← hnn] at hn ⊢
  have HS := Lib.hid hS
  clear hS hnn
  go_enter Tryz.func87, Tryz.ntmps87
  go_wp2_with fail
  refine (st_counts _ _ _ _).mono ?_; rintro e w1 ⟨rfl, hb1⟩
  have q1 : C3 w1 w.heap.size (.int .i32 s.fg) (.int .i32 s.bg) (.int .u8 (bI s.at_)) := C3.keep (by constructor <;> simp [go_sem]) hb1 (by simp; omega)
  have q2 : C3 w1 (w.heap.size + 1) (.int .i32 0) (.int .i32 0) (.int .u8 0) := C3.keep (by constructor <;> simp [go_sem]) hb1 (by simp)
  have hB1 : Below w.heap.size w w1 := below_call (by go_grown) (by simp; omega) hb1
  clear hb1
  have q1' := q1.put (.int .i32 (plC s.fg)) (.int .i32 (plC s.bg)) (.int .u8 (bI s.at_))
  have q2' := ((q2.far (b' := w.heap.size) (o := 0) (y := .int .i32 (plC s.fg)) (by omega)).far (b' := w.heap.size) (o := 1) (y := .int .i32 (plC s.bg)) (by omega)).far (b' := w.heap.size) (o := 2) (y := .int .u8 (bI s.at_)) (by omega)
  have hB1' : Below w.heap.size w (((w1.setCell ⟨w.heap.size, 0, none⟩ (.int .i32 (plC s.fg))).setCell ⟨w.heap.size, 1, none⟩ (.int .i32 (plC s.bg))).setCell ⟨w.heap.size, 2, none⟩ (.int .u8 (bI s.at_))) := ((hB1.setCell (Nat.le_refl _) _).setCell (Nat.le_refl _) _).setCell (Nat.le_refl _) _
  have Q1 := Lib.hid q1'
  have Q2 := Lib.hid q2'
  have HB := Lib.hid hB1'
  obtain ⟨a0, a1, a2, f0, f1, f2⟩ := q1
  clear q2 q1' q2' hB1 hB1'
  go_wp2_with fail
  go_loopw [13] (fun i wr => ∃ (k : Nat) (t : Sty), k ≤ n ∧ i = .int .i64 k ∧ Hid (t = (ps.take k).foldl over1 (countS s)) ∧ Hid (C3 wr w.heap.size (.int .i32 t.fg) (.int .i32 t.bg) (.int .u8 (bI t.at_)) ∧ C3 wr (w.heap.size + 1) (.int .i32 0) (.int .i32 0) (.int .u8 0) ∧ Below w.heap.size w wr)) (fun i _ => n - (intOf i).toNat)
  case atStart => exact ⟨0, countS s, by omega, rfl, Lib.hid rfl, Lib.hid ⟨Q1.out, Q2.out, HB.out⟩⟩
  case round =>
    obtain ⟨k, t, hk, rfl, ht, hc⟩ := hrel
    by_cases lt : k < n
    · have kl : k < ps.length := by have := HN.out; omega
      obtain ⟨ad, rfl, hab, hcell⟩ := HS.out (fun e => by rw [e] at kl; cases kl)
      have hc1 := hcell k _ (List.getElem?_eq_getElem kl)
      obtain ⟨p, hp0⟩ : ∃ p, p = ps[k] := ⟨_, rfl⟩
      rw [← hp0] at hc1
      obtain ⟨h1, h2, h3⟩ := hc.out
      have cell : ∀ i u, (patL p)[i]? = some u → wr.cell? (ad.add (k * 4 + i)) = some u := fun i u hu => (h3.cell (p := ad.add (k * 4 + i)) (by rw [add_blk]; exact hab)).trans (hc1 i u hu)
      have z0 : wr.cell? (ad.add (k * 4)) = some (.int .i32 p.fg) := cell 0 _ rfl
      have z1 : wr.cell? ⟨(ad.add (k * 4)).block, (ad.add (k * 4)).off + 1, none⟩ = some (.int .i32 p.bg) := by rw [add_lit _ 1 (by decide), add_plus]; exact cell 1 _ rfl
      have z2 : wr.cell? ⟨(ad.add (k * 4)).block, (ad.add (k * 4)).off + 2, none⟩ = some (.int .u8 (bI p.add)) := by rw [add_lit _ 2 (by decide), add_plus]; exact cell 2 _ rfl
      have z3 : wr.cell? ⟨(ad.add (k * 4)).block, (ad.add (k * 4)).off + 3, none⟩ = some (.int .u8 (bI p.drop)) := by rw [add_lit _ 3 (by decide), add_plus]; exact cell 3 _ rfl
      have l0 := h1.lt
      have T1 : Hid (t.at_ &&& ~~~p.drop ||| p.add = (over1 t p).at_) := Lib.hid rfl
      have F1 : Hid ((over1 t p).fg = if cnt p.fg = 0 then t.fg else plC (cnt p.fg)) := Lib.hid (by
        show layC t.fg (cnt p.fg) = _
        rw [plC_cnt]; unfold layC; split <;> rfl)
      have F2 : Hid ((over1 t p).bg = if cnt p.bg = 0 then t.bg else plC (cnt p.bg)) := Lib.hid (by
        show layC t.bg (cnt p.bg) = _
        rw [plC_cnt]; unfold layC; split <;> rfl)
      have NT : Hid (over1 t p = (ps.take (k + 1)).foldl over1 (countS s)) := Lib.hid (by
        rw [List.take_succ_eq_append_getElem kl, List.foldl_append, ← ht.out, hp0]; rfl)
      obtain ⟨a0, a1, a2, f0, f1, f2⟩ := h1
      clear h2 h3 cell hc1 hcell hp0
      by_cases c1 : cnt p.fg = 0
      all_goals by_cases c2 : cnt p.bg = 0
      all_goals
        have F1 := F1.out
        have F2 := F2.out
        first | rw [if_pos c1] at F1 | rw [if_neg c1] at F1
        first | rw [if_pos c2] at F2 | rw [if_neg c2] at F2
        have F1 := Lib.hid F1
        have F2 := Lib.hid F2
        first | (have g1 : (cnt p.fg != 0) = true := by rw [bne_iff_ne]; exact c1) | (have g1 : (cnt p.fg != 0) = false := by rw [c1]; rfl)
        first | (have g2 : (cnt p.bg != 0) = true := by rw [bne_iff_ne]; exact c2) | (have g2 : (cnt p.bg != 0) = false := by rw [c2]; rfl)
        clear c1 c2
        go_wp2_with (first | (go_at_call 114; refine (st_said _ _).mono ?_; rintro e w' ⟨rfl, rfl⟩) | (go_at_call 115; refine (st_plain _ _).mono ?_; rintro e w' ⟨rfl, rfl⟩))
        go_roundw
        case rel =>
          refine ⟨k + 1, over1 t p, by omega, by go_num, NT, ?_⟩
          have ne : w.heap.size + 1 ≠ w.heap.size := by omega
          have K := hc.out.1
          have K2 := hc.out.2.1
          have K3 := hc.out.2.2
          refine Lib.hid ⟨?_, ?_, ?_⟩
          · rw [F1.out, F2.out, ← T1.out]
            first | with_reducible exact ((K.set2 _).set2 _).alloc _ | with_reducible exact (((K.set2 _).set2 _).set1 _).alloc _ | with_reducible exact (((K.set2 _).set2 _).set0 _).alloc _ | with_reducible exact ((((K.set2 _).set2 _).set0 _).set1 _).alloc _
          · first | with_reducible exact ((K2.far ne).far ne).alloc _ | with_reducible exact (((K2.far ne).far ne).far ne).alloc _ | with_reducible exact ((((K2.far ne).far ne).far ne).far ne).alloc _
          · refine Below.alloc ?_ (by simp; omega) _
            first | with_reducible exact (K3.setCell (Nat.le_refl _) _).setCell (Nat.le_refl _) _ | with_reducible exact ((K3.setCell (Nat.le_refl _) _).setCell (Nat.le_refl _) _).setCell (Nat.le_refl _) _ | with_reducible exact (((K3.setCell (Nat.le_refl _) _).setCell (Nat.le_refl _) _).setCell (Nat.le_refl _) _).setCell (Nat.le_refl _) _
        case measure => simp [intOf]; omega
    · have ek : k = n := by omega
      subst ek
      have TT : Hid (t = overL s ps) := Lib.hid (by rw [ht.out, HN.out, List.take_length]; rfl)
      obtain ⟨h1, h2, h3⟩ := hc.out
      have H3 := Lib.hid h3
      obtain ⟨a0, a1, a2, f0, f1, f2⟩ := h1
      obtain ⟨b0, b1, b2, g0, g1, g2⟩ := h2
      clear h3
      go_wp2_with fail
      refine bodyPost_ret (v := styV (overL s ps).fg (overL s ps).bg (overL s ps).at_) (by rw [← TT.out]; simp [results, Tryz.results87, go_sem, b0, b1, b2]) rfl ⟨rfl, ?_⟩
      exact ((H3.out.setCell (Nat.le_succ _) _).setCell (Nat.le_succ _) _).setCell (Nat.le_succ _) _
end Go.Proofs.YtkllilehdpdbdaaGreatDoor
