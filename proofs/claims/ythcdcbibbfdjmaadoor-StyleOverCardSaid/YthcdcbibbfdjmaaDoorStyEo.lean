/- Patches laid over a style, the reference: the walk of Over. -/
import Derived.Test.YthcdcbibbfdjmaaDoorStyQr
import Derived.Test.YthcdcbibbfdjmaaDoorStyE
namespace Go.Proofs.YthcdcbibbfdjmaaDoor
open Go.RowKit Go.Sort
set_option linter.unusedVariables false

set_option maxHeartbeats 4000000 in
set_option maxRecDepth 100000 in
theorem ref_Over (s : Sty) (A : Option Addr) (c : Nat) (ps : List Pat) (w : World) (hf : col32 s.fg) (hb : col32 s.bg) (hp : ∀ p ∈ ps, col32 p.fg ∧ col32 p.bg) (hS : SeesP w w.heap.size A ps) (hn : ps.length ≤ 100000000000000) :
    Calls Tryd.prog 27 #[styV s.fg s.bg s.at_, .slice A ps.length c] w fun e w' => e = .returned (styV (overL s ps).fg (overL s ps).bg (overL s ps).at_) ∧ Below w.heap.size w w' := by
  have C0 := Lib.hid (ref_Counts s.fg s.bg s.at_ hf hb)
  have HP := Lib.hid hp
  obtain ⟨n, hnn⟩ : ∃ n, n = ps.length := ⟨_, rfl⟩
  have HN := Lib.hid hnn
  rw [← hnn] at hn ⊢
  have HS := Lib.hid hS
  clear hS hnn hf hb hp
  go_enter Tryd.func27, Tryd.ntmps27
  go_wp2_with fail
  refine (C0.out _).mono ?_; rintro e w1 ⟨rfl, hb1⟩
  have q2 : C3 w1 (w.heap.size + 1) (.int .i32 0) (.int .i32 0) (.int .u8 0) := C3.keep (by constructor <;> simp [go_sem]) hb1 (by simp)
  have hB1 : Below w.heap.size w w1 := below_call (by go_grown) (by simp; omega) hb1
  have l2 := q2.lt
  have W0 : Hid (w.heap.size ≤ w1.heap.size) := Lib.hid (by omega)
  have Q2 := Lib.hid (q2.alloc (.cells #[.int .i32 (plC s.fg), .int .i32 (plC s.bg), .int .u8 (bI s.at_)] 24))
  have HB := Lib.hid (hB1.alloc (by omega) (.cells #[.int .i32 (plC s.fg), .int .i32 (plC s.bg), .int .u8 (bI s.at_)] 24))
  have Q1 : Hid (C3 (w1.alloc (.cells #[.int .i32 (plC s.fg), .int .i32 (plC s.bg), .int .u8 (bI s.at_)] 24)) w1.heap.size (.int .i32 (plC s.fg)) (.int .i32 (plC s.bg)) (.int .u8 (bI s.at_))) := Lib.hid (by constructor <;> simp [go_sem])
  obtain ⟨b1, hb1'⟩ : ∃ b1, b1 = w1.heap.size := ⟨_, rfl⟩
  rw [← hb1'] at Q1 W0 l2
  clear hb1 hB1 q2
  go_upto_region 2 with fail
  rw [← hb1']
  clear hb1'
  go_wp2_with fail
  go_loopw [6] (fun i wr => ∃ (k : Nat) (t : Sty), k ≤ n ∧ i = .int .i64 k ∧ Hid (t = (ps.take k).foldl over1 (countS s)) ∧ Hid (C3 wr b1 (.int .i32 t.fg) (.int .i32 t.bg) (.int .u8 (bI t.at_)) ∧ C3 wr (w.heap.size + 1) (.int .i32 0) (.int .i32 0) (.int .u8 0) ∧ Below w.heap.size w wr)) (fun i _ => n - (intOf i).toNat)
  case atStart => exact ⟨0, countS s, by omega, rfl, Lib.hid rfl, Lib.hid ⟨Q1.out, Q2.out, HB.out⟩⟩
  case round =>
    obtain ⟨k, t, hk, rfl, ht, hc⟩ := hrel
    by_cases lt : k < n
    · have kl : k < ps.length := by have := HN.out; omega
      obtain ⟨ad, rfl, hab, hcell⟩ := HS.out (fun e => by rw [e] at kl; cases kl)
      have hc1 := hcell k _ (List.getElem?_eq_getElem kl)
      obtain ⟨p, hp0⟩ : ∃ p, p = ps[k] := ⟨_, rfl⟩
      rw [← hp0] at hc1
      have pm : p ∈ ps := by rw [hp0]; exact List.getElem_mem _
      have TP := Lib.hid (ref_Told p.fg p.bg p.add p.drop (HP.out p pm).1 (HP.out p pm).2)
      obtain ⟨h1, h2, h3⟩ := hc.out
      have cell : ∀ i u, (patL p)[i]? = some u → wr.cell? (ad.add (k * 4 + i)) = some u := fun i u hu => (h3.cell (p := ad.add (k * 4 + i)) (by rw [add_blk]; exact hab)).trans (hc1 i u hu)
      have z0 : wr.cell? (ad.add (k * 4)) = some (.int .i32 p.fg) := cell 0 _ rfl
      have z1 : wr.cell? ⟨(ad.add (k * 4)).block, (ad.add (k * 4)).off + 1, none⟩ = some (.int .i32 p.bg) := by rw [add_lit _ 1 (by decide), add_plus]; exact cell 1 _ rfl
      have z2 : wr.cell? ⟨(ad.add (k * 4)).block, (ad.add (k * 4)).off + 2, none⟩ = some (.int .u8 (bI p.add)) := by rw [add_lit _ 2 (by decide), add_plus]; exact cell 2 _ rfl
      have z3 : wr.cell? ⟨(ad.add (k * 4)).block, (ad.add (k * 4)).off + 3, none⟩ = some (.int .u8 (bI p.drop)) := by rw [add_lit _ 3 (by decide), add_plus]; exact cell 3 _ rfl
      have NT : Hid (over1 t p = (ps.take (k + 1)).foldl over1 (countS s)) := Lib.hid (by
        rw [List.take_succ_eq_append_getElem kl, List.foldl_append, ← ht.out, hp0]; rfl)
      have F1 := Lib.hid (ref_laid t.fg (cnt p.fg))
      have F2 := Lib.hid (ref_laid t.bg (cnt p.bg))
      have NV : Hid (over1 t p = ⟨layC t.fg (cnt p.fg), layC t.bg (cnt p.bg), (t.at_ &&& ~~~(p.drop &&& ~~~p.add)) ||| p.add⟩) := Lib.hid (by
        unfold over1
        rw [b8_over])
      generalize over1 t p = t' at *
      generalize layC t.fg (cnt p.fg) = X1 at *
      generalize layC t.bg (cnt p.bg) = X2 at *
      clear h1 h2 h3 cell hc1 hcell hp0 pm
      go_wp2_with fail
      refine (TP.out _).mono ?_; rintro e' w3 ⟨rfl, hb3⟩
      have K0 := Lib.hid (hc.out.1.keep hb3 hc.out.1.lt)
      have K1 := Lib.hid (hc.out.2.1.keep hb3 hc.out.2.1.lt)
      have K2 := Lib.hid (below_call hc.out.2.2 hc.out.2.2.size hb3)
      have KL : b1 < w3.heap.size := K0.out.lt
      obtain ⟨a0, a1, a2, f0, f1, f2⟩ := K0.out
      clear hb3 z0 z1 z2 z3
      have ne : w.heap.size + 1 ≠ b1 := by omega
      go_wp2_with fail
      refine (F1.out _).mono ?_; rintro e' w' ⟨rfl, rfl⟩
      go_wp2_with fail
      refine (F2.out _).mono ?_; rintro e' w' ⟨rfl, rfl⟩
      go_wp2_with fail
      go_roundw
      case rel =>
        refine ⟨k + 1, t', by omega, by go_num, NT, Lib.hid ⟨?_, ?_, ?_⟩⟩
        · rw [NV.out]
          first | with_reducible exact (((K0.out.alloc _).set0 _).set1 _).set2 _ | with_reducible exact (((K0.out.set0 _).set1 _).set2 _).alloc _
        · first | with_reducible exact (((K1.out.alloc _).far ne).far ne).far ne | with_reducible exact (((K1.out.far ne).far ne).far ne).alloc _
        · first | with_reducible exact below_put3 (K2.out.alloc (by have := W0.out; omega) _) W0.out _ _ _ | exact (below_put3 K2.out W0.out _ _ _).alloc (by have := W0.out; simp; omega) _
      case measure => simp [intOf]; omega
    · have ek : k = n := by omega
      subst ek
      have TT : Hid (t = overL s ps) := Lib.hid (by rw [ht.out, HN.out, List.take_length]; rfl)
      obtain ⟨h1, h2, h3⟩ := hc.out
      have H3 := Lib.hid h3
      obtain ⟨a0, a1, a2, f0, f1, f2⟩ := h1
      obtain ⟨b0, b1', b2, g0, g1, g2⟩ := h2
      clear h3
      go_wp2_with fail
      refine bodyPost_ret (v := styV (overL s ps).fg (overL s ps).bg (overL s ps).at_) (by rw [← TT.out]; simp [results, Tryd.results27, go_sem, b0, b1', b2]) rfl ⟨rfl, ?_⟩
      exact below_put3 H3.out (Nat.le_succ _) _ _ _
end Go.Proofs.YthcdcbibbfdjmaaDoor
