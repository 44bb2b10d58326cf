/- DiffNew (the law's own helpers of it): the walk. -/
import Derived.Test.YtohgodifnbpafaaDoorDhW
import Derived.Test.YtohgodifnbpafaaDoorDhO
namespace Go.Proofs.YtohgodifnbpafaaDoor
open Go Go.RowKit Go.Sort
set_option linter.unusedVariables false
set_option linter.unusedSimpArgs false

theorem scr_val (t : SA) : scrV t.s t.A t.c = .agg #[.int .i64 t.s.w, .int .i64 t.s.h, .slice t.A t.s.cells.length t.c, .int .i64 t.s.x, .int .i64 t.s.y, .bool t.s.shown] := rfl
theorem ScrD.below {w w' : World} {t : SA} (h : ScrD w t) (hb : Below w.heap.size w w') : ScrD w' t := ⟨h.nil, h.cap, h.sz, (h.sees.below hb (Nat.le_refl _)).more hb.size, h.ok⟩
/-- screens that were laid into a new block -/
theorem news_scrs (w : World) (L : List SA) (T : TypeId) : Sees (w.alloc (.cells (scrsV L).toArray T)) (w.alloc (.cells (scrsV L).toArray T)).heap.size (some ⟨w.heap.size, 0, none⟩) (scrsV L) :=
  fun _ => ⟨_, rfl, by simp, newsL w (scrsV L) T⟩
theorem beyond_pre {w : World} {L : List SA} (h : ∀ t ∈ L, ScrD w t) : ∀ t ∈ L, Sees w w.heap.size t.A (celsV t.s.cells) ∧ t.s.cells.length ≤ 10000000000000 ∧ ∀ x ∈ t.s.cells, x.text.size ≤ 140737488351232 := by
  intro t ht
  have q := h t ht
  exact ⟨q.sees, by have := q.cap; have := q.sz; omega, fun x hx => (q.ok x hx).1⟩
theorem bulk_cell {L : List Cel} {x : Cel} (h : x ∈ L) : 1 + x.text.size ≤ bulk L := by
  induction L with
  | nil => cases h
  | cons a L ih =>
    have e : bulk (a :: L) = 1 + a.text.size + bulk L := by simp [bulk]
    rcases List.mem_cons.1 h with rfl | h
    · omega
    · have := ih h; omega
/-- within the bound a screen may be handed on -/
theorem ScrD.at {w : World} {t : SA} (h : ScrD w t) (hb : bulk t.s.cells ≤ 134217728) : ScrAt w w.heap.size t.s t.A t.c ∧ totS t.s.cells ≤ 1000000000 := by
  have e := bulk_tot t.s.cells
  refine ⟨⟨h.cap, h.nil, by omega, fun x hx => ?_, h.sees⟩, by unfold totS; omega⟩
  have := bulk_cell hx
  exact ⟨by omega, (h.ok x hx).2⟩

set_option maxHeartbeats 16000000 in
set_option maxRecDepth 100000 in
theorem diffNew_walk (d : Int) (t : SA) (w : World) (E : EnvD w) (hs : ScrD w t) : Calls Tryd.prog 5 #[.int .i64 d, .agg #[.int .i64 t.s.w, .int .i64 t.s.h, .slice t.A t.s.cells.length t.c, .int .i64 t.s.x, .int .i64 t.s.y, .bool t.s.shown]] w fun e w' => e = .returned (.bool true) ∧ Below w.heap.size w w' := by
  obtain ⟨Q, hQ⟩ : ∃ Q, Q = (w.alloc (.cells #[.int .i64 t.s.w, .int .i64 t.s.h, .slice t.A t.s.cells.length t.c, .int .i64 t.s.x, .int .i64 t.s.y, .bool t.s.shown] 25)).alloc (.cells #[.int .i64 t.s.w, .int .i64 t.s.h, .slice t.A t.s.cells.length t.c, .int .i64 t.s.x, .int .i64 t.s.y, .bool t.s.shown] 25) := ⟨_, rfl⟩
  have BQ : Below w.heap.size w Q := by rw [hQ]; exact ((Below.refl _ w).alloc (Nat.le_refl _) _).alloc (by simp) _
  have KS : Blk Q w.heap.size [.int .i64 t.s.w, .int .i64 t.s.h, .slice t.A t.s.cells.length t.c, .int .i64 t.s.x, .int .i64 t.s.y, .bool t.s.shown] := by
    rw [hQ]
    exact (Blk.new w [.int .i64 t.s.w, .int .i64 t.s.h, .slice t.A t.s.cells.length t.c, .int .i64 t.s.x, .int .i64 t.s.y, .bool t.s.shown] 25).alloc _
  have BY := law_beyond [t] (some ⟨w.heap.size + 1, 0, none⟩) 1 Q (by
    have := news_scrs (w.alloc (.cells #[.int .i64 t.s.w, .int .i64 t.s.h, .slice t.A t.s.cells.length t.c, .int .i64 t.s.x, .int .i64 t.s.y, .bool t.s.shown] 25)) [t] 25
    rw [hQ]
    simpa [scrsV, scrC] using this) (by show 1 ≤ _; omega) (beyond_pre (fun u hu => by rw [List.mem_singleton] at hu; rw [hu]; exact hs.below BQ))
  have KSH := Lib.hid KS
  have E := Lib.hid (E.of_below BQ (Nat.le_refl _))
  have HB := Lib.hid BQ
  have QS : Q.heap.size = w.heap.size + 2 := by rw [hQ]; simp
  have QSH := Lib.hid QS
  generalize hG : decide (134217728 < total [t]) = G at *
  have BY := Lib.hid BY
  have FN := Lib.hid (fun W => d_Frame_nil t.s t.A t.c W)
  simp only [scr_val] at FN
  generalize t.s.cells.length = N at *
  clear hG hs KS BQ QS
  go_enter Tryd.func5, Tryd.ntmps5
  go_wp2_with fail
  rw [← hQ]
  clear hQ
  refine BY.out.mono ?_; rintro e w1 ⟨rfl, rfl⟩
  cases G with
  | true =>
    go_wp2_with fail
    go_ret
    exact ⟨rfl, HB.out⟩
  | false =>
    have s0 := KSH.out.c 0 _ rfl
    have s1 := KSH.out.c 1 _ rfl
    have s2 := KSH.out.c 2 _ rfl
    have s3 := KSH.out.c 3 _ rfl
    have s4 := KSH.out.c 4 _ rfl
    have s5 := KSH.out.c 5 _ rfl
    cases hd : okD d with
    | false =>
      have ND := Lib.hid (d_New_no d hd)
      have mayF : (0 ≤ d → 3 < d) := by
        unfold okD at hd
        simp only [Bool.and_eq_false_iff, decide_eq_false_iff_not] at hd
        omega
      clear hd
      go_wp2_with fail
      refine (ND.out _).mono ?_; rintro e w1 ⟨rfl, rfl⟩
      by_cases d0 : 0 ≤ d
      · have d3 := mayF d0
        have d4 : decide (d ≤ 3) = false := decide_eq_false (by omega)
        clear mayF
        go_wp2_with fail
        refine (d_Reset_nil _).mono ?_; rintro e w1 ⟨⟨v, rfl⟩, rfl⟩
        go_wp2_with fail
        refine (FN.out _).mono ?_; rintro e w1 ⟨rfl, hb1⟩
        have HB1 := Lib.hid (HB.out.trans (hb1.mono HB.out.size))
        have WK := Lib.hid (law_wakes w1 (E.out.of_below hb1 (Nat.le_refl _)))
        clear hb1
        go_wp2_with fail
        refine WK.out.mono ?_; rintro e w2 ⟨rfl, hb2⟩
        have HB2 := Lib.hid (HB1.out.trans (hb2.mono HB1.out.size))
        clear hb2
        go_wp2_with fail
        go_ret
        exact ⟨rfl, HB2.out⟩
      · have d1 : d < 0 := by omega
        clear mayF
        go_wp2_with fail
        refine (d_Reset_nil _).mono ?_; rintro e w1 ⟨⟨v, rfl⟩, rfl⟩
        go_wp2_with fail
        refine (FN.out _).mono ?_; rintro e w1 ⟨rfl, hb1⟩
        have HB1 := Lib.hid (HB.out.trans (hb1.mono HB.out.size))
        have WK := Lib.hid (law_wakes w1 (E.out.of_below hb1 (Nat.le_refl _)))
        clear hb1
        go_wp2_with fail
        refine WK.out.mono ?_; rintro e w2 ⟨rfl, hb2⟩
        have HB2 := Lib.hid (HB1.out.trans (hb2.mono HB1.out.size))
        clear hb2
        go_wp2_with fail
        go_ret
        exact ⟨rfl, HB2.out⟩
    | true =>
      have ND := Lib.hid (d_New d hd Q)
      have mayT : 0 ≤ d ∧ d ≤ 3 := by
        unfold okD at hd
        simp only [Bool.and_eq_true, decide_eq_true_eq] at hd
        exact hd
      obtain ⟨d0, d3⟩ := mayT
      clear hd
      go_wp2_with fail
      refine ND.out.mono ?_; rintro e w1 ⟨rfl, h1⟩
      have HB1 : Below Q.heap.size Q w1 := by rw [h1]; exact (Below.refl _ _).alloc (Nat.le_refl _) _
      have E := Lib.hid (E.out.of_below HB1 (Nat.le_refl _))
      have K1 := KSH.out.keep HB1 KSH.out.lt
      have s0 := K1.c 0 _ rfl
      have s1 := K1.c 1 _ rfl
      have s2 := K1.c 2 _ rfl
      have s3 := K1.c 3 _ rfl
      have s4 := K1.c 4 _ rfl
      have s5 := K1.c 5 _ rfl
      have HB := Lib.hid (HB.out.trans (HB1.mono HB.out.size))
      clear h1 HB1 K1 ND
      go_wp2_with fail
      refine (d_Reset_nil _).mono ?_; rintro e w2 ⟨⟨v, rfl⟩, rfl⟩
      go_wp2_with fail
      refine (FN.out _).mono ?_; rintro e w2 ⟨rfl, hb1⟩
      have HB1 := Lib.hid (HB.out.trans (hb1.mono HB.out.size))
      have WK := Lib.hid (law_wakes w2 (E.out.of_below hb1 (Nat.le_refl _)))
      clear hb1
      go_wp2_with fail
      refine WK.out.mono ?_; rintro e w3 ⟨rfl, hb2⟩
      have HB2 := Lib.hid (HB1.out.trans (hb2.mono HB1.out.size))
      clear hb2
      go_wp2_with fail
      go_ret
      exact ⟨rfl, HB2.out⟩
end Go.Proofs.YtohgodifnbpafaaDoor
