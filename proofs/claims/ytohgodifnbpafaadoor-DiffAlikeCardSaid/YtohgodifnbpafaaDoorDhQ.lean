/- DiffAlike: the walk. -/
import Derived.Test.YtohgodifnbpafaaDoorDhN
import Derived.Test.YtohgodifnbpafaaDoorDhS
namespace Go.Proofs.YtohgodifnbpafaaDoor
open Go Go.RowKit Go.Sort
set_option linter.unusedVariables false
set_option linter.unusedSimpArgs false

theorem scrs_app1 (a : SA) (L : List SA) : scrsV (a :: L) = scrC a ++ scrsV L := scrsV_cons a L
/-- a screen that was made: its own cells -/
theorem ScrAt.of_own {w : World} {s : Scr} {g n base : Nat} (hn : n = s.cells.length) (hl : s.cells.length ≤ 1000000000000) (ho : ∀ x ∈ s.cells, okC x) (h : w.ownsRow base 60 5 (.slice (some ⟨g, 0, none⟩) n n) n (celsV s.cells)) : ScrAt w w.heap.size s (some ⟨g, 0, none⟩) n :=
  ⟨by omega, (fun e => by cases e), hl, ho, (TRow.of_own h).sees⟩
theorem okC_red {s : Scr} {d : Int} (h : ∀ x ∈ s.cells, okC x) : ∀ x ∈ (redS s d).cells, okC x := by
  intro x hx
  obtain ⟨y, hy, rfl⟩ := List.mem_map.1 hx
  exact h y hy
theorem red_len (s : Scr) (d : Int) : (redS s d).cells.length = s.cells.length := by simp [redS, redL]
theorem scr_red (s : Scr) (d : Int) (A : Option Addr) (c : Nat) : scrV (redS s d) A c = .agg #[.int .i64 s.w, .int .i64 s.h, .slice A s.cells.length c, .int .i64 s.x, .int .i64 s.y, .bool s.shown] := by
  unfold scrV
  rw [red_len]
  rfl
theorem row_rd {s : Scr} (h : rightS s = true) : redL s.cells 3 = s.cells := red_full _ _ (by omega) (right_row h)
/-- a call of Reduced, right or not -/
def RedRet (s : Scr) (d : Int) (w : World) (e : Ending) (w' : World) : Prop := ∃ g, e = .returned (.tuple #[.agg #[.int .i64 s.w, .int .i64 s.h, .slice (some ⟨g, 0, none⟩) s.cells.length s.cells.length, .int .i64 s.x, .int .i64 s.y, .bool s.shown], .int .i64 0]) ∧ ScrAt w' w'.heap.size (redS s d) (some ⟨g, 0, none⟩) s.cells.length ∧ Below w.heap.size w w'
theorem d_RedAt (s : Scr) (d : Int) (A : Option Addr) (c : Nat) (w : World) (h : ScrAt w w.heap.size s A c) (hr : rightS s = true) : Calls Tryd.prog 9 #[scrV s A c, .int .i64 d] w (RedRet s d w) := by
  refine (d_Reduced s d A c h.cap h.nil h.len h.ok hr w h.sees).mono ?_
  rintro e w' ⟨g, rfl, ho, hb⟩
  refine ⟨g, by rw [scr_red], ScrAt.of_own (red_len s d).symm (by rw [red_len]; exact h.len) (okC_red h.ok) ho, hb⟩

theorem chg_nil_iff (l : List Cel) (h : rowR l = true) (k : List Cel) (e : k.length = l.length) : chgL (diffU 0 k l) = [] ↔ k = l := by
  constructor
  · intro z
    refine diffU_none l h 0 k e ?_
    cases hd : diffU 0 k l with
    | nil => rfl
    | cons p r =>
      exfalso
      have q := (diffU_room l h 0 k l e rfl).2.2 p (by rw [hd]; simp)
      rw [hd] at z
      unfold chgL at z
      rw [List.flatMap_cons, List.append_eq_nil_iff] at z
      have := congrArg List.length z.1
      simp at this
      omega
  · rintro rfl
    rw [diffU_same k h]
    rfl
theorem changed_same (s : Scr) (h : rightS s = true) : changedC s s = 0 ∧ changedL s s = [] := by
  have e : changedC s s = 0 := by unfold changedC; simp [h]
  refine ⟨e, ?_⟩
  unfold changedL
  rw [if_pos e, diffU_same _ (right_row h)]
  rfl
theorem changed_bad (a b : Scr) (ha : rightS a = true) (hb : rightS b = false) : changedC a b = 180 ∧ changedL a b = [] := by
  have e : changedC a b = 180 := by unfold changedC; simp [hb]
  exact ⟨e, by unfold changedL; rw [e]; rfl⟩
theorem changed_size (a b : Scr) (ha : rightS a = true) (hb : rightS b = true) (h : a.w ≠ b.w ∨ a.h ≠ b.h) : changedC a b = 5 ∧ changedL a b = [] := by
  have e : changedC a b = 5 := by unfold changedC; rw [ha, hb]; simp [h]
  exact ⟨e, by unfold changedL; rw [e]; rfl⟩
theorem changed_ok (a b : Scr) (ha : rightS a = true) (hb : rightS b = true) (hw : a.w = b.w) (hh : a.h = b.h) : changedC a b = 0 ∧ changedL a b = chgL (diffU 0 a.cells b.cells) ∧ a.cells.length = b.cells.length := by
  have e : changedC a b = 0 := by unfold changedC; rw [ha, hb]; simp [hw, hh]
  have h1 := (right_parts ha).2.1
  have h2 := (right_parts hb).2.1
  rw [hw, hh] at h1
  exact ⟨e, by unfold changedL; rw [if_pos e], by omega⟩
/-- what a call of Changed leaves -/
def ChgRet (a b : Scr) (w : World) (e : Ending) (w' : World) : Prop := ∃ A c, e = .returned (.tuple #[.slice A (changedL a b).length c, .int .i64 (changedC a b)]) ∧ Sees w' w'.heap.size A (ints (changedL a b)) ∧ Below w.heap.size w w'
theorem d_ChgAt (a b : Scr) (A1 A2 : Option Addr) (c1 c2 : Nat) (w : World) (ha : ScrAt w w.heap.size a A1 c1) (hb : ScrAt w w.heap.size b A2 c2) : Calls Tryd.prog 11 #[scrV a A1 c1, scrV b A2 c2] w (ChgRet a b w) := by
  refine (d_Changed a b A1 A2 c1 c2 w ha hb).mono ?_
  rintro e w' ⟨v, rfl, ho, hb⟩
  obtain ⟨A, c, rfl⟩ := own_slice' ho
  exact ⟨A, c, rfl, Sees.of_own ho, hb⟩

theorem d_RedTwice (s : Scr) (d : Int) (A : Option Addr) (w : World) (h : ScrAt w w.heap.size (redS s d) A s.cells.length) (hr : rightS s = true) :
    Calls Tryd.prog 9 #[.agg #[.int .i64 s.w, .int .i64 s.h, .slice A s.cells.length s.cells.length, .int .i64 s.x, .int .i64 s.y, .bool s.shown], .int .i64 d] w fun e w' => ∃ g, e = .returned (.tuple #[.agg #[.int .i64 s.w, .int .i64 s.h, .slice (some ⟨g, 0, none⟩) s.cells.length s.cells.length, .int .i64 s.x, .int .i64 s.y, .bool s.shown], .int .i64 0]) ∧ ScrAt w' w'.heap.size (redS (redS s d) d) (some ⟨g, 0, none⟩) s.cells.length ∧ Below w.heap.size w w' := by
  have RX := d_RedAt (redS s d) d A s.cells.length w h (right_red d hr)
  unfold RedRet at RX
  rw [scr_red, red_len] at RX
  exact RX

set_option maxHeartbeats 32000000 in
set_option maxRecDepth 100000 in
theorem diffAlike_walk (t u : SA) (d : Int) (w : World) (E : EnvD w) (hs : ScrD w t) (hu : ScrD w u) : Calls Tryd.prog 4 #[.agg #[.int .i64 t.s.w, .int .i64 t.s.h, .slice t.A t.s.cells.length t.c, .int .i64 t.s.x, .int .i64 t.s.y, .bool t.s.shown], .agg #[.int .i64 u.s.w, .int .i64 u.s.h, .slice u.A u.s.cells.length u.c, .int .i64 u.s.x, .int .i64 u.s.y, .bool u.s.shown], .int .i64 d] w fun e w' => e = .returned (.bool true) ∧ Below w.heap.size w w' := by
  obtain ⟨V1, hV1⟩ : ∃ V1, V1 = (w.alloc (.cells #[.int .i64 t.s.w, .int .i64 t.s.h, .slice t.A t.s.cells.length t.c, .int .i64 t.s.x, .int .i64 t.s.y, .bool t.s.shown] 25)).alloc (.cells #[.int .i64 u.s.w, .int .i64 u.s.h, .slice u.A u.s.cells.length u.c, .int .i64 u.s.x, .int .i64 u.s.y, .bool u.s.shown] 25) := ⟨_, rfl⟩
  have B1 : Below w.heap.size w V1 := by rw [hV1]; exact ((Below.refl _ w).alloc (Nat.le_refl _) _).alloc (by simp) _
  have Z1 : V1.heap.size = w.heap.size + 2 := by rw [hV1]; simp
  obtain ⟨Q, hQ⟩ : ∃ Q, Q = V1.alloc (.cells #[.int .i64 t.s.w, .int .i64 t.s.h, .slice t.A t.s.cells.length t.c, .int .i64 t.s.x, .int .i64 t.s.y, .bool t.s.shown, .int .i64 t.s.w, .int .i64 t.s.h, .slice t.A t.s.cells.length t.c, .int .i64 t.s.x, .int .i64 t.s.y, .bool t.s.shown, .int .i64 t.s.w, .int .i64 t.s.h, .slice t.A t.s.cells.length t.c, .int .i64 t.s.x, .int .i64 t.s.y, .bool t.s.shown, .int .i64 t.s.w, .int .i64 t.s.h, .slice t.A t.s.cells.length t.c, .int .i64 t.s.x, .int .i64 t.s.y, .bool t.s.shown, .int .i64 u.s.w, .int .i64 u.s.h, .slice u.A u.s.cells.length u.c, .int .i64 u.s.x, .int .i64 u.s.y, .bool u.s.shown] 25) := ⟨_, rfl⟩
  have B2 : Below V1.heap.size V1 Q := by rw [hQ]; exact (Below.refl _ _).alloc (Nat.le_refl _) _
  have BQ : Below w.heap.size w Q := B1.trans (B2.mono B1.size)
  have KT : Blk Q w.heap.size [.int .i64 t.s.w, .int .i64 t.s.h, .slice t.A t.s.cells.length t.c, .int .i64 t.s.x, .int .i64 t.s.y, .bool t.s.shown] := by
    refine Blk.keep ?_ B2 (by omega)
    rw [hV1]
    exact (Blk.new w [.int .i64 t.s.w, .int .i64 t.s.h, .slice t.A t.s.cells.length t.c, .int .i64 t.s.x, .int .i64 t.s.y, .bool t.s.shown] 25).alloc _
  have KU : Blk Q (w.heap.size + 1) [.int .i64 u.s.w, .int .i64 u.s.h, .slice u.A u.s.cells.length u.c, .int .i64 u.s.x, .int .i64 u.s.y, .bool u.s.shown] := by
    refine Blk.keep ?_ B2 (by omega)
    have := Blk.new (w.alloc (.cells #[.int .i64 t.s.w, .int .i64 t.s.h, .slice t.A t.s.cells.length t.c, .int .i64 t.s.x, .int .i64 t.s.y, .bool t.s.shown] 25)) [.int .i64 u.s.w, .int .i64 u.s.h, .slice u.A u.s.cells.length u.c, .int .i64 u.s.x, .int .i64 u.s.y, .bool u.s.shown] 25
    have e : (w.alloc (.cells #[.int .i64 t.s.w, .int .i64 t.s.h, .slice t.A t.s.cells.length t.c, .int .i64 t.s.x, .int .i64 t.s.y, .bool t.s.shown] 25)).heap.size = w.heap.size + 1 := by simp
    rw [e] at this
    rw [hV1]
    exact this
  have BY := law_beyond [t, t, t, t, u] (some ⟨w.heap.size + 2, 0, none⟩) 5 Q (by
    have := news_scrs V1 [t, t, t, t, u] 25
    rw [hQ, ← Z1]
    exact this) (by show 5 ≤ _; omega) (beyond_pre (fun x hx => by
      have : x = t ∨ x = u := by simpa using hx
      rcases this with rfl | rfl
      · exact hs.below BQ
      · exact hu.below BQ))
  have TT : total [t, t, t, t, u] ≤ 134217728 → bulk t.s.cells ≤ 134217728 ∧ bulk u.s.cells ≤ 134217728 := by
    intro h
    simp [total] at h
    omega
  have hG : decide (134217728 < total [t, t, t, t, u]) = false → (ScrAt Q Q.heap.size t.s t.A t.c ∧ ScrAt Q Q.heap.size u.s u.A u.c) := fun h => by
    have h := of_decide_eq_false h
    obtain ⟨b1, b2⟩ := TT (by omega)
    exact ⟨((hs.below BQ).at b1).1, ((hu.below BQ).at b2).1⟩
  have HG := Lib.hid hG
  have KTH := Lib.hid KT
  have KUH := Lib.hid KU
  have E := Lib.hid (E.of_below BQ (Nat.le_refl _))
  have HB := Lib.hid BQ
  have QS : Q.heap.size = w.heap.size + 3 := by rw [hQ]; simp [Z1]
  have QSH := Lib.hid QS
  generalize decide (134217728 < total [t, t, t, t, u]) = G at *
  have BY := Lib.hid BY
  clear hs hu KT KU BQ QS B1 B2 hG TT
  simp only [List.length_cons, List.length_nil, Nat.zero_add, Nat.reduceAdd] at BY
  go_enter Tryd.func4, Tryd.ntmps4
  go_wp2_with fail
  rw [← hV1, ← hQ, show w.heap.size + 1 + 1 = w.heap.size + 2 from rfl]
  clear hQ hV1
  refine BY.out.mono ?_; rintro e w1 ⟨rfl, rfl⟩
  cases G with
  | true =>
    go_wp2_with fail
    go_ret
    exact ⟨rfl, HB.out⟩
  | false =>
    obtain ⟨at_, au⟩ := HG.out rfl
    have RD := Lib.hid (fun d W (hb : Below Q.heap.size Q W) (hr : rightS t.s = true) => d_RedAt t.s d t.A t.c W ((at_.below hb).more hb.size) hr)
    have RN : Hid (∀ d W, Below Q.heap.size Q W → rightS t.s = false → Calls Tryd.prog 9 #[scrV t.s t.A t.c, .int .i64 d] W fun e w' => e = .returned (.tuple #[.agg #[.int .i64 0, .int .i64 0, .slice none 0 0, .int .i64 0, .int .i64 0, .bool false], .int .i64 180]) ∧ Below W.heap.size W w') := Lib.hid (fun d W hb hr => d_Reduced_no t.s d t.A t.c at_.cap at_.nil at_.len at_.ok hr W ((at_.below hb).more hb.size).sees)
    have RT := Lib.hid (fun W (hb : Below Q.heap.size Q W) => d_RightAt t.s t.A t.c W ((at_.below hb).more hb.size))
    have RU := Lib.hid (fun W (hb : Below Q.heap.size Q W) => d_RightAt u.s u.A u.c W ((au.below hb).more hb.size))
    have CT := Lib.hid (fun W (hb : Below Q.heap.size Q W) => d_ChgAt t.s t.s t.A t.A t.c t.c W ((at_.below hb).more hb.size) ((at_.below hb).more hb.size))
    have CU := Lib.hid (fun W (hb : Below Q.heap.size Q W) => d_ChgAt t.s u.s t.A u.A t.c u.c W ((at_.below hb).more hb.size) ((au.below hb).more hb.size))
    have HAT := Lib.hid at_
    have HAU := Lib.hid au
    simp only [scr_val] at RD RN RT RU CT CU
    have s0 := KTH.out.c 0 _ rfl
    have s1 := KTH.out.c 1 _ rfl
    have s2 := KTH.out.c 2 _ rfl
    have s3 := KTH.out.c 3 _ rfl
    have s4 := KTH.out.c 4 _ rfl
    have s5 := KTH.out.c 5 _ rfl
    clear at_ au BY HG
    cases hr : rightS t.s with
    | false =>
      go_wp2_with fail
      refine (RN.out d Q (Below.refl _ _) hr).mono ?_; rintro e w1 ⟨rfl, hb1⟩
      have K1 := KTH.out.keep hb1 KTH.out.lt
      have s0 := K1.c 0 _ rfl
      have s1 := K1.c 1 _ rfl
      have s2 := K1.c 2 _ rfl
      have s3 := K1.c 3 _ rfl
      have s4 := K1.c 4 _ rfl
      have s5 := K1.c 5 _ rfl
      have hl1 := KTH.out.lt
      have hz1 := hb1.size
      have ltb : w.heap.size < w1.heap.size := by omega
      have HB1 := Lib.hid hb1
      clear K1 hb1 hl1 hz1
      go_wp2_with fail
      obtain ⟨V, hV⟩ : ∃ V, V = w1.alloc (.cells #[.int .i64 0, .int .i64 0, .slice none 0 0, .int .i64 0, .int .i64 0, .bool false] 25) := ⟨_, rfl⟩
      rw [← hV]
      have BV : Below w1.heap.size w1 V := by rw [hV]; exact (Below.refl _ _).alloc (Nat.le_refl _) _
      have KV : Blk V w1.heap.size [.int .i64 0, .int .i64 0, .slice none 0 0, .int .i64 0, .int .i64 0, .bool false] := by rw [hV]; exact Blk.new w1 _ _
      have BQV := HB1.out.trans (BV.mono HB1.out.size)
      have R2 := Lib.hid (RT.out V BQV)
      have HV := Lib.hid BQV
      have KV := Lib.hid KV
      rw [hr] at R2
      clear hV BV BQV s0 s1 s2 s3 s4 s5
      refine R2.out.mono ?_; rintro e w2 ⟨rfl, hb2⟩
      have K2 := KV.out.keep hb2 KV.out.lt
      have v2 := K2.c 2 _ rfl
      have BW2 := HV.out.trans (hb2.mono HV.out.size)
      have WK := Lib.hid (law_wakes w2 (E.out.of_below BW2 (Nat.le_refl _)))
      have BB := Lib.hid (HB.out.trans (BW2.mono HB.out.size))
      clear K2 hb2 BW2
      go_wp2_with fail
      refine WK.out.mono ?_; rintro e w3 ⟨rfl, hb3⟩
      have BB := Lib.hid (BB.out.trans (hb3.mono BB.out.size))
      clear hb3
      go_wp2_with fail
      go_ret
      exact ⟨rfl, BB.out⟩
    | true =>
      go_wp2_with fail
      refine (RD.out d Q (Below.refl _ _) hr).mono ?_; rintro e w1 ⟨g1, rfl, sc1, hb1⟩
      have BQ : Hid (Below Q.heap.size Q Q) := Lib.hid (Below.refl _ _)
      have KTH := Lib.hid (KTH.out.keep hb1 KTH.out.lt)
      have KUH := Lib.hid (KUH.out.keep hb1 KUH.out.lt)
      have BQ := Lib.hid (BQ.out.trans (hb1.mono BQ.out.size))
      have SX := Lib.hid sc1
      clear hb1 sc1
      have s0 := KTH.out.c 0 _ rfl
      have s1 := KTH.out.c 1 _ rfl
      have s2 := KTH.out.c 2 _ rfl
      have s3 := KTH.out.c 3 _ rfl
      have s4 := KTH.out.c 4 _ rfl
      have s5 := KTH.out.c 5 _ rfl
      have lt0 : w.heap.size < w1.heap.size := KTH.out.lt
      have lt1 : w.heap.size + 1 < w1.heap.size := KUH.out.lt
      go_wp2_with fail
      obtain ⟨V1, hV1⟩ : ∃ V1, V1 = w1.alloc (.cells #[.int .i64 t.s.w, .int .i64 t.s.h, .slice (some ⟨g1, 0, none⟩) t.s.cells.length t.s.cells.length, .int .i64 t.s.x, .int .i64 t.s.y, .bool t.s.shown] 25) := ⟨_, rfl⟩
      rw [← hV1]
      have hbv : Below w1.heap.size w1 V1 := by rw [hV1]; exact (Below.refl _ _).alloc (Nat.le_refl _) _
      have KX := Lib.hid (show Blk V1 w1.heap.size [.int .i64 t.s.w, .int .i64 t.s.h, .slice (some ⟨g1, 0, none⟩) t.s.cells.length t.s.cells.length, .int .i64 t.s.x, .int .i64 t.s.y, .bool t.s.shown] by rw [hV1]; exact Blk.new w1 _ _)
      have KTH := Lib.hid (KTH.out.keep hbv KTH.out.lt)
      have KUH := Lib.hid (KUH.out.keep hbv KUH.out.lt)
      have SX := Lib.hid ((SX.out.below hbv).more hbv.size)
      have BQ := Lib.hid (BQ.out.trans (hbv.mono BQ.out.size))
      clear hbv hV1 lt0 lt1
      clear s0 s1 s2 s3 s4 s5
      refine (RT.out V1 BQ.out).mono ?_; rintro e w2 ⟨rfl, hb2⟩
      rw [hr]
      have KTH := Lib.hid (KTH.out.keep hb2 KTH.out.lt)
      have KUH := Lib.hid (KUH.out.keep hb2 KUH.out.lt)
      have KX := Lib.hid (KX.out.keep hb2 KX.out.lt)
      have SX := Lib.hid ((SX.out.below hb2).more hb2.size)
      have BQ := Lib.hid (BQ.out.trans (hb2.mono BQ.out.size))
      clear hb2
      have x0 := KX.out.c 0 _ rfl
      have x1 := KX.out.c 1 _ rfl
      have x2 := KX.out.c 2 _ rfl
      have x3 := KX.out.c 3 _ rfl
      have x4 := KX.out.c 4 _ rfl
      have x5 := KX.out.c 5 _ rfl
      go_wp2_with fail
      have RX := Lib.hid (d_RedTwice t.s d (some ⟨g1, 0, none⟩) w2 SX.out hr)
      refine RX.out.mono ?_; rintro e w3 ⟨g2, rfl, sc2, hb3⟩
      clear RX
      clear x0 x1 x2 x3 x4 x5
      have KTH := Lib.hid (KTH.out.keep hb3 KTH.out.lt)
      have KUH := Lib.hid (KUH.out.keep hb3 KUH.out.lt)
      have KX := Lib.hid (KX.out.keep hb3 KX.out.lt)
      have SX := Lib.hid ((SX.out.below hb3).more hb3.size)
      have BQ := Lib.hid (BQ.out.trans (hb3.mono BQ.out.size))
      have SY := Lib.hid sc2
      clear hb3 sc2
      have s0 := KTH.out.c 0 _ rfl
      have s1 := KTH.out.c 1 _ rfl
      have s2 := KTH.out.c 2 _ rfl
      have s3 := KTH.out.c 3 _ rfl
      have s4 := KTH.out.c 4 _ rfl
      have s5 := KTH.out.c 5 _ rfl
      have lt0 : w.heap.size < w3.heap.size := KTH.out.lt
      have lt1 : w.heap.size + 1 < w3.heap.size := KUH.out.lt
      have lx : w1.heap.size < w3.heap.size := KX.out.lt
      go_wp2_with fail
      obtain ⟨V3, hV3⟩ : ∃ V3, V3 = w3.alloc (.cells #[.int .i64 t.s.w, .int .i64 t.s.h, .slice (some ⟨g2, 0, none⟩) t.s.cells.length t.s.cells.length, .int .i64 t.s.x, .int .i64 t.s.y, .bool t.s.shown] 25) := ⟨_, rfl⟩
      rw [← hV3]
      have hbv : Below w3.heap.size w3 V3 := by rw [hV3]; exact (Below.refl _ _).alloc (Nat.le_refl _) _
      have KY := Lib.hid (show Blk V3 w3.heap.size [.int .i64 t.s.w, .int .i64 t.s.h, .slice (some ⟨g2, 0, none⟩) t.s.cells.length t.s.cells.length, .int .i64 t.s.x, .int .i64 t.s.y, .bool t.s.shown] by rw [hV3]; exact Blk.new w3 _ _)
      have KTH := Lib.hid (KTH.out.keep hbv KTH.out.lt)
      have KUH := Lib.hid (KUH.out.keep hbv KUH.out.lt)
      have KX := Lib.hid (KX.out.keep hbv KX.out.lt)
      have SX := Lib.hid ((SX.out.below hbv).more hbv.size)
      have SY := Lib.hid ((SY.out.below hbv).more hbv.size)
      have BQ := Lib.hid (BQ.out.trans (hbv.mono BQ.out.size))
      clear hbv hV3 lt0 lt1
      clear s0 s1 s2 s3 s4 s5
      refine (RD.out 3 V3 BQ.out hr).mono ?_; rintro e w4 ⟨g3, rfl, sc3, hb4⟩
      have KTH := Lib.hid (KTH.out.keep hb4 KTH.out.lt)
      have KUH := Lib.hid (KUH.out.keep hb4 KUH.out.lt)
      have KX := Lib.hid (KX.out.keep hb4 KX.out.lt)
      have KY := Lib.hid (KY.out.keep hb4 KY.out.lt)
      have SX := Lib.hid ((SX.out.below hb4).more hb4.size)
      have SY := Lib.hid ((SY.out.below hb4).more hb4.size)
      have BQ := Lib.hid (BQ.out.trans (hb4.mono BQ.out.size))
      have SZ := Lib.hid sc3
      clear hb4 sc3
      have s0 := KTH.out.c 0 _ rfl
      have s1 := KTH.out.c 1 _ rfl
      have s2 := KTH.out.c 2 _ rfl
      have s3 := KTH.out.c 3 _ rfl
      have s4 := KTH.out.c 4 _ rfl
      have s5 := KTH.out.c 5 _ rfl
      have lt0 : w.heap.size < w4.heap.size := KTH.out.lt
      have lt1 : w.heap.size + 1 < w4.heap.size := KUH.out.lt
      have lx : w1.heap.size < w4.heap.size := KX.out.lt
      have ly : w3.heap.size < w4.heap.size := KY.out.lt
      go_wp2_with fail
      obtain ⟨V4, hV4⟩ : ∃ V4, V4 = w4.alloc (.cells #[.int .i64 t.s.w, .int .i64 t.s.h, .slice (some ⟨g3, 0, none⟩) t.s.cells.length t.s.cells.length, .int .i64 t.s.x, .int .i64 t.s.y, .bool t.s.shown] 25) := ⟨_, rfl⟩
      rw [← hV4]
      have hbv : Below w4.heap.size w4 V4 := by rw [hV4]; exact (Below.refl _ _).alloc (Nat.le_refl _) _
      have KZ := Lib.hid (show Blk V4 w4.heap.size [.int .i64 t.s.w, .int .i64 t.s.h, .slice (some ⟨g3, 0, none⟩) t.s.cells.length t.s.cells.length, .int .i64 t.s.x, .int .i64 t.s.y, .bool t.s.shown] by rw [hV4]; exact Blk.new w4 _ _)
      have KTH := Lib.hid (KTH.out.keep hbv KTH.out.lt)
      have KUH := Lib.hid (KUH.out.keep hbv KUH.out.lt)
      have KX := Lib.hid (KX.out.keep hbv KX.out.lt)
      have KY := Lib.hid (KY.out.keep hbv KY.out.lt)
      have SX := Lib.hid ((SX.out.below hbv).more hbv.size)
      have SY := Lib.hid ((SY.out.below hbv).more hbv.size)
      have SZ := Lib.hid ((SZ.out.below hbv).more hbv.size)
      have BQ := Lib.hid (BQ.out.trans (hbv.mono BQ.out.size))
      clear hbv hV4 lt0 lt1
      clear s0 s1 s2 s3 s4 s5
      refine (CT.out V4 BQ.out).mono ?_; rintro e w5 ⟨A5, c5, rfl, se5, hb5⟩
      obtain ⟨cs1, cs2⟩ := changed_same t.s hr
      rw [cs1, cs2]
      clear cs1 cs2 se5
      have KTH := Lib.hid (KTH.out.keep hb5 KTH.out.lt)
      have KUH := Lib.hid (KUH.out.keep hb5 KUH.out.lt)
      have KX := Lib.hid (KX.out.keep hb5 KX.out.lt)
      have KY := Lib.hid (KY.out.keep hb5 KY.out.lt)
      have KZ := Lib.hid (KZ.out.keep hb5 KZ.out.lt)
      have SX := Lib.hid ((SX.out.below hb5).more hb5.size)
      have SY := Lib.hid ((SY.out.below hb5).more hb5.size)
      have SZ := Lib.hid ((SZ.out.below hb5).more hb5.size)
      have BQ := Lib.hid (BQ.out.trans (hb5.mono BQ.out.size))
      clear hb5
      have x0 := KX.out.c 0 _ rfl
      have x1 := KX.out.c 1 _ rfl
      have x2 := KX.out.c 2 _ rfl
      have x3 := KX.out.c 3 _ rfl
      have x4 := KX.out.c 4 _ rfl
      have x5 := KX.out.c 5 _ rfl
      have y0 := KY.out.c 0 _ rfl
      have y1 := KY.out.c 1 _ rfl
      have y2 := KY.out.c 2 _ rfl
      have y3 := KY.out.c 3 _ rfl
      have y4 := KY.out.c 4 _ rfl
      have y5 := KY.out.c 5 _ rfl
      simp only [List.length_nil]
      go_wp2_with fail
      have RS := law_same (redS t.s d) (redS (redS t.s d) d) (some ⟨g1, 0, none⟩) (some ⟨g2, 0, none⟩) t.s.cells.length t.s.cells.length w5 SX.out SY.out rfl rfl rfl rfl rfl (by rw [red_len, red_len, red_len])
      rw [scr_red, scr_red, red_len, decide_eq_true (show (redS t.s d).cells = (redS (redS t.s d) d).cells from (red_twice t.s.cells d).symm)] at RS
      have RS := Lib.hid RS
      refine RS.out.mono ?_; rintro e w6 ⟨rfl, hb6⟩
      clear RS
      clear x0 x1 x2 x3 x4 x5 y0 y1 y2 y3 y4 y5
      have KTH := Lib.hid (KTH.out.keep hb6 KTH.out.lt)
      have KUH := Lib.hid (KUH.out.keep hb6 KUH.out.lt)
      have KX := Lib.hid (KX.out.keep hb6 KX.out.lt)
      have KY := Lib.hid (KY.out.keep hb6 KY.out.lt)
      have KZ := Lib.hid (KZ.out.keep hb6 KZ.out.lt)
      have SX := Lib.hid ((SX.out.below hb6).more hb6.size)
      have SY := Lib.hid ((SY.out.below hb6).more hb6.size)
      have SZ := Lib.hid ((SZ.out.below hb6).more hb6.size)
      have BQ := Lib.hid (BQ.out.trans (hb6.mono BQ.out.size))
      clear hb6
      have z0 := KZ.out.c 0 _ rfl
      have z1 := KZ.out.c 1 _ rfl
      have z2 := KZ.out.c 2 _ rfl
      have z3 := KZ.out.c 3 _ rfl
      have z4 := KZ.out.c 4 _ rfl
      have z5 := KZ.out.c 5 _ rfl
      have s0 := KTH.out.c 0 _ rfl
      have s1 := KTH.out.c 1 _ rfl
      have s2 := KTH.out.c 2 _ rfl
      have s3 := KTH.out.c 3 _ rfl
      have s4 := KTH.out.c 4 _ rfl
      have s5 := KTH.out.c 5 _ rfl
      go_wp2_with fail
      have RS := law_same (redS t.s 3) t.s (some ⟨g3, 0, none⟩) t.A t.s.cells.length t.c w6 SZ.out ((HAT.out.below BQ.out).more BQ.out.size) rfl rfl rfl rfl rfl (red_len _ _)
      rw [scr_red, scr_val, decide_eq_true (show (redS t.s 3).cells = t.s.cells from row_rd hr)] at RS
      have RS := Lib.hid RS
      refine RS.out.mono ?_; rintro e w7 ⟨rfl, hb7⟩
      clear RS
      clear z0 z1 z2 z3 z4 z5 s0 s1 s2 s3 s4 s5
      have KTH := Lib.hid (KTH.out.keep hb7 KTH.out.lt)
      have KUH := Lib.hid (KUH.out.keep hb7 KUH.out.lt)
      have KX := Lib.hid (KX.out.keep hb7 KX.out.lt)
      have KY := Lib.hid (KY.out.keep hb7 KY.out.lt)
      have KZ := Lib.hid (KZ.out.keep hb7 KZ.out.lt)
      have SX := Lib.hid ((SX.out.below hb7).more hb7.size)
      have SY := Lib.hid ((SY.out.below hb7).more hb7.size)
      have SZ := Lib.hid ((SZ.out.below hb7).more hb7.size)
      have BQ := Lib.hid (BQ.out.trans (hb7.mono BQ.out.size))
      clear hb7
      have x0 := KX.out.c 0 _ rfl
      have x1 := KX.out.c 1 _ rfl
      have x2 := KX.out.c 2 _ rfl
      have x3 := KX.out.c 3 _ rfl
      have x4 := KX.out.c 4 _ rfl
      have x5 := KX.out.c 5 _ rfl
      go_wp2_with fail
      have RS := d_RightAt (redS t.s d) (some ⟨g1, 0, none⟩) t.s.cells.length w7 SX.out
      rw [scr_red, right_red d hr] at RS
      have RS := Lib.hid RS
      refine RS.out.mono ?_; rintro e w8 ⟨rfl, hb8⟩
      clear RS
      clear x0 x1 x2 x3 x4 x5
      have KTH := Lib.hid (KTH.out.keep hb8 KTH.out.lt)
      have KUH := Lib.hid (KUH.out.keep hb8 KUH.out.lt)
      have KX := Lib.hid (KX.out.keep hb8 KX.out.lt)
      have KY := Lib.hid (KY.out.keep hb8 KY.out.lt)
      have KZ := Lib.hid (KZ.out.keep hb8 KZ.out.lt)
      have SX := Lib.hid ((SX.out.below hb8).more hb8.size)
      have SY := Lib.hid ((SY.out.below hb8).more hb8.size)
      have SZ := Lib.hid ((SZ.out.below hb8).more hb8.size)
      have BQ := Lib.hid (BQ.out.trans (hb8.mono BQ.out.size))
      clear hb8
      have s0 := KTH.out.c 0 _ rfl
      have s1 := KTH.out.c 1 _ rfl
      have s2 := KTH.out.c 2 _ rfl
      have s3 := KTH.out.c 3 _ rfl
      have s4 := KTH.out.c 4 _ rfl
      have s5 := KTH.out.c 5 _ rfl
      have v0 := KUH.out.c 0 _ rfl
      have v1 := KUH.out.c 1 _ rfl
      have v2 := KUH.out.c 2 _ rfl
      have v3 := KUH.out.c 3 _ rfl
      have v4 := KUH.out.c 4 _ rfl
      have v5 := KUH.out.c 5 _ rfl
      go_wp2_with fail
      refine (CU.out w8 BQ.out).mono ?_; rintro e w9 ⟨A9, c9, rfl, se9, hb9⟩
      clear s0 s1 s2 s3 s4 s5 v0 v1 v2 v3 v4 v5
      have KTH := Lib.hid (KTH.out.keep hb9 KTH.out.lt)
      have KUH := Lib.hid (KUH.out.keep hb9 KUH.out.lt)
      have KX := Lib.hid (KX.out.keep hb9 KX.out.lt)
      have KY := Lib.hid (KY.out.keep hb9 KY.out.lt)
      have KZ := Lib.hid (KZ.out.keep hb9 KZ.out.lt)
      have SX := Lib.hid ((SX.out.below hb9).more hb9.size)
      have SY := Lib.hid ((SY.out.below hb9).more hb9.size)
      have SZ := Lib.hid ((SZ.out.below hb9).more hb9.size)
      have BQ := Lib.hid (BQ.out.trans (hb9.mono BQ.out.size))
      clear hb9
      have SE := Lib.hid se9
      clear se9
      have v0 := KUH.out.c 0 _ rfl
      have v1 := KUH.out.c 1 _ rfl
      have v2 := KUH.out.c 2 _ rfl
      have v3 := KUH.out.c 3 _ rfl
      have v4 := KUH.out.c 4 _ rfl
      have v5 := KUH.out.c 5 _ rfl
      go_wp2_with fail
      refine (RU.out w9 BQ.out).mono ?_; rintro e w10 ⟨rfl, hb10⟩
      clear v0 v1 v2 v3 v4 v5
      have KTH := Lib.hid (KTH.out.keep hb10 KTH.out.lt)
      have KUH := Lib.hid (KUH.out.keep hb10 KUH.out.lt)
      have KX := Lib.hid (KX.out.keep hb10 KX.out.lt)
      have KY := Lib.hid (KY.out.keep hb10 KY.out.lt)
      have KZ := Lib.hid (KZ.out.keep hb10 KZ.out.lt)
      have SX := Lib.hid ((SX.out.below hb10).more hb10.size)
      have SY := Lib.hid ((SY.out.below hb10).more hb10.size)
      have SZ := Lib.hid ((SZ.out.below hb10).more hb10.size)
      have BQ := Lib.hid (BQ.out.trans (hb10.mono BQ.out.size))
      have SE := Lib.hid ((SE.out.below hb10 (Nat.le_refl _)).more hb10.size)
      clear hb10
      cases ru : rightS u.s with
      | false =>
        obtain ⟨q1, q2⟩ := changed_bad t.s u.s hr ru
        rw [q1, q2]
        clear q1 q2 SE
        have WK := Lib.hid (law_wakes w10 (E.out.of_below BQ.out (Nat.le_refl _)))
        have BB := Lib.hid (HB.out.trans (BQ.out.mono HB.out.size))
        simp only [List.length_nil]
        go_wp2_with fail
        refine WK.out.mono ?_; rintro e wz ⟨rfl, hbz⟩
        have BB := Lib.hid (BB.out.trans (hbz.mono BB.out.size))
        clear hbz
        go_wp2_with fail
        go_ret
        exact ⟨rfl, BB.out⟩
      | true =>
        have s0 := KTH.out.c 0 _ rfl
        have s1 := KTH.out.c 1 _ rfl
        have s2 := KTH.out.c 2 _ rfl
        have s3 := KTH.out.c 3 _ rfl
        have s4 := KTH.out.c 4 _ rfl
        have s5 := KTH.out.c 5 _ rfl
        have v0 := KUH.out.c 0 _ rfl
        have v1 := KUH.out.c 1 _ rfl
        have v2 := KUH.out.c 2 _ rfl
        have v3 := KUH.out.c 3 _ rfl
        have v4 := KUH.out.c 4 _ rfl
        have v5 := KUH.out.c 5 _ rfl
        have WK := Lib.hid (law_wakes w10 (E.out.of_below BQ.out (Nat.le_refl _)))
        have BB := Lib.hid (HB.out.trans (BQ.out.mono HB.out.size))
        by_cases ew : t.s.w = u.s.w
        · by_cases eh : t.s.h = u.s.h
          · obtain ⟨q1, q2, q3⟩ := changed_ok t.s u.s hr ru ew eh
            have PW : Hid ((changedL t.s u.s).Pairwise (· < ·)) := Lib.hid (by rw [q2]; exact (chg_range u.s.cells (right_row ru) 0 t.s.cells q3).2)
            have EM : Hid (changedL t.s u.s = [] ↔ t.s.cells = u.s.cells) := Lib.hid (by rw [q2]; exact chg_nil_iff _ (right_row ru) _ q3)
            have LN : (changedL t.s u.s).length ≤ 1048576 := by
              rw [q2]
              have := chg_len u.s.cells (right_row ru) 0 t.s.cells q3
              obtain ⟨r1, r2, _⟩ := right_parts ru
              have := (sized_parts r1).2.2.2.2
              omega
            rw [q1]
            have QL := Lib.hid q3
            have EW := Lib.hid ew
            have EH := Lib.hid eh
            generalize changedL t.s u.s = LL at *
            have n1 : (t.s.w != u.s.w) = false := by rw [ew]; simp
            have n2 : (t.s.h != u.s.h) = false := by rw [eh]; simp
            clear q1 q2 q3 ew eh
            have l0 : w.heap.size < w10.heap.size := KTH.out.lt
            have l1 : w.heap.size + 1 < w10.heap.size := KUH.out.lt
            go_upto_region 17 with fail
            go_region
            go_upto_region 18 with fail
            obtain ⟨V, hV⟩ : ∃ V, V = (w10.alloc (.cells #[.int .i64 u.s.w, .int .i64 u.s.h, .slice u.A u.s.cells.length u.c, .int .i64 t.s.x, .int .i64 t.s.y, .bool t.s.shown] 25)).drew := ⟨_, rfl⟩
            rw [← hV]
            have hbv : Below w10.heap.size w10 V := by rw [hV]; exact ((Below.refl _ _).alloc (Nat.le_refl _) _).drew
            have KC := Lib.hid (show Blk V w10.heap.size [.int .i64 u.s.w, .int .i64 u.s.h, .slice u.A u.s.cells.length u.c, .int .i64 t.s.x, .int .i64 t.s.y, .bool t.s.shown] by rw [hV]; exact (Blk.new w10 _ _).draw 1)
            have KTH := Lib.hid (KTH.out.keep hbv KTH.out.lt)
            have BQ := Lib.hid (BQ.out.trans (hbv.mono BQ.out.size))
            have SE := Lib.hid ((SE.out.below hbv (Nat.le_refl _)).more hbv.size)
            clear hbv hV l0 l1 s0 s1 s2 s3 s4 s5 v0 v1 v2 v3 v4 v5 n1 n2 BB WK
            go_wp2_with fail
            go_loopw [18] (fun s18 wr => ∃ k : Nat, 1 ≤ k ∧ (k ≤ LL.length ∨ k = 1) ∧ s18 = .int .i64 k ∧ Hid (Below V.heap.size V wr)) (fun s18 _ => LL.length - (intOf s18).toNat)
            case atStart => exact ⟨1, Nat.le_refl _, Or.inr rfl, rfl, Lib.hid (Below.refl _ _)⟩
            case round =>
              obtain ⟨k, k1, k2, rfl, hr5⟩ := hrel
              by_cases lt : k < LL.length
              · obtain ⟨j, rfl⟩ : ∃ j, k = j + 1 := ⟨k - 1, by omega⟩
                have S := SE.out.below hr5.out (Nat.le_refl _)
                obtain ⟨ad, rfl, ab, y1⟩ := S.at (k := j + 1) (by rw [ints_len]; exact lt)
                obtain ⟨ad', e', _, y0⟩ := S.at (k := j) (by rw [ints_len]; omega)
                cases e'
                have g1 : (ints LL)[j + 1]'(by rw [ints_len]; exact lt) = .int .i64 (LL[j + 1]) := by simp [ints]
                have g0 : (ints LL)[j]'(by rw [ints_len]; omega) = .int .i64 (LL[j]'(by omega)) := by simp [ints]
                rw [g1] at y1
                rw [g0] at y0
                have hlt : LL[j]'(by omega) < LL[j + 1] := (List.pairwise_iff_getElem.1 PW.out) j (j + 1) (by omega) lt (by omega)
                generalize LL[j + 1] = bb at *
                generalize LL[j]'(by omega) = aa at *
                have ab2 : ad.block < wr.heap.size := Nat.lt_of_lt_of_le ab hr5.out.size
                rw [← add_lit ad (j + 1) (by omega)] at y1
                have y1 := fun dd os => ((below_regrown wr dd os).cell (p := ⟨ad.block, ad.off + (j + 1), none⟩) ab2).trans y1
                have y0 := fun dd os => ((below_regrown wr dd os).cell (p := ad.add j) (by simp only [add_blk]; exact ab2)).trans y0
                have wk : IntKind.i64.wrap (j : Int) = (j : Int) := IntWalk.i64_in _ (by omega)
                have wk0 : (0 : Int) ≤ (j : Int) + 1 := by omega
                have wk1 : ((j : Int) + 1).toNat = j + 1 := by omega
                have wk2 : (j : Int) + 1 < (LL.length : Int) := by omega
                have wk3 : (j : Int) < (LL.length : Int) := by omega
                have nle : decide (bb ≤ aa) = false := decide_eq_false (by omega)
                have nle2 : ¬ bb ≤ aa := by omega
                have HR5 := Lib.hid hr5.out
                clear g1 g0 S hlt hr5 k1 k2
                go_upto_region 21 with fail
                refine wp_region_spec 9 [] [] (by kernel_rfl) (by kernel_rfl) (by kernel_rfl) (by intro t ht; cases ht) ?_
                simp only [List.take_succ_cons, List.take_zero, List.drop_succ_cons, List.drop_zero]
                repeat (refine wpS_step (by rfl) (fun K hK => ?_); go_simp; first | (refine hK _ ?_; clear hK K) | (apply Exists.intro; refine ⟨fun _ => ?_, hK _ ?_⟩; (fail); clear hK K))
                refine wpS_nil ?_
                intro W5 vs5 hl hv
                have B5 := Lib.hid (HR5.out.trans ((later_below.1 hl).mono HR5.out.size))
                clear hl hv y0 y1
                simp only [fillA]
                go_wp2_with fail
                go_roundw
                case rel => exact ⟨j + 2, by omega, Or.inl (by omega), by go_num, B5⟩
                case measure => simp [intOf]; omega
              · have KT5 := KTH.out.keep hr5.out KTH.out.lt
                have KC5 := KC.out.keep hr5.out KC.out.lt
                have BQ5 := Lib.hid (BQ.out.trans (hr5.out.mono BQ.out.size))
                have s0 := KT5.c 0 _ rfl
                have s1 := KT5.c 1 _ rfl
                have s2 := KT5.c 2 _ rfl
                have s3 := KT5.c 3 _ rfl
                have s4 := KT5.c 4 _ rfl
                have s5 := KT5.c 5 _ rfl
                have v0 := KC5.c 0 _ rfl
                have v1 := KC5.c 1 _ rfl
                have v2 := KC5.c 2 _ rfl
                have v3 := KC5.c 3 _ rfl
                have v4 := KC5.c 4 _ rfl
                have v5 := KC5.c 5 _ rfl
                have RS := law_same t.s ⟨u.s.w, u.s.h, u.s.cells, t.s.x, t.s.y, t.s.shown⟩ t.A u.A t.c u.c wr ((HAT.out.below BQ5.out).more BQ5.out.size) (by have h := (HAU.out.below BQ5.out).more BQ5.out.size; exact ⟨h.cap, h.nil, h.len, h.ok, h.sees⟩) EW.out EH.out rfl rfl rfl QL.out
                have RS := Lib.hid RS
                have L2 : LL.length ≤ k := by omega
                simp only [scrV] at RS
                clear KT5 KC5 hr5 k1 k2
                by_cases z : LL.length = 0
                · have zz : LL = [] := List.length_eq_zero_iff.1 z
                  rw [decide_eq_true (EM.out.1 zz)] at RS
                  have ZH := Lib.hid zz
                  rw [z] at lt L2 ⊢
                  clear z zz
                  go_wp2_with fail
                  refine RS.out.mono ?_; rintro e wx ⟨rfl, hbx⟩
                  have BQ := Lib.hid (BQ5.out.trans (hbx.mono BQ5.out.size))
                  have WK := Lib.hid (law_wakes wx (E.out.of_below BQ.out (Nat.le_refl _)))
                  have BB := Lib.hid (HB.out.trans (BQ.out.mono HB.out.size))
                  clear hbx
                  go_wp2_with fail
                  refine WK.out.mono ?_; rintro e wz ⟨rfl, hbz⟩
                  have BB := Lib.hid (BB.out.trans (hbz.mono BB.out.size))
                  clear hbz
                  go_wp2_with fail
                  go_ret
                  exact ⟨rfl, BB.out⟩
                · have zz : LL ≠ [] := fun e => z (by rw [e]; rfl)
                  rw [decide_eq_false (fun e => zz (EM.out.2 e))] at RS
                  have z2 : ((LL.length : Int) == 0) = false := by simp; exact zz
                  have z3 : 0 < LL.length := by omega
                  clear zz
                  go_wp2_with fail
                  refine RS.out.mono ?_; rintro e wx ⟨rfl, hbx⟩
                  have BQ := Lib.hid (BQ5.out.trans (hbx.mono BQ5.out.size))
                  have WK := Lib.hid (law_wakes wx (E.out.of_below BQ.out (Nat.le_refl _)))
                  have BB := Lib.hid (HB.out.trans (BQ.out.mono HB.out.size))
                  clear hbx
                  go_wp2_with fail
                  refine WK.out.mono ?_; rintro e wz ⟨rfl, hbz⟩
                  have BB := Lib.hid (BB.out.trans (hbz.mono BB.out.size))
                  clear hbz
                  go_wp2_with fail
                  go_ret
                  exact ⟨rfl, BB.out⟩
          · obtain ⟨q1, q2⟩ := changed_size t.s u.s hr ru (Or.inr eh)
            rw [q1, q2]
            clear q1 q2 SE
            have n1 : (t.s.w != u.s.w) = false := by rw [ew]; simp
            have n2 : (t.s.h != u.s.h) = true := by rw [bne_iff_ne]; exact eh
            clear ew eh
            simp only [List.length_nil]
            go_wp2_with fail
            refine WK.out.mono ?_; rintro e wz ⟨rfl, hbz⟩
            have BB := Lib.hid (BB.out.trans (hbz.mono BB.out.size))
            clear hbz
            go_wp2_with fail
            go_ret
            exact ⟨rfl, BB.out⟩
        · obtain ⟨q1, q2⟩ := changed_size t.s u.s hr ru (Or.inl ew)
          rw [q1, q2]
          clear q1 q2 SE
          have n1 : (t.s.w != u.s.w) = true := by rw [bne_iff_ne]; exact ew
          clear ew
          simp only [List.length_nil]
          go_wp2_with fail
          refine WK.out.mono ?_; rintro e wz ⟨rfl, hbz⟩
          have BB := Lib.hid (BB.out.trans (hbz.mono BB.out.size))
          clear hbz
          go_wp2_with fail
          go_ret
          exact ⟨rfl, BB.out⟩
end Go.Proofs.YtohgodifnbpafaaDoor
