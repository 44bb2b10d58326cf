/- link's calls: walks. -/
import Derived.Test.YtkllilehdpdbdaaDoorDhW
namespace Go.Proofs.YtkllilehdpdbdaaDoor
open Go Go.RowKit Go.Sort
set_option linter.unusedVariables false
set_option linter.unusedSimpArgs false

def lnkV (b : Nat) (d cr ow : Int) (wt : Option Addr) : List Value := [.pointer (some ⟨b, 0, none⟩), .int .i64 d, .int .i64 cr, .int .i64 ow, .pointer wt, .bool false]
def NotG (b : Nat) : Prop := b ≠ 1 ∧ b ≠ 0 ∧ b ≠ 2
structure LkAt (w0 : World) (b lb : Nat) (x : Wri) (d cr ow : Int) (wt : Option Addr) (w : World) : Prop where
  wk : WkSt w0 b x w
  own : Own1 w lb (lnkV b d cr ow wt) 38
  ne : lb ≠ b
  lo : w0.heap.size ≤ lb
  ng : NotG lb
theorem WkSt.other {w0 : World} {b b2 : Nat} {x : Wri} {w w' : World} (h : WkSt w0 b x w) {vs : List Value} {T : TypeId} (h2 : Own1 w b2 vs T) (nT : T ≠ 51) (n1 : b2 ≠ b) (lo2 : w0.heap.size ≤ b2) (n3 : NotG b2) (g : w.grownBy w' (some b2)) : WkSt w0 b x w' := by
  obtain ⟨LA, Lc, hw⟩ := h.wr
  have KT : KeepT w w' := KeepT.grown g (fun b' e arr fl hk => by
    cases e
    unfold Own1 at h2
    rw [h2] at hk
    cases hk
    exact nT rfl)
  exact ⟨h.env.grown g n3.1 n3.2.1 n3.2.2, h.nb, h.bel.grown g h.bel.size (fun k e => by cases e; exact lo2), h.lo, LA, Lc, hw.own.of_grown g (fun e => n1 (Option.some.inj e).symm), fun e => ⟨(hw.last e).1, (hw.last e).2.stay KT⟩, hw.tx, hw.tt⟩
theorem LkAt.below {w0 : World} {b lb : Nat} {x : Wri} {d cr ow : Int} {wt : Option Addr} {w w' : World} (h : LkAt w0 b lb x d cr ow wt w) (hb : Below w.heap.size w w') : LkAt w0 b lb x d cr ow wt w' :=
  ⟨h.wk.below hb, h.own.below hb, h.ne, h.lo, h.ng⟩
theorem LkAt.setOw {w0 : World} {b lb : Nat} {x : Wri} {d cr ow : Int} {wt : Option Addr} {w : World} (h : LkAt w0 b lb x d cr ow wt w) (n : Int) : LkAt w0 b lb x d cr n wt (w.setCell ⟨lb, 3, none⟩ (.int .i64 n)) :=
  ⟨h.wk.other h.own (by decide) h.ne h.lo h.ng (grown_set w ⟨lb, 3, none⟩ (.int .i64 n)), h.own.set 3 _, h.ne, h.lo, h.ng⟩
theorem LkAt.setWt {w0 : World} {b lb : Nat} {x : Wri} {d cr ow : Int} {wt : Option Addr} {w : World} (h : LkAt w0 b lb x d cr ow wt w) (p : Option Addr) : LkAt w0 b lb x d cr ow p (w.setCell ⟨lb, 4, none⟩ (.pointer p)) :=
  ⟨h.wk.other h.own (by decide) h.ne h.lo h.ng (grown_set w ⟨lb, 4, none⟩ (.pointer p)), h.own.set 4 _, h.ne, h.lo, h.ng⟩
theorem LkAt.frame {w0 : World} {b lb : Nat} {x y : Wri} {d cr ow : Int} {wt : Option Addr} {w w' : World} (h : LkAt w0 b lb x d cr ow wt w) (hy : WkSt w0 b y w') (g : w.grownBy w' (some b)) : LkAt w0 b lb y d cr ow wt w' :=
  ⟨hy, h.own.of_grown g (fun e => h.ne (Option.some.inj e)), h.ne, h.lo, h.ng⟩
/-- a frame that waits -/
def lkS (s : Scr) (A : Option Addr) (c : Nat) : List Value := [.int .i64 s.w, .int .i64 s.h, .slice A s.cells.length c, .int .i64 s.x, .int .i64 s.y, .bool s.shown]
structure Wtg (p : Nat) (s : Scr) (w : World) : Prop where
  at_ : ∃ A c, Own1 w p (lkS s A c) 24 ∧ TRow w A s.cells ∧ s.cells.length ≤ c
  len : s.cells.length ≤ 1000000000000
  ok : ∀ x ∈ s.cells, okC x
theorem Wtg.below {p : Nat} {s : Scr} {w w' : World} (h : Wtg p s w) (hb : Below w.heap.size w w') : Wtg p s w' := by
  obtain ⟨A, c, h1, h2, h3⟩ := h.at_
  exact ⟨⟨A, c, h1.below hb, h2.below hb, h3⟩, h.len, h.ok⟩
theorem TRow.ne {W : World} {A : Option Addr} {L : List Cel} (h : TRow W A L) : ∃ g, A = some ⟨g, 0, none⟩ := by
  obtain ⟨g, _, _, e, _⟩ := h
  exact ⟨g, e⟩
theorem red_ok (s : Scr) (d : Int) (h : ∀ x ∈ s.cells, okC x) : ∀ x ∈ (redS s d).cells, okC x := by
  intro x hx
  unfold redS redL at hx
  obtain ⟨y, hy, rfl⟩ := List.mem_map.1 hx
  exact h y hy

/- calls on a link that isn't there -/
theorem lk_Offer_nil (s : Scr) (A : Option Addr) (c : Nat) (w : World) : Calls Tryd.prog 4 #[.pointer none, scrV s A c] w fun e w' => e = .returned (.tuple #[.slice none 0 0, .int .i64 1]) ∧ Below w.heap.size w w' := by
  simp only [scrV]
  generalize s.cells.length = n at *
  go_enter Tryd.func4, Tryd.ntmps4
  go_wp2_with fail
  go_ret2
  exact ⟨rfl, (Below.refl _ _).alloc (Nat.le_refl _) _⟩
theorem lk_Ack_nil (n : Int) (w : World) : Calls Tryd.prog 5 #[.pointer none, .int .i64 n] w fun e w' => e = .returned (.tuple #[.slice none 0 0, .int .i64 1]) ∧ w' = w := by
  go_enter Tryd.func5, Tryd.ntmps5
  go_wp2_with fail
  go_ret2
  exact ⟨rfl, rfl⟩
theorem lk_Owed_nil (w : World) : Calls Tryd.prog 6 #[.pointer none] w fun e w' => e = .returned (.int .i64 0) ∧ w' = w := by
  go_enter Tryd.func6, Tryd.ntmps6
  go_wp2_with fail
  go_ret
  exact ⟨rfl, rfl⟩
theorem lk_Waits_nil (w : World) : Calls Tryd.prog 7 #[.pointer none] w fun e w' => e = .returned (.bool false) ∧ w' = w := by
  go_enter Tryd.func7, Tryd.ntmps7
  go_wp2_with fail
  go_ret
  exact ⟨rfl, rfl⟩
theorem lk_Close_nil (w : World) : Calls Tryd.prog 8 #[.pointer none] w fun e w' => e = .returned (.int .i64 1) ∧ w' = w := by
  go_enter Tryd.func8, Tryd.ntmps8
  go_wp2_with fail
  go_ret
  exact ⟨rfl, rfl⟩

/- questions -/
theorem lk_Owed {w0 : World} {b lb : Nat} {x : Wri} {d cr ow : Int} {wt : Option Addr} {w : World} (h : LkAt w0 b lb x d cr ow wt w) : Calls Tryd.prog 6 #[.pointer (some ⟨lb, 0, none⟩)] w fun e w' => e = .returned (.int .i64 ow) ∧ w' = w := by
  have K := h.own.blk
  have k3 := K.c 3 _ rfl
  have f3 := K.f 3 _ rfl
  clear K h
  go_enter Tryd.func6, Tryd.ntmps6
  go_wp2_with fail
  go_ret
  exact ⟨rfl, rfl⟩
theorem lk_Waits {w0 : World} {b lb : Nat} {x : Wri} {d cr ow : Int} {wt : Option Addr} {w : World} (h : LkAt w0 b lb x d cr ow wt w) : Calls Tryd.prog 7 #[.pointer (some ⟨lb, 0, none⟩)] w fun e w' => e = .returned (.bool wt.isSome) ∧ w' = w := by
  have K := h.own.blk
  have k4 := K.c 4 _ rfl
  have f4 := K.f 4 _ rfl
  clear K h
  cases wt with
  | none =>
    go_enter Tryd.func7, Tryd.ntmps7
    go_wp2_with fail
    go_ret
    exact ⟨rfl, rfl⟩
  | some p =>
    go_enter Tryd.func7, Tryd.ntmps7
    go_wp2_with fail
    go_ret
    exact ⟨rfl, rfl⟩
theorem lk_New (d cr : Int) (hd : okD d = true) (h1 : 1 ≤ cr) (h2 : cr ≤ 1048576) (w : World) (E : EnvD w) : Calls Tryd.prog 12 #[.int .i64 d, .int .i64 cr] w fun e w' => e = .returned (.tuple #[.pointer (some ⟨w.heap.size + 1, 0, none⟩), .int .i64 0]) ∧ LkAt w w.heap.size (w.heap.size + 1) (wri0 d) d cr 0 none w' := by
  have NW := Lib.hid (d_New d hd w)
  have ST := Lib.hid (wk_new d hd w E)
  clear hd E
  go_enter Tryd.func12, Tryd.ntmps12
  go_wp2_with fail
  refine NW.out.mono ?_; rintro e w1 ⟨rfl, e1⟩
  have QS : w1.heap.size = w.heap.size + 1 := by rw [e1]; simp
  rw [← e1] at ST
  clear e1 NW
  go_wp2_with fail
  go_ret2
  have hb : Below w1.heap.size w1 (w1.alloc (.cells (lnkV w.heap.size d cr 0 none).toArray 38)) := (Below.refl _ _).alloc (Nat.le_refl _) _
  have on := World.alloc_heap_new w1 (.cells (lnkV w.heap.size d cr 0 none).toArray 38)
  rw [QS] at on
  refine ⟨rfl, ST.out.below hb, on, by omega, by omega, ?_⟩
  have E := ST.out.env
  refine ⟨?_, ?_, ?_⟩
  · have := block_lt_of_cell (E.st.on 0 (by decide)); simp only at this; omega
  · have := block_lt_of_cell (E.st.off 0 (by decide)); simp only at this; omega
  · have := E.pg; omega
end Go.Proofs.YtkllilehdpdbdaaDoor

/- frames and what is acknowledged -/
namespace Go.Proofs.YtkllilehdpdbdaaDoor
open Go Go.RowKit Go.Sort
set_option linter.unusedVariables false
set_option linter.unusedSimpArgs false

theorem own_next {w : World} {vs us : List Value} {S T : TypeId} : Own1 ((w.alloc (.cells vs.toArray S)).alloc (.cells us.toArray T)) (w.heap.size + 1) us T := by
  have h := World.alloc_heap_new (w.alloc (.cells vs.toArray S)) (.cells us.toArray T)
  have e : (w.alloc (.cells vs.toArray S)).heap.size = w.heap.size + 1 := by simp
  rw [e] at h
  exact h
theorem lk_red (s : Scr) (A : Option Addr) (c : Nat) (w : World) (hs : ScrAt w w.heap.size s A c) (hr : rightS s = true) : Calls Tryd.prog 10 #[scrV s A c, .int .i64 3] w fun e w' => ∃ A', e = .returned (.tuple #[.agg #[.int .i64 s.w, .int .i64 s.h, .slice A' s.cells.length s.cells.length, .int .i64 s.x, .int .i64 s.y, .bool s.shown], .int .i64 0]) ∧ TRow w' A' (redS s 3).cells ∧ Below w.heap.size w w' := by
  refine (d_Reduced s 3 A c hs.cap hs.nil hs.len hs.ok hr w hs.sees).mono ?_
  rintro e w' ⟨g, rfl, h1, h2⟩
  have L : (redS s 3).cells.length = s.cells.length := by show (redL s.cells 3).length = _; simp [redL]
  have e1 : scrV (redS s 3) (some ⟨g, 0, none⟩) s.cells.length = .agg #[.int .i64 s.w, .int .i64 s.h, .slice (some ⟨g, 0, none⟩) s.cells.length s.cells.length, .int .i64 s.x, .int .i64 s.y, .bool s.shown] := by
    unfold scrV
    rw [L]
    rfl
  refine ⟨_, by rw [e1], TRow.of_own h1, h2⟩

set_option maxHeartbeats 4000000 in
set_option maxRecDepth 100000 in
theorem lk_send {w0 : World} {b lb : Nat} {x : Wri} {d cr ow : Int} {wt : Option Addr} {w : World} (h : LkAt w0 b lb x d cr ow wt w) (s : Scr) (A : Option Addr) (c : Nat) (hs : ScrAt w w.heap.size s A c) (hr : rightS s = true) (ht : totS s.cells ≤ 1000000000)
    (n : Nat) (hn : (frameT x (redS s x.depth)).out.size = n) (h0 : 0 ≤ ow) (h1 : ow + n ≤ 1000000000000000) :
    Calls Tryd.prog 11 #[.pointer (some ⟨lb, 0, none⟩), scrV s A c] w fun e w' => ∃ A' c', e = .returned (.slice A' n c') ∧ LkAt w0 b lb (frameW x s) d cr (ow + n) wt w' := by
  obtain ⟨Q, hQ⟩ : ∃ Q, Q = w.alloc (.cells #[.int .i64 s.w, .int .i64 s.h, .slice A s.cells.length c, .int .i64 s.x, .int .i64 s.y, .bool s.shown] 24) := ⟨_, rfl⟩
  have BQ : Below w.heap.size w Q := by rw [hQ]; exact (Below.refl _ w).alloc (Nat.le_refl _) _
  have KS : Blk Q w.heap.size [.int .i64 s.w, .int .i64 s.h, .slice A s.cells.length c, .int .i64 s.x, .int .i64 s.y, .bool s.shown] := by rw [hQ]; exact Blk.new w _ _
  have LQ := h.below BQ
  have FR : Hid (∀ W, Below Q.heap.size Q W → Calls Tryd.prog 16 #[.pointer (some ⟨b, 0, none⟩), scrV s A c] W fun e w' => ∃ A' c', e = .returned (.tuple #[.slice A' n c', .int .i64 0]) ∧ Hid (LkAt w0 b lb (frameW x s) d cr ow wt w')) :=
    Lib.hid (fun W hW => by
      have LW := LQ.below hW
      have SW := (hs.below (BQ.trans (hW.mono BQ.size))).more (Nat.le_trans BQ.size hW.size)
      refine (wk_frame LW.wk s A c SW hr ht).mono ?_
      rintro e w' ⟨v, rfl, ho, hk, hg⟩
      rw [hn] at ho
      obtain ⟨A', c', rfl⟩ := own_slice' ho
      exact ⟨A', c', rfl, Lib.hid (LW.frame hk hg)⟩)
  have K := LQ.own.blk
  have k0 := K.c 0 _ rfl
  have f0 := K.f 0 _ rfl
  have s0 := KS.c 0 _ rfl
  have s1 := KS.c 1 _ rfl
  have s2 := KS.c 2 _ rfl
  have s3 := KS.c 3 _ rfl
  have s4 := KS.c 4 _ rfl
  have s5 := KS.c 5 _ rfl
  simp only [scrV] at FR ⊢
  have wk : IntKind.i64.wrap (ow + n) = ow + n := IntWalk.i64_in _ (by omega)
  generalize s.cells.length = m at *
  clear K KS LQ BQ hs h hr ht hn
  go_enter Tryd.func11, Tryd.ntmps11
  go_upto_region 1 with fail
  rw [← hQ]
  clear hQ
  go_cut [5] from 6 to 15 (fun s5 wx => ∃ A' c', s5 = .slice A' n c' ∧ Hid (LkAt w0 b lb (frameW x s) d cr ow wt wx))
  case first =>
    go_region_with ((go_at_call 16; refine (FR.out _ (by first | exact Below.refl _ Q | exact (Below.refl _ Q).drew)).mono ?_; rintro e w1 ⟨A', c', rfl, L1⟩))
    all_goals
      go_wp2_with fail
      go_meet
      exact ⟨A', c', rfl, L1⟩
  case rest =>
    obtain ⟨A', c', rfl, L1⟩ := hcut
    have K := L1.out.own.blk
    have k3 := K.c 3 _ rfl
    have f3 := K.f 3 _ rfl
    clear FR K
    go_wp2_with fail
    go_ret
    exact ⟨A', c', rfl, L1.out.setOw _⟩
end Go.Proofs.YtkllilehdpdbdaaDoor

/- offers, and what is acknowledged -/
namespace Go.Proofs.YtkllilehdpdbdaaDoor
open Go Go.RowKit Go.Sort
set_option linter.unusedVariables false
set_option linter.unusedSimpArgs false

def agS (s : Scr) (A : Option Addr) (n c : Nat) : List Value := [.int .i64 s.w, .int .i64 s.h, .slice A n c, .int .i64 s.x, .int .i64 s.y, .bool s.shown]
def putS (w : World) (s : Scr) (A : Option Addr) (n c : Nat) : World := w.alloc (.cells #[.int .i64 s.w, .int .i64 s.h, .slice A n c, .int .i64 s.x, .int .i64 s.y, .bool s.shown] 24)
theorem putS_own (w : World) (s : Scr) (A : Option Addr) (n c : Nat) : Own1 (putS w s A n c) w.heap.size (agS s A n c) 24 := World.alloc_heap_new w _
theorem putS_below (w : World) (s : Scr) (A : Option Addr) (n c : Nat) : Below w.heap.size w (putS w s A n c) := (Below.refl _ _).alloc (Nat.le_refl _) _
theorem _root_.Go.World.below_drew (W : World) : Below W.heap.size W W.drew := (Below.refl _ W).drew
theorem red_len (s : Scr) (d : Int) : (redS s d).cells.length = s.cells.length := by show (redL s.cells d).length = _; simp [redL]

def OfPost (w0 : World) (b lb : Nat) (x : Wri) (d cr ow : Int) (wt : Option Addr) (s : Scr) (n : Nat) (e : Ending) (w' : World) : Prop :=
  (ow < cr ∧ ∃ A' c', e = .returned (.tuple #[.slice A' n c', .int .i64 0]) ∧ LkAt w0 b lb (frameW x (redS s 3)) d cr (ow + n) wt w') ∨
      (cr ≤ ow ∧ e = .returned (.tuple #[.slice none 0 0, .int .i64 0]) ∧ ∃ p, LkAt w0 b lb x d cr ow (some ⟨p, 0, none⟩) w' ∧ Wtg p (redS s 3) w')
set_option maxHeartbeats 4000000 in
set_option maxRecDepth 100000 in
theorem lk_Offer {w0 : World} {b lb : Nat} {x : Wri} {d cr ow : Int} {wt : Option Addr} {w : World} (h : LkAt w0 b lb x d cr ow wt w) (s : Scr) (A : Option Addr) (c : Nat) (hs : ScrAt w w.heap.size s A c) (hr : rightS s = true) (hr3 : rightS (redS s 3) = true) (ht : totS (redS s 3).cells ≤ 1000000000)
    (n : Nat) (hn : (frameT x (redS (redS s 3) x.depth)).out.size = n) (h0 : 0 ≤ ow) (h1 : ow + n ≤ 1000000000000000) :
    Calls Tryd.prog 4 #[.pointer (some ⟨lb, 0, none⟩), scrV s A c] w (OfPost w0 b lb x d cr ow wt s n) := by
  obtain ⟨Q, hQ⟩ : ∃ Q, Q = w.alloc (.cells #[.int .i64 s.w, .int .i64 s.h, .slice A s.cells.length c, .int .i64 s.x, .int .i64 s.y, .bool s.shown] 24) := ⟨_, rfl⟩
  have BQ : Below w.heap.size w Q := by rw [hQ]; exact (Below.refl _ w).alloc (Nat.le_refl _) _
  have KS : Blk Q w.heap.size [.int .i64 s.w, .int .i64 s.h, .slice A s.cells.length c, .int .i64 s.x, .int .i64 s.y, .bool s.shown] := by rw [hQ]; exact Blk.new w _ _
  have LQ := h.below BQ
  have RD := Lib.hid (lk_red s A c Q ((hs.below BQ).more BQ.size) hr)
  have LN := red_len s 3
  have SD : Hid (∀ W A', LkAt w0 b lb x d cr ow wt W → TRow W A' (redS s 3).cells → Calls Tryd.prog 11 #[.pointer (some ⟨lb, 0, none⟩), .agg #[.int .i64 s.w, .int .i64 s.h, .slice A' s.cells.length s.cells.length, .int .i64 s.x, .int .i64 s.y, .bool s.shown]] W fun e w' => ∃ A' c', e = .returned (.slice A' n c') ∧ LkAt w0 b lb (frameW x (redS s 3)) d cr (ow + n) wt w') := Lib.hid (fun W A' hW hT => by
    have sc : ScrAt W W.heap.size (redS s 3) A' s.cells.length := ⟨by omega, (fun e => by obtain ⟨g, e2⟩ := hT.ne; rw [e] at e2; cases e2), by rw [LN]; exact hs.len, red_ok s 3 hs.ok, hT.sees⟩
    have := lk_send hW (redS s 3) A' s.cells.length sc hr3 ht n hn h0 h1
    unfold scrV at this
    rw [LN] at this
    exact this)
  have OK3 := Lib.hid (red_ok s 3 hs.ok)
  have LE3 := hs.len
  rw [← LN] at LE3
  have K := LQ.own.blk
  have k5 := K.c 5 _ rfl
  have f5 := K.f 5 _ rfl
  have s0 := KS.c 0 _ rfl
  have s1 := KS.c 1 _ rfl
  have s2 := KS.c 2 _ rfl
  have s3 := KS.c 3 _ rfl
  have s4 := KS.c 4 _ rfl
  have s5 := KS.c 5 _ rfl
  have LH := Lib.hid LQ
  have LNH := Lib.hid LN
  simp only [scrV] at RD ⊢
  generalize s.cells.length = m at *
  clear K KS LQ BQ hs h hr ht hn LN
  go_enter Tryd.func4, Tryd.ntmps4
  go_upto_region 1 with fail
  rw [← hQ]
  clear hQ
  go_wp2_with fail
  refine RD.out.mono ?_; rintro e w1 ⟨A', rfl, T1, hb1⟩
  clear s0 s1 s2 s3 s4 s5 k5 f5 RD
  go_upto_region 8 with fail
  obtain ⟨W, hW⟩ : ∃ W, W = putS w1 s A' m m := ⟨_, rfl⟩
  have OW := putS_own w1 s A' m m
  have BW := putS_below w1 s A' m m
  rw [← hW] at OW BW
  unfold putS at hW
  rw [← hW]
  have L1 := (LH.out.below hb1).below BW
  have T2 := Lib.hid (T1.below BW)
  have K := L1.own.blk
  have KW := OW.blk
  have k2 := K.c 2 _ rfl
  have k3 := K.c 3 _ rfl
  have k4 := K.c 4 _ rfl
  have f2 := K.f 2 _ rfl
  have f3 := K.f 3 _ rfl
  have f4 := K.f 4 _ rfl
  have n0 := KW.c 0 _ rfl
  have n1 := KW.c 1 _ rfl
  have n2 := KW.c 2 _ rfl
  have n3 := KW.c 3 _ rfl
  have n4 := KW.c 4 _ rfl
  have n5 := KW.c 5 _ rfl
  have OH := Lib.hid OW
  have L1 := Lib.hid L1
  have NE : lb ≠ w1.heap.size := by have := (LH.out.below hb1).own.lt; omega
  clear K KW OW BW hb1 T1 LH hW
  by_cases lt : ow < cr
  · have L1 := Lib.hid (L1.out.below (W.below_drew))
    have T2 := Lib.hid (T2.out.below (W.below_drew))
    go_region
    go_wp2_with fail
    refine (SD.out _ A' L1.out T2.out).mono ?_; rintro e w2 ⟨A2, c2, rfl, L2⟩
    have L2 := Lib.hid L2
    go_wp2_with fail
    go_ret2
    exact Or.inl ⟨lt, A2, c2, rfl, L2.out⟩
  · have T3 : Hid (TRow (W.setCell ⟨lb, 4, none⟩ (.pointer (some ⟨w1.heap.size, 0, none⟩))) A' (redS s 3).cells) := Lib.hid (by
      refine T2.out.stay (KeepT.grown (grown_set W ⟨lb, 4, none⟩ (.pointer (some ⟨w1.heap.size, 0, none⟩))) (fun b' e arr fl hk => ?_))
      cases e
      have := L1.out.own
      unfold Own1 at this
      rw [this] at hk
      cases hk)
    have O3 : Hid (Own1 (W.setCell ⟨lb, 4, none⟩ (.pointer (some ⟨w1.heap.size, 0, none⟩))) w1.heap.size (lkS (redS s 3) A' m) 24) := Lib.hid (by
      have o := OH.out.of_grown (grown_set W ⟨lb, 4, none⟩ (.pointer (some ⟨w1.heap.size, 0, none⟩))) (fun e => NE (Option.some.inj e).symm)
      unfold lkS
      rw [LNH.out]
      exact o)
    have L3 := Lib.hid (L1.out.setWt (some ⟨w1.heap.size, 0, none⟩))
    clear T2 L1 OH
    go_region
    go_wp2_with fail
    go_ret2
    refine Or.inr ⟨by omega, rfl, w1.heap.size, L3.out.below (World.below_drew _), ⟨A', m, O3.out.below (World.below_drew _), T3.out.below (World.below_drew _), ?_⟩, LE3, OK3.out⟩
    rw [LNH.out]; exact Nat.le_refl _

set_option maxHeartbeats 4000000 in
set_option maxRecDepth 100000 in
theorem lk_Ack {w0 : World} {b lb p : Nat} {x : Wri} {d cr ow k : Int} {w : World} (h : LkAt w0 b lb x d cr ow (some ⟨p, 0, none⟩) w) (s : Scr) (hp : Wtg p s w) (hr : rightS s = true) (ht : totS s.cells ≤ 1000000000)
    (n : Nat) (hn : (frameT x (redS s x.depth)).out.size = n) (h0 : 0 ≤ k) (hk : k ≤ ow) (hb : ow ≤ 1000000000000) (hnb : n ≤ 1000000000000) (lt : ow - k < cr) :
    Calls Tryd.prog 5 #[.pointer (some ⟨lb, 0, none⟩), .int .i64 k] w fun e w' => ∃ A' c', e = .returned (.tuple #[.slice A' n c', .int .i64 0]) ∧ LkAt w0 b lb (frameW x s) d cr (ow - k + n) none w' := by
  obtain ⟨A, c, OP, TP, CP⟩ := hp.at_
  have wk : IntKind.i64.wrap (ow - k) = ow - k := IntWalk.i64_in _ (by omega)
  obtain ⟨W1, hW1⟩ : ∃ W1, W1 = w.setCell ⟨lb, 3, none⟩ (.int .i64 (ow - k)) := ⟨_, rfl⟩
  have L1 := h.setOw (ow - k)
  rw [← hW1] at L1
  have G1 := grown_set w ⟨lb, 3, none⟩ (.int .i64 (ow - k))
  rw [← hW1] at G1
  have NE : p ≠ lb := by
    intro e
    subst e
    have a := h.own
    unfold Own1 at OP a
    rw [OP] at a
    cases a
  have KT : ∀ {W W' : World}, Own1 W lb (lnkV b d cr (ow - k) (some ⟨p, 0, none⟩)) 38 → W.grownBy W' (some lb) → KeepT W W' := fun {W W'} a g => KeepT.grown g (fun b' e arr fl hk => by
    cases e
    unfold Own1 at a
    rw [a] at hk
    cases hk)
  have KT0 : KeepT w W1 := KeepT.grown G1 (fun b' e arr fl hk => by
    cases e
    have a := h.own
    unfold Own1 at a
    rw [a] at hk
    cases hk)
  have O1 := OP.of_grown G1 (fun e => NE (Option.some.inj e))
  have T1 := TP.stay KT0
  have SD : Hid (∀ W, LkAt w0 b lb x d cr (ow - k) none W → TRow W A s.cells → Calls Tryd.prog 11 #[.pointer (some ⟨lb, 0, none⟩), .agg #[.int .i64 s.w, .int .i64 s.h, .slice A s.cells.length c, .int .i64 s.x, .int .i64 s.y, .bool s.shown]] W fun e w' => ∃ A' c', e = .returned (.slice A' n c') ∧ LkAt w0 b lb (frameW x s) d cr (ow - k + n) none w') := Lib.hid (fun W hW hT => by
    have sc : ScrAt W W.heap.size s A c := ⟨CP, (fun e => by obtain ⟨g, e2⟩ := hT.ne; rw [e] at e2; cases e2), hp.len, hp.ok, hT.sees⟩
    exact lk_send hW s A c sc hr ht n hn (by omega) (by omega))
  have K := h.own.blk
  have K1 := L1.own.blk
  have KP := O1.blk
  have a3 := K.c 3 _ rfl
  have b3 := K.f 3 _ rfl
  have a5 := K.c 5 _ rfl
  have b5 := K.f 5 _ rfl
  have k2 := K1.c 2 _ rfl
  have k3 := K1.c 3 _ rfl
  have k4 := K1.c 4 _ rfl
  have f2 := K1.f 2 _ rfl
  have f3 := K1.f 3 _ rfl
  have f4 := K1.f 4 _ rfl
  have n0 := KP.c 0 _ rfl
  have n1 := KP.c 1 _ rfl
  have n2 := KP.c 2 _ rfl
  have n3 := KP.c 3 _ rfl
  have n4 := KP.c 4 _ rfl
  have n5 := KP.c 5 _ rfl
  have LH := Lib.hid L1
  have TH := Lib.hid T1
  have OPH := Lib.hid O1
  have KH := Lib.hid (fun W W' => @KT W W')
  clear K K1 KP h hp hr ht hn OP TP CP L1 T1 O1 KT KT0 G1
  go_enter Tryd.func5, Tryd.ntmps5
  go_upto_region 8 with fail
  rw [← hW1]
  clear hW1 a3 b3 a5 b5
  refine wp_region_draw_tail 9 (by kernel_rfl) (by kernel_rfl) ?_
  simp only [List.take_succ_cons, List.take_zero, List.drop_succ_cons, List.drop_zero]
  repeat (quiet_step (fail))
  refine wpQuiet_nil ?_
  intro _ hw'
  obtain ⟨nq, hw''⟩ := hw'
  subst hw''
  have LH := Lib.hid (LH.out.below (below_drewN (Below.refl _ W1) nq))
  have TH := Lib.hid (TH.out.below (below_drewN (Below.refl _ W1) nq))
  have OPH := Lib.hid (OPH.out.below (below_drewN (Below.refl _ W1) nq))
  obtain ⟨V, hV⟩ : ∃ V, V = W1.drewN nq := ⟨_, rfl⟩
  rw [← hV] at LH TH OPH ⊢
  clear hV n0 n1 n2 n3 n4 n5 f2 f3 f4 k2 k3 k4
  have K1 := LH.out.own.blk
  have KP := OPH.out.blk
  have k4 := K1.c 4 _ rfl
  have f4 := K1.f 4 _ rfl
  have n0 := KP.c 0 _ rfl
  have n1 := KP.c 1 _ rfl
  have n2 := KP.c 2 _ rfl
  have n3 := KP.c 3 _ rfl
  have n4 := KP.c 4 _ rfl
  have n5 := KP.c 5 _ rfl
  clear K1 KP
  go_upto_region 11 with fail
  obtain ⟨W2, hW2⟩ : ∃ W2, W2 = putS V s A s.cells.length c := ⟨_, rfl⟩
  have OW := putS_own V s A s.cells.length c
  have BW := putS_below V s A s.cells.length c
  rw [← hW2] at OW BW
  unfold putS at hW2
  rw [← hW2]
  have L2 := LH.out.below BW
  have T2 := TH.out.below BW
  have KL := L2.own.blk
  have q4 := KL.f 4 _ rfl
  have p4 := KL.c 4 _ rfl
  have NL : V.heap.size ≠ lb := by have := LH.out.own.lt; omega
  obtain ⟨W3, hW3⟩ : ∃ W3, W3 = W2.setCell ⟨lb, 4, none⟩ (.pointer none) := ⟨_, rfl⟩
  have G3 := grown_set W2 ⟨lb, 4, none⟩ (.pointer none)
  have L3 := L2.setWt none
  rw [← hW3] at G3 L3
  have T3 := Lib.hid (T2.stay (KH.out _ _ L2.own G3))
  have O3 := OW.of_grown G3 (fun e => NL (Option.some.inj e))
  have L3 := Lib.hid L3
  have K3 := O3.blk
  clear n0 n1 n2 n3 n4 n5 k4 f4
  have n0 := K3.c 0 _ rfl
  have n1 := K3.c 1 _ rfl
  have n2 := K3.c 2 _ rfl
  have n3 := K3.c 3 _ rfl
  have n4 := K3.c 4 _ rfl
  have n5 := K3.c 5 _ rfl
  clear OW BW L2 T2 KL G3 O3 K3 hW2
  go_upto_region 12 with fail
  rw [← hW3]
  clear hW3
  go_wp2_with fail
  refine (SD.out _ L3.out T3.out).mono ?_; rintro e w2 ⟨A2, c2, rfl, L4⟩
  have L4 := Lib.hid L4
  go_wp2_with fail
  go_ret2
  exact ⟨A2, c2, rfl, L4.out⟩
end Go.Proofs.YtkllilehdpdbdaaDoor
