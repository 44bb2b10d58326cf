/- A frame's bytes, the program's side: Frame of no writer, Frame of a screen that is not right. -/
import Derived.Test.YtkllilehdpdbdaaDoorDgP
import Derived.Deep.RegionWith
namespace Go.Proofs.YtkllilehdpdbdaaDoor
open Go Go.RowKit Go.Sort
set_option linter.unusedVariables false
set_option linter.unusedSimpArgs false

/-- a row of cells in a block of its own -/
def TRow (W : World) (A : Option Addr) (L : List Cel) : Prop := ∃ (g : Nat) (arr : Array Value) (fl : Nat × Nat), A = some ⟨g, 0, none⟩ ∧ W.heap[g]? = some (Obj.cells arr 51 fl) ∧ Sees W W.heap.size A (celsV L)
theorem TRow.keep {W W' : World} {A : Option Addr} {L : List Cel} (h : TRow W A L) (k : KeepT W W') (hs : W.heap.size ≤ W'.heap.size) : TRow W' A L := by
  obtain ⟨g, arr, fl, rfl, hg, S⟩ := h
  exact ⟨g, arr, fl, rfl, (k g arr fl hg).trans hg, (k.sees hg S).more hs⟩
theorem TRow.below {W W' : World} {A : Option Addr} {L : List Cel} (h : TRow W A L) (hb : Below W.heap.size W W') : TRow W' A L := h.keep (KeepT.below hb) hb.size
theorem TRow.of_own {W : World} {base g n : Nat} {L : List Cel} (h : W.ownsRow base 51 5 (.slice (some ⟨g, 0, none⟩) n n) n (celsV L)) : TRow W (some ⟨g, 0, none⟩) L := by
  rcases h.2 with ⟨e, _⟩ | ⟨g', cap, cur, e, _, hg, _⟩
  · cases e
  · injection e with e1
    injection e1 with e1
    injection e1 with e1
    subst e1
    refine ⟨g, cur, (0, 0), rfl, hg, fun _ => ⟨_, rfl, (Array.getElem?_eq_some_iff.1 hg).1, fun j u hj => ?_⟩⟩
    exact h.cells (g := g) rfl j u hj
/-- a writer at hand -/
structure WrAt (w : World) (b : Nat) (x : Wri) (LA : Option Addr) (Lc : Nat) : Prop where
  own : Own1 w b (wriV x.depth x.told x.last.w x.last.h LA x.last.cells.length Lc x.last.x x.last.y x.last.shown x.tel x.shown) 60
  last : x.told = true → rightS x.last = true ∧ TRow w LA x.last.cells
  tx : 0 ≤ x.tel.x ∧ x.tel.x ≤ 5000
  tt : x.tel.text.size ≤ 400000000000
theorem WrAt.below {w w' : World} {b : Nat} {x : Wri} {LA : Option Addr} {Lc : Nat} (h : WrAt w b x LA Lc) (hb : Below w.heap.size w w') : WrAt w' b x LA Lc :=
  ⟨h.own.below hb, fun e => ⟨(h.last e).1, (h.last e).2.below hb⟩, h.tx, h.tt⟩

set_option maxHeartbeats 8000000 in
set_option maxRecDepth 100000 in
theorem d_Frame_nil (s : Scr) (A : Option Addr) (c : Nat) (w : World) : Calls Tryd.prog 16 #[.pointer none, scrV s A c] w fun e w' => e = .returned (.tuple #[.slice none 0 0, .int .i64 1]) ∧ Below w.heap.size w w' := by
  simp only [scrV]
  generalize s.cells.length = n at *
  go_enter Tryd.func16, Tryd.ntmps16
  go_wp2_with fail
  go_ret2
  exact ⟨rfl, ((Below.refl _ _).alloc (Nat.le_refl _) _).alloc (by simp) _⟩

set_option maxHeartbeats 16000000 in
set_option maxRecDepth 100000 in
theorem d_Frame_no (b : Nat) (x : Wri) (LA : Option Addr) (Lc : Nat) (s : Scr) (A : Option Addr) (c : Nat) (w : World) (hx : WrAt w b x LA Lc) (hs : ScrAt w w.heap.size s A c) (hr : rightS s = false) :
    Calls Tryd.prog 16 #[.pointer (some ⟨b, 0, none⟩), scrV s A c] w fun e w' => e = .returned (.tuple #[.slice none 0 0, .int .i64 180]) ∧ Below w.heap.size w w' := by
  obtain ⟨Q, hQ⟩ : ∃ Q, Q = (w.alloc (.cells #[.pointer (some ⟨b, 0, none⟩)] 35)).alloc (.cells #[.int .i64 s.w, .int .i64 s.h, .slice A s.cells.length c, .int .i64 s.x, .int .i64 s.y, .bool s.shown] 24) := ⟨_, rfl⟩
  have BQ : Below w.heap.size w Q := by rw [hQ]; exact ((Below.refl _ w).alloc (Nat.le_refl _) _).alloc (by simp) _
  have KP : Blk Q w.heap.size [.pointer (some ⟨b, 0, none⟩)] := by
    rw [hQ]
    exact (Blk.new w [.pointer (some ⟨b, 0, none⟩)] 35).alloc _
  have KS : Blk Q (w.heap.size + 1) [.int .i64 s.w, .int .i64 s.h, .slice A s.cells.length c, .int .i64 s.x, .int .i64 s.y, .bool s.shown] := by
    have := Blk.new (w.alloc (.cells #[.pointer (some ⟨b, 0, none⟩)] 35)) [.int .i64 s.w, .int .i64 s.h, .slice A s.cells.length c, .int .i64 s.x, .int .i64 s.y, .bool s.shown] 24
    have e : (w.alloc (.cells #[.pointer (some ⟨b, 0, none⟩)] 35)).heap.size = w.heap.size + 1 := by simp
    rw [e] at this
    rw [hQ]
    exact this
  have KW := (hx.own.below BQ).blk
  have bl := hx.own.lt
  have RD : Hid (∀ W, Below Q.heap.size Q W → Calls Tryd.prog 10 #[scrV s A c, .int .i64 x.depth] W fun e w' => e = .returned (.tuple #[.agg #[.int .i64 0, .int .i64 0, .slice none 0 0, .int .i64 0, .int .i64 0, .bool false], .int .i64 180]) ∧ Below W.heap.size W w' ∧ Hid (Below w.heap.size w w')) :=
    Lib.hid (fun W hW => (d_Reduced_no s x.depth A c hs.cap hs.nil hs.len hs.ok hr _ ((hs.below (BQ.trans (hW.mono BQ.size))).more (Nat.le_trans BQ.size hW.size)).sees).mono fun e w' ⟨h1, h2⟩ => ⟨h1, h2, Lib.hid ((BQ.trans (hW.mono BQ.size)).trans (h2.mono (Nat.le_trans BQ.size hW.size)))⟩)
  have b0 := KW.c 0 _ rfl
  have p0 := KP.c 0 _ rfl
  have s0 := KS.c 0 _ rfl
  have s1 := KS.c 1 _ rfl
  have s2 := KS.c 2 _ rfl
  have s3 := KS.c 3 _ rfl
  have s4 := KS.c 4 _ rfl
  have s5 := KS.c 5 _ rfl
  have HB := Lib.hid BQ
  simp only [scrV] at RD ⊢
  generalize s.cells.length = n at *
  clear KP KS KW hx hs
  have QS : w.heap.size + 2 = Q.heap.size := by rw [hQ]; simp
  have hbq : b < Q.heap.size := by omega
  have hq0 : w.heap.size < Q.heap.size := by omega
  have hq1 : w.heap.size + 1 < Q.heap.size := by omega
  clear QS
  clear BQ
  go_enter Tryd.func16, Tryd.ntmps16
  go_upto_region 3 with fail
  rw [← hQ]
  clear hQ
  go_cut [6, 7] from 15 to 23 (fun s6 s7 wx => s7 = .int .i64 180 ∧ Hid (Below w.heap.size w wx))
  case first =>
    go_region_with ((go_at_call 10; refine (RD.out _ (by first | exact (Below.refl _ Q).drew | exact ((Below.refl _ Q).alloc (Nat.le_refl _) _).drew)).mono ?_; rintro e w1 ⟨rfl, hb1, hw1⟩; obtain ⟨hc, hf, hz⟩ := bcell hb1))
    all_goals
      have lw := hw1.out.size
      clear hc hf hb1 hz
      go_wp2_with fail
      go_meet
      refine ⟨rfl, Lib.hid ?_⟩
      first
      | with_reducible exact hw1.out.alloc lw _
      | (repeat (first | with_reducible exact hw1.out | refine Below.setCell ?_ (by first | exact Nat.le_of_lt hq0) _))
  case rest =>
    obtain ⟨rfl, hB⟩ := hcut
    clear RD HB
    go_wp2_with fail
    go_ret2
    exact ⟨rfl, hB.out⟩
end Go.Proofs.YtkllilehdpdbdaaDoor
