/- A terminal is cloned. -/
import Derived.Test.YtkllilehdpdbdaaGreatDoorVzA
import Derived.Test.YtkllilehdpdbdaaGreatDoorVyT
namespace Go.Proofs.YtkllilehdpdbdaaGreatDoor
open Go Go.RowKit Go.Sort
set_option linter.unusedVariables false
set_option linter.unusedSimpArgs false
section
variable {w0 : World} {F0 : List Nat} {tb : Nat} {t t' : Trm} {W W' : World}
/-- a copy under way: its own block, newer than W -/
structure Cn (W : World) (nb : Nat) (t : Trm) (L : Lay) (V : World) : Prop where
  bel : Below W.heap.size W V
  own : Bk V nb (trmV t L) 91
  ge : W.heap.size ≤ nb
theorem Cn.below {V V' : World} {nb : Nat} {L : Lay} (h : Cn W nb t L V) (hb : Below V.heap.size V V') : Cn W nb t L V' := ⟨h.bel.trans (hb.mono h.bel.size), h.own.of_eq (hb.block nb h.own.lt), h.ge⟩
theorem Cn.set {V : World} {nb : Nat} {L L' : Lay} (h : Cn W nb t L V) (i : Nat) (v : Value) (e : (trmV t L).set i v = trmV t L') : Cn W nb t L' (V.setCell ⟨nb, i, none⟩ v) := ⟨h.bel.setCell (p := ⟨nb, i, none⟩) h.ge v, by rw [← e]; exact h.own.set i v, h.ge⟩
theorem NewRow.far {V : World} {nb i sz n : Nat} {T : TypeId} {v y : Value} {xs : List Value} (h : NewRow (nb + 1) T sz v n xs V) : NewRow (nb + 1) T sz v n xs (V.setCell ⟨nb, i, none⟩ y) := ⟨h.1.keep (fun g m => heap_setCell_other V ⟨nb, i, none⟩ g y (fun e => by have := h.2 g m; simp only at e; omega)), h.2⟩
theorem NewKept.far {V : World} {nb i : Nat} {v y : Value} {s : ByteArray} (h : NewKept (nb + 1) v s V) : NewKept (nb + 1) v s (V.setCell ⟨nb, i, none⟩ y) := ⟨h.1.keep (fun g m => heap_setCell_other V ⟨nb, i, none⟩ g y (fun e => by have := h.2 g m; simp only at e; omega)), h.2⟩
theorem NewRow.up {V : World} {B nb sz n : Nat} {T : TypeId} {v : Value} {xs : List Value} (h : NewRow B T sz v n xs V) (hb : nb < B) : NewRow (nb + 1) T sz v n xs V := ⟨h.1, fun g m => by have := h.2 g m; omega⟩
theorem NewKept.up {V : World} {B nb : Nat} {v : Value} {s : ByteArray} (h : NewKept B v s V) (hb : nb < B) : NewKept (nb + 1) v s V := ⟨h.1, fun g m => by have := h.2 g m; omega⟩
structure P4 (W : World) (nb : Nat) (t : Trm) (L : Lay) (V : World) : Prop where
  cn : Cn W nb t L V
  c : NewRow (nb + 1) 49 5 L.c t.cells.length (celsV t.cells) V
  a : NewRow (nb + 1) 49 5 L.a t.away.length (celsV t.away) V
  ca : ∀ g ∈ ob L.c, g ∉ ob L.a
structure P5 (W : World) (nb : Nat) (t : Trm) (L : Lay) (V : World) : Prop where
  p : P4 W nb t L V
  s : NewRow (nb + 1) 4 1 L.s t.stops.length (boolsV t.stops) V
  w : NewRow (nb + 1) 4 1 L.w t.wrt.length (boolsV t.wrt) V
  sw : ∀ g ∈ ob L.s, g ∉ ob L.w
structure P6 (W : World) (nb : Nat) (t : Trm) (L : Lay) (V : World) : Prop where
  p : P5 W nb t L V
  r : NewKept (nb + 1) L.r t.reps V
  h : NewKept (nb + 1) L.h t.held V
  k : NewKept (nb + 1) L.k t.kept V
  rh : ∀ g ∈ ob L.r, g ∉ ob L.h
  rk : ∀ g ∈ ob L.r, g ∉ ob L.k
  hk : ∀ g ∈ ob L.h, g ∉ ob L.k
theorem P4.below {V V' : World} {nb : Nat} {L : Lay} (h : P4 W nb t L V) (hb : Below V.heap.size V V') : P4 W nb t L V' := ⟨h.cn.below hb, h.c.below hb, h.a.below hb, h.ca⟩
theorem P5.below {V V' : World} {nb : Nat} {L : Lay} (h : P5 W nb t L V) (hb : Below V.heap.size V V') : P5 W nb t L V' := ⟨h.p.below hb, h.s.below hb, h.w.below hb, h.sw⟩
theorem P6.below {V V' : World} {nb : Nat} {L : Lay} (h : P6 W nb t L V) (hb : Below V.heap.size V V') : P6 W nb t L V' := ⟨h.p.below hb, h.r.below hb, h.h.below hb, h.k.below hb, h.rh, h.rk, h.hk⟩
theorem P4.set {V : World} {nb : Nat} {L L' : Lay} (h : P4 W nb t L V) (i : Nat) (v : Value) (e : (trmV t L).set i v = trmV t L') (ec : L'.c = L.c) (ea : L'.a = L.a) : P4 W nb t L' (V.setCell ⟨nb, i, none⟩ v) := ⟨h.cn.set i v e, by rw [ec]; exact h.c.far, by rw [ea]; exact h.a.far, by rw [ec, ea]; exact h.ca⟩
theorem P5.set {V : World} {nb : Nat} {L L' : Lay} (h : P5 W nb t L V) (i : Nat) (v : Value) (e : (trmV t L).set i v = trmV t L') (ec : L'.c = L.c) (ea : L'.a = L.a) (es : L'.s = L.s) (ew : L'.w = L.w) : P5 W nb t L' (V.setCell ⟨nb, i, none⟩ v) := ⟨h.p.set i v e ec ea, by rw [es]; exact h.s.far, by rw [ew]; exact h.w.far, by rw [es, ew]; exact h.sw⟩
theorem new_apart {V V' : World} {v1 v2 : Value} (h1 : ∀ g ∈ ob v1, g < V.heap.size) (h2 : ∀ g ∈ ob v2, V.heap.size ≤ g) : ∀ g ∈ ob v1, g ∉ ob v2 := fun g m m2 => by have := h1 g m; have := h2 g m2; omega
theorem P6.set {V : World} {nb : Nat} {L L' : Lay} (h : P6 W nb t L V) (i : Nat) (v : Value) (e : (trmV t L).set i v = trmV t L') (ec : L'.c = L.c) (ea : L'.a = L.a) (es : L'.s = L.s) (ew : L'.w = L.w) (er : L'.r = L.r) (eh : L'.h = L.h) (ek : L'.k = L.k) : P6 W nb t L' (V.setCell ⟨nb, i, none⟩ v) := ⟨h.p.set i v e ec ea es ew, by rw [er]; exact h.r.far, by rw [eh]; exact h.h.far, by rw [ek]; exact h.k.far, by rw [er, eh]; exact h.rh, by rw [er, ek]; exact h.rk, by rw [eh, ek]; exact h.hk⟩
/-- a decoder that holds nothing is fed what is kept -/
theorem d_FeedKept (u : Nat) (A : Option Addr) (n c : Nat) (k : ByteArray) (hn : n = k.size) (ko : KeptOk k) (V : World) (hd : DecAt V u zB) (K : KeptAt V (.slice A n c) k) : Calls Tryz.prog 47 #[.pointer (some ⟨u, 0, none⟩), .slice A n c] V fun e w' => (∃ v, e = .returned v) ∧ DecAt w' u k ∧ Mv [u] V w' := by
  rcases ko with z | o
  · subst z
    have n0 : n = 0 := hn
    subst n0
    exact d_Feed0 u A c V hd
  · have p := open_pos o
    have p3 := open_size o
    obtain ⟨A', c', ec, h1, hm, h2, h3⟩ := K
    simp only [Value.slice.injEq] at ec
    obtain ⟨rfl, _, rfl⟩ := ec
    obtain ⟨g, o', cur, rfl, hg, hc, hs⟩ := h3 (by omega)
    have e0 : zB ++ k = k := by apply ByteArray.ext; simp [ByteArray.data_append]; rfl
    have cb : certB k = ([], k) := by
      unfold certB
      obtain ⟨m, hm'⟩ : ∃ m, k.size = m + 1 := ⟨k.size - 1, by omega⟩
      rw [hm', certF, if_neg (by omega), if_pos o]
    have F := d_Feed u zB k ⟨g, o', none⟩ c V hd (by show 0 + k.size ≤ 4; omega) (by omega) (fun hne => ⟨_, rfl, (Array.getElem?_eq_some_iff.1 hg).1, fun j x hj => by
      rw [add_at]
      have := cells_at hg hs j x hj
      rw [add_at] at this
      exact this⟩) p
    rw [hn]
    refine F.mono ?_
    rintro e w' ⟨v, h4, _, h5, h6⟩
    rw [e0, cb] at h5
    exact ⟨⟨v, h4⟩, h5, h6⟩
theorem P6.done {V6 V7 w' : World} {nb : Nat} {L : Lay} (E : EnvV W) (h : P6 W nb t L V6) (e7 : V7 = (V6.alloc (.cells #[.int .u8 0, .int .u8 0, .int .u8 0, .int .u8 0, .int .i64 0] 127)).setCell ⟨nb, 30, none⟩ (.pointer (some ⟨V6.heap.size, 0, none⟩))) (D : DecAt w' V6.heap.size t.kept) (m : Mv [V6.heap.size] V7 w') : St W [] nb t w' := by
  have hb := (Below.refl _ V6).alloc (Nat.le_refl _) (.cells #[.int .u8 0, .int .u8 0, .int .u8 0, .int .u8 0, .int .i64 0] 127)
  have h7 : P6 W nb t { L with u := V6.heap.size } V7 := by
    rw [e7]
    exact (h.below hb).set 30 _ rfl rfl rfl rfl rfl rfl rfl rfl
  have sz : V7.heap.size = V6.heap.size + 1 := by rw [e7]; simp
  have kp : ∀ g, g < V6.heap.size → w'.heap[g]? = V7.heap[g]? := fun g lt => m.blk g (by omega) (by simp; omega)
  have ge := h.p.p.cn.ge
  have s6 := h.p.p.cn.bel.size
  refine ⟨E, Mv.below (m.old h7.p.p.cn.bel (by intro b hb; rw [List.mem_singleton.1 hb]; exact s6)), by simp, { L with b := nb, u := V6.heap.size }, rfl, ?_, fun g mg => Or.inr ?_⟩
  · exact ⟨h7.p.p.cn.own.of_eq (kp _ h.p.p.cn.own.lt), D, h7.p.p.c.1.keep (fun g mg => kp g (h.p.p.c.1.lt g mg)), h7.p.p.a.1.keep (fun g mg => kp g (h.p.p.a.1.lt g mg)), h7.p.s.1.keep (fun g mg => kp g (h.p.s.1.lt g mg)), h7.p.w.1.keep (fun g mg => kp g (h.p.w.1.lt g mg)),
      h7.r.1.keep (fun g mg => kp g (h.r.1.lt g mg)), h7.h.1.keep (fun g mg => kp g (h.h.1.lt g mg)), h7.k.1.keep (fun g mg => kp g (h.k.1.lt g mg)), h.p.p.ca, h.p.sw, h.rh, h.rk, h.hk⟩
  · rcases Lay.mem.1 mg with z | z | z | z | z | z | z | z | z
    · rw [z]; exact ge
    · rw [z]; exact s6
    · have := h.p.p.c.2 g z; omega
    · have := h.p.p.a.2 g z; omega
    · have := h.p.s.2 g z; omega
    · have := h.p.w.2 g z; omega
    · have := h.r.2 g z; omega
    · have := h.h.2 g z; omega
    · have := h.k.2 g z; omega
set_option maxHeartbeats 8000000 in
set_option maxRecDepth 100000 in
theorem t_Clone (h : St w0 F0 tb t W) (f : Fine t) (ko : KeptOk t.kept) (hr : t.reps.size ≤ 65536) (hh : t.held.size ≤ 300000000) : Calls Tryz.prog 28 #[.pointer (some ⟨tb, 0, none⟩)] W fun e w' => ∃ nb, e = .returned (.pointer (some ⟨nb, 0, none⟩)) ∧ St W [] nb t w' := by
  obtain ⟨⟨Lb, Lu, Lc, La, Ls, Lw, Lr, Lh, Lk⟩, eb, T, _⟩ := h.lay
  dsimp only at eb
  subst eb
  obtain ⟨A1, c1, e1⟩ := T.c.asSlice
  obtain ⟨A2, c2, e2⟩ := T.a.asSlice
  obtain ⟨A3, c3, e3⟩ := T.s.asSlice
  obtain ⟨A4, c4, e4⟩ := T.w.asSlice
  obtain ⟨A5, c5, e5, q5⟩ := id T.r
  obtain ⟨A6, c6, e6, q6⟩ := id T.h
  obtain ⟨A7, c7, e7, q7⟩ := id T.k
  dsimp only at e1 e2 e3 e4 e5 e6 e7
  subst e1 e2 e3 e4 e5 e6 e7
  clear q5 q6 q7
  have cl : t.cells.length ≤ 1048576 := by have := f.cl; have := f.ar; omega
  have al : t.away.length ≤ 1048576 := by have := f.al; have := f.ar; omega
  have wl : t.wrt.length ≤ 1048576 := by have := f.wl; have := f.cl; have := f.ar; omega
  have sl : t.stops.length ≤ 1048576 := by have := f.sl; have := f.w1; omega
  have kl := kept_size ko
  obtain ⟨n1, hn1⟩ : ∃ n, n = t.cells.length := ⟨_, rfl⟩
  obtain ⟨n2, hn2⟩ : ∃ n, n = t.away.length := ⟨_, rfl⟩
  obtain ⟨n3, hn3⟩ : ∃ n, n = t.stops.length := ⟨_, rfl⟩
  obtain ⟨n4, hn4⟩ : ∃ n, n = t.wrt.length := ⟨_, rfl⟩
  obtain ⟨n5, hn5⟩ : ∃ n, n = t.reps.size := ⟨_, rfl⟩
  obtain ⟨n6, hn6⟩ : ∃ n, n = t.held.size := ⟨_, rfl⟩
  obtain ⟨n7, hn7⟩ : ∃ n, n = t.kept.size := ⟨_, rfl⟩
  have TX : Hid (∀ X, Below W.heap.size W X → TrmAt X ⟨Lb, Lu, .slice A1 t.cells.length c1, .slice A2 t.away.length c2, .slice A3 t.stops.length c3, .slice A4 t.wrt.length c4, .slice A5 t.reps.size c5, .slice A6 t.held.size c6, .slice A7 t.kept.size c7⟩ t) := Lib.hid (fun X hb => T.keep (fun g m => hb.block g (T.lt g m)))
  have C1 : Hid (∀ X, Below W.heap.size W X → Calls Tryz.prog 44 #[.slice A1 n1 c1] X fun e w' => ∃ v, e = .returned v ∧ NewRow X.heap.size 49 5 v t.cells.length (celsV t.cells) w' ∧ Below X.heap.size X w') := Lib.hid (fun X hb => by rw [hn1]; exact d_CloneC A1 t.cells c1 X (TX.out X hb).c cl)
  have C2 : Hid (∀ X, Below W.heap.size W X → Calls Tryz.prog 44 #[.slice A2 n2 c2] X fun e w' => ∃ v, e = .returned v ∧ NewRow X.heap.size 49 5 v t.away.length (celsV t.away) w' ∧ Below X.heap.size X w') := Lib.hid (fun X hb => by rw [hn2]; exact d_CloneC A2 t.away c2 X (TX.out X hb).a al)
  have C3 : Hid (∀ X, Below W.heap.size W X → Calls Tryz.prog 45 #[.slice A3 n3 c3] X fun e w' => ∃ v, e = .returned v ∧ NewRow X.heap.size 4 1 v t.stops.length (boolsV t.stops) w' ∧ Below X.heap.size X w') := Lib.hid (fun X hb => by rw [hn3]; exact d_CloneO A3 t.stops c3 X (TX.out X hb).s sl)
  have C4 : Hid (∀ X, Below W.heap.size W X → Calls Tryz.prog 45 #[.slice A4 n4 c4] X fun e w' => ∃ v, e = .returned v ∧ NewRow X.heap.size 4 1 v t.wrt.length (boolsV t.wrt) w' ∧ Below X.heap.size X w') := Lib.hid (fun X hb => by rw [hn4]; exact d_CloneO A4 t.wrt c4 X (TX.out X hb).w wl)
  have C5 : Hid (∀ X, Below W.heap.size W X → Calls Tryz.prog 46 #[.slice A5 n5 c5] X fun e w' => ∃ v, e = .returned v ∧ NewKept X.heap.size v t.reps w' ∧ Below X.heap.size X w') := Lib.hid (fun X hb => d_CloneB A5 t.reps n5 c5 hn5 X (TX.out X hb).r (by omega))
  have C6 : Hid (∀ X, Below W.heap.size W X → Calls Tryz.prog 46 #[.slice A6 n6 c6] X fun e w' => ∃ v, e = .returned v ∧ NewKept X.heap.size v t.held w' ∧ Below X.heap.size X w') := Lib.hid (fun X hb => d_CloneB A6 t.held n6 c6 hn6 X (TX.out X hb).h (by omega))
  have C7 : Hid (∀ X, Below W.heap.size W X → Calls Tryz.prog 46 #[.slice A7 n7 c7] X fun e w' => ∃ v, e = .returned v ∧ NewKept X.heap.size v t.kept w' ∧ Below X.heap.size X w') := Lib.hid (fun X hb => d_CloneB A7 t.kept n7 c7 hn7 X (TX.out X hb).k (by omega))
  obtain ⟨L0, hL0⟩ : ∃ L0 : Lay, L0 = ⟨Lb, Lu, .slice A1 t.cells.length c1, .slice A2 t.away.length c2, .slice A3 t.stops.length c3, .slice A4 t.wrt.length c4, .slice A5 t.reps.size c5, .slice A6 t.held.size c6, .slice A7 t.kept.size c7⟩ := ⟨_, rfl⟩
  have LD : Hid (∀ X, Below W.heap.size W X → X.cell? ⟨Lb, 2, none⟩ = some (.slice A1 n1 c1) ∧ X.cell? ⟨Lb, 9, none⟩ = some (.slice A2 n2 c2) ∧ X.cell? ⟨Lb, 23, none⟩ = some (.slice A3 n3 c3) ∧ X.cell? ⟨Lb, 27, none⟩ = some (.slice A4 n4 c4) ∧ X.cell? ⟨Lb, 26, none⟩ = some (.slice A5 n5 c5) ∧ X.cell? ⟨Lb, 29, none⟩ = some (.slice A6 n6 c6) ∧ X.cell? ⟨Lb, 31, none⟩ = some (.slice A7 n7 c7)) := Lib.hid (fun X hb => by
    have B := (TX.out X hb).own
    rw [hn1, hn2, hn3, hn4, hn5, hn6, hn7]
    exact ⟨B.c 2 _ rfl, B.c 9 _ rfl, B.c 23 _ rfl, B.c 27 _ rfl, B.c 26 _ rfl, B.c 29 _ rfl, B.c 31 _ rfl⟩)
  obtain ⟨cs, hc⟩ : ∃ cs, cs = (trmV t L0).toArray := ⟨_, rfl⟩
  have GN : Hid (W.heap[Lb]? = some (.cells cs 91 (0, 0))) := Lib.hid (by rw [hc, hL0]; exact T.own)
  have IH : Hid ((Tryz.prog.info? 91).map (·.size) = some cs.size) := Lib.hid (by rw [hc, hL0]; exact infoTrm)
  have H1 : Hid (cs.all (·.oneCell') = true) := Lib.hid (by rw [hc, hL0]; simp [trmV, Value.oneCell'])
  have HC := Lib.hid hc
  have EW := Lib.hid h.env
  have KO := Lib.hid ko
  have HS7 : Hid (n7 = t.kept.size) := Lib.hid hn7
  clear hc hL0 h T cl al wl sl kl ko hr hh f hn1 hn2 hn3 hn4 hn5 hn6 hn7
  go_enter Tryz.func28, Tryz.ntmps28
  go_upto_region 4 with (first | (refine wpList_load_row rfl 91 (.tmp 7) rfl Lb rfl 91 cs (0, 0) _ GN.out Tryz.underlying91 rfl IH.out ?_) | (refine wpList_store_row rfl 91 (.tmp 3) (.tmp 8) rfl _ cs rfl rfl 91 _ (World.alloc_heap_new W _) IH.out (by rw [HC.out]; rfl) H1.out ?_))
  obtain ⟨V1, hV1⟩ : ∃ V1, V1 = (W.alloc (.cells #[.int .i64 0, .int .i64 0, .slice none 0 0, .int .i64 0, .int .i64 0, .int .i32 0, .int .i32 0, .int .u8 0, .bool false, .slice none 0 0, .int .i64 0, .int .i64 0, .int .i32 0, .int .i32 0, .int .u8 0, .bool false, .bool false, .bool false, .bool false, .bool false, .bool false, .int .i64 0, .int .i64 0, .slice none 0 0, .int .i64 0, .string ⟨#[]⟩, .slice none 0 0, .slice none 0 0, .int .i8 0, .slice none 0 0, .pointer none, .slice none 0 0] 91)).setRow W.heap.size cs := ⟨_, rfl⟩
  obtain ⟨nb, hnb⟩ : ∃ nb, nb = W.heap.size := ⟨_, rfl⟩
  have Q1 : Cn W nb t L0 V1 := by
    rw [hV1, hnb]
    refine ⟨?_, ?_, Nat.le_refl _⟩
    · have b1 := (Below.refl _ W).alloc (Nat.le_refl _) (.cells #[.int .i64 0, .int .i64 0, .slice none 0 0, .int .i64 0, .int .i64 0, .int .i32 0, .int .i32 0, .int .u8 0, .bool false, .slice none 0 0, .int .i64 0, .int .i64 0, .int .i32 0, .int .i32 0, .int .u8 0, .bool false, .bool false, .bool false, .bool false, .bool false, .bool false, .int .i64 0, .int .i64 0, .slice none 0 0, .int .i64 0, .string ⟨#[]⟩, .slice none 0 0, .slice none 0 0, .int .i8 0, .slice none 0 0, .pointer none, .slice none 0 0] 91)
      exact ⟨b1.os, b1.tape, b1.output, by simp, fun k hk => (setRow_other _ _ _ _ (by omega)).trans (b1.block k hk)⟩
    · have := setRow_heap _ W.heap.size _ cs _ _ (World.alloc_heap_new W (.cells #[.int .i64 0, .int .i64 0, .slice none 0 0, .int .i64 0, .int .i64 0, .int .i32 0, .int .i32 0, .int .u8 0, .bool false, .slice none 0 0, .int .i64 0, .int .i64 0, .int .i32 0, .int .i32 0, .int .u8 0, .bool false, .bool false, .bool false, .bool false, .bool false, .bool false, .int .i64 0, .int .i64 0, .slice none 0 0, .int .i64 0, .string ⟨#[]⟩, .slice none 0 0, .slice none 0 0, .int .i8 0, .slice none 0 0, .pointer none, .slice none 0 0] 91))
      rw [HC.out] at this ⊢
      exact this
  rw [← hV1, ← hnb]
  have Q1 := Lib.hid Q1
  clear hV1 GN IH H1 hnb
  go_simp
  go_cut [] from 9 to 22 (fun wx => ∃ v1 v2, Hid (P4 W nb t { L0 with c := v1, a := v2 } wx))
  case first =>
    have CN := Lib.hid (Q1.out.below (Below.refl _ V1).drew)
    have l2 := (LD.out _ CN.out.bel).1
    have l9 := (LD.out _ CN.out.bel).2.1
    go_region_with (first
      | (go_at_call_of 44 (A1); refine (C1.out _ CN.out.bel).mono ?_; rintro e u1 ⟨v1, rfl, N1, hb⟩; obtain ⟨Bv1, dv1, ev1⟩ := N1.1.asSlice; subst ev1; have N1 := Lib.hid (N1.up CN.out.own.lt); have CN := Lib.hid (CN.out.below hb); clear hb; have l9 := (LD.out _ CN.out.bel).2.1; have k2 := CN.out.own.c 2 _ rfl; have f2 := CN.out.own.f 2)
      | (go_at_call_of 44 (A2); refine (C2.out _ CN.out.bel).mono ?_; rintro e u2 ⟨v2, rfl, N2, hb⟩; obtain ⟨Bv2, dv2, ev2⟩ := N2.1.asSlice; subst ev2; have DJ := Lib.hid (new_apart (V' := u2) N1.out.1.lt N2.2); have N1 := Lib.hid (N1.out.below hb); have N2 := Lib.hid (N2.up CN.out.own.lt); have CN := Lib.hid (CN.out.below hb); clear hb; have k2 := CN.out.own.c 2 _ rfl; have f2 := CN.out.own.f 2; have k9 := CN.out.own.c 9 _ rfl; have f9 := CN.out.own.f 9))
    all_goals (go_wp2_with fail)
    all_goals go_meet
    all_goals exact ⟨.slice Bv1 t.cells.length dv1, .slice Bv2 t.away.length dv2, Lib.hid ⟨(CN.out.set (L' := { L0 with c := .slice Bv1 t.cells.length dv1 }) 2 _ rfl).set 9 _ rfl, N1.out.far.far, N2.out.far.far, DJ.out⟩⟩
  case rest =>
    obtain ⟨v1, v2, Q4⟩ := hcut
    obtain ⟨w4, hw4⟩ : ∃ w4, w4 = wc := ⟨_, rfl⟩
    subst hw4
    obtain ⟨L4, hL4⟩ : ∃ L4, L4 = ({ L0 with c := v1, a := v2 } : Lay) := ⟨_, rfl⟩
    rw [← hL4] at Q4
    clear Q1 hL4 C1 C2
    go_upto_region 5 with fail
    go_cut [] from 23 to 34 (fun wx => ∃ v3 v4, Hid (P5 W nb t { L4 with s := v3, w := v4 } wx))
    case first =>
      have CN := Lib.hid (Q4.out.below (Below.refl _ w4).drew)
      have l23 := (LD.out _ CN.out.cn.bel).2.2.1
      have l27 := (LD.out _ CN.out.cn.bel).2.2.2.1
      go_region_with (first
        | (go_at_call_of 45 (A3); refine (C3.out _ CN.out.cn.bel).mono ?_; rintro e u1 ⟨v3, rfl, N3, hb⟩; obtain ⟨Bv3, dv3, ev3⟩ := N3.1.asSlice; subst ev3; have N3 := Lib.hid (N3.up CN.out.cn.own.lt); have CN := Lib.hid (CN.out.below hb); clear hb; have l27 := (LD.out _ CN.out.cn.bel).2.2.2.1; have k23 := CN.out.cn.own.c 23 _ rfl; have f23 := CN.out.cn.own.f 23)
        | (go_at_call_of 45 (A4); refine (C4.out _ CN.out.cn.bel).mono ?_; rintro e u2 ⟨v4, rfl, N4, hb⟩; obtain ⟨Bv4, dv4, ev4⟩ := N4.1.asSlice; subst ev4; have DJ := Lib.hid (new_apart (V' := u2) N3.out.1.lt N4.2); have N3 := Lib.hid (N3.out.below hb); have N4 := Lib.hid (N4.up CN.out.cn.own.lt); have CN := Lib.hid (CN.out.below hb); clear hb; have k23 := CN.out.cn.own.c 23 _ rfl; have f23 := CN.out.cn.own.f 23; have k27 := CN.out.cn.own.c 27 _ rfl; have f27 := CN.out.cn.own.f 27))
      all_goals (go_wp2_with fail)
      all_goals go_meet
      all_goals exact ⟨.slice Bv3 t.stops.length dv3, .slice Bv4 t.wrt.length dv4, Lib.hid ⟨(CN.out.set (L' := { L4 with s := .slice Bv3 t.stops.length dv3 }) 23 _ rfl rfl rfl).set 27 _ rfl rfl rfl, N3.out.far.far, N4.out.far.far, DJ.out⟩⟩
    case rest =>
      obtain ⟨v3, v4, Q5⟩ := hcut
      obtain ⟨w5, hw5⟩ : ∃ w5, w5 = wc := ⟨_, rfl⟩
      subst hw5
      obtain ⟨L5, hL5⟩ : ∃ L5, L5 = ({ L4 with s := v3, w := v4 } : Lay) := ⟨_, rfl⟩
      rw [← hL5] at Q5
      clear Q4 hL5 C3 C4
      go_upto_region 6 with fail
      go_cut [] from 35 to 52 (fun wx => ∃ v5 v6 v7, Hid (P6 W nb t { L5 with r := v5, h := v6, k := v7 } wx))
      case first =>
        have CN := Lib.hid (Q5.out.below (Below.refl _ w5).drew)
        have l26 := (LD.out _ CN.out.p.cn.bel).2.2.2.2.1
        have l29 := (LD.out _ CN.out.p.cn.bel).2.2.2.2.2.1
        have l31 := (LD.out _ CN.out.p.cn.bel).2.2.2.2.2.2
        go_region_with (first
          | (go_at_call_of 46 (A5); refine (C5.out _ CN.out.p.cn.bel).mono ?_; rintro e u1 ⟨v5, rfl, N5, hb⟩; obtain ⟨Bv5, dv5, ev5, _⟩ := id N5.1; subst ev5; have N5 := Lib.hid (N5.up CN.out.p.cn.own.lt); have CN := Lib.hid (CN.out.below hb); clear hb; have l29 := (LD.out _ CN.out.p.cn.bel).2.2.2.2.2.1; have l31 := (LD.out _ CN.out.p.cn.bel).2.2.2.2.2.2)
          | (go_at_call_of 46 (A6); refine (C6.out _ CN.out.p.cn.bel).mono ?_; rintro e u2 ⟨v6, rfl, N6, hb⟩; obtain ⟨Bv6, dv6, ev6, _⟩ := id N6.1; subst ev6; have DJ56 := Lib.hid (new_apart (V' := u2) N5.out.1.lt N6.2); have N5 := Lib.hid (N5.out.below hb); have N6 := Lib.hid (N6.up CN.out.p.cn.own.lt); have CN := Lib.hid (CN.out.below hb); clear hb; have l31 := (LD.out _ CN.out.p.cn.bel).2.2.2.2.2.2)
          | (go_at_call_of 46 (A7); refine (C7.out _ CN.out.p.cn.bel).mono ?_; rintro e u3 ⟨v7, rfl, N7, hb⟩; obtain ⟨Bv7, dv7, ev7, _⟩ := id N7.1; subst ev7; have DJ57 := Lib.hid (new_apart (V' := u3) N5.out.1.lt N7.2); have DJ67 := Lib.hid (new_apart (V' := u3) N6.out.1.lt N7.2); have N5 := Lib.hid (N5.out.below hb); have N6 := Lib.hid (N6.out.below hb); have N7 := Lib.hid (N7.up CN.out.p.cn.own.lt); have CN := Lib.hid (CN.out.below hb); clear hb
             have k26 := CN.out.p.cn.own.c 26 _ rfl; have f26 := CN.out.p.cn.own.f 26; have k29 := CN.out.p.cn.own.c 29 _ rfl; have f29 := CN.out.p.cn.own.f 29; have k31 := CN.out.p.cn.own.c 31 _ rfl; have f31 := CN.out.p.cn.own.f 31))
        all_goals (go_wp2_with fail)
        all_goals go_meet
        all_goals exact ⟨.slice Bv5 t.reps.size dv5, .slice Bv6 t.held.size dv6, .slice Bv7 t.kept.size dv7, Lib.hid ⟨((CN.out.set (L' := { L5 with r := .slice Bv5 t.reps.size dv5 }) 26 _ rfl rfl rfl rfl rfl).set (L' := { L5 with r := .slice Bv5 t.reps.size dv5, h := .slice Bv6 t.held.size dv6 }) 29 _ rfl rfl rfl rfl rfl).set 31 _ rfl rfl rfl rfl rfl, N5.out.far.far.far, N6.out.far.far.far, N7.out.far.far.far, DJ56.out, DJ57.out, DJ67.out⟩⟩
      case rest =>
        obtain ⟨v5, v6, v7, Q6⟩ := hcut
        obtain ⟨w6, hw6⟩ : ∃ w6, w6 = wc := ⟨_, rfl⟩
        subst hw6
        obtain ⟨L6, hL6⟩ : ∃ L6, L6 = ({ L5 with r := v5, h := v6, k := v7 } : Lay) := ⟨_, rfl⟩
        rw [← hL6] at Q6
        clear Q5 hL6 C5 C6 C7 LD TX
        have UN := Lib.hid (d_uNew w6)
        obtain ⟨A8, c8, e8, q8⟩ := id Q6.out.k.1
        clear q8
        obtain ⟨X6, hX6⟩ : ∃ X6, X6 = w6.alloc (.cells #[.int .u8 0, .int .u8 0, .int .u8 0, .int .u8 0, .int .i64 0] 127) := ⟨_, rfl⟩
        have BX : Below w6.heap.size w6 X6 := by rw [hX6]; exact (Below.refl _ w6).alloc (Nat.le_refl _) _
        have K6 := (Q6.out.below BX).p.p.cn.own
        have k30 := K6.c 30 _ rfl
        have f30 := K6.f 30
        obtain ⟨X7, hX7⟩ : ∃ X7, X7 = X6.setCell ⟨nb, 30, none⟩ (.pointer (some ⟨w6.heap.size, 0, none⟩)) := ⟨_, rfl⟩
        have K7 : Bk X7 nb (trmV t { L6 with u := w6.heap.size }) 91 := by rw [hX7]; exact K6.set 30 _
        have D7 : DecAt X7 w6.heap.size zB := by
          have nlt := Q6.out.p.p.cn.own.lt
          refine ⟨0, 0, 0, 0, ?_, by decide, rfl⟩
          rw [hX7]
          refine Bk.of_eq (W := X6) (by rw [hX6]; exact Bk.new w6 _ _) (heap_setCell_other X6 ⟨nb, 30, none⟩ w6.heap.size _ (by simp only; omega))
        have k30' := K7.c 30 _ rfl
        have k31' := K7.c 31 _ rfl
        rw [show ({ L6 with u := w6.heap.size } : Lay).k = .slice A8 t.kept.size c8 from e8] at k31'
        have KK : KeptAt X7 (.slice A8 t.kept.size c8) t.kept := by
          have := ((Q6.out.below BX).k.far (i := 30) (y := .pointer (some ⟨w6.heap.size, 0, none⟩))).1
          rw [← hX7, e8] at this
          exact this
        have FK := Lib.hid (d_FeedKept w6.heap.size A8 t.kept.size c8 t.kept rfl KO.out X7 D7 KK)
        have HX6 := Lib.hid hX6
        have HX7 := Lib.hid hX7
        have FIN : Hid (∀ w', DecAt w' w6.heap.size t.kept → Mv [w6.heap.size] X7 w' → St W [] nb t w') := Lib.hid (fun w' d m => P6.done EW.out Q6.out (by rw [hX7, hX6]) d m)
        clear Q6 BX K6 K7 D7 KK e8 EW KO hX6 hX7
        go_wp2_with fail
        refine UN.out.mono ?_; rintro e y7 ⟨rfl, ey⟩
        rw [ey, ← HX6.out]
        clear ey
        go_upto_region 8 with fail
        rw [← HX7.out]
        clear k30 f30
        go_wp2_with fail
        refine FK.out.mono ?_; rintro e y8 ⟨⟨vv, rfl⟩, d8, m8⟩
        have SS := Lib.hid (FIN.out y8 d8 m8)
        clear d8 m8
        go_wp2_with fail
        go_ret
        exact ⟨nb, rfl, SS.out⟩
end
end Go.Proofs.YtkllilehdpdbdaaGreatDoor
