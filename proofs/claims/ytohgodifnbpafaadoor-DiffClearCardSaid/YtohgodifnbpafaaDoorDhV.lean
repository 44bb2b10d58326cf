/- DiffClear: the walk. -/
import Derived.Test.YtohgodifnbpafaaDoorDhL
import Derived.Test.YtohgodifnbpafaaDoorDhK
namespace Go.Proofs.YtohgodifnbpafaaDoor
open Go Go.RowKit Go.Sort
set_option linter.unusedVariables false
set_option linter.unusedSimpArgs false

theorem total_mem {L : List SA} {t : SA} (h : t ∈ L) : bulk t.s.cells ≤ total L := by
  induction L with
  | nil => cases h
  | cons a L ih =>
    have e : total (a :: L) = bulk a.s.cells + total L := by simp [total]
    rcases List.mem_cons.1 h with rfl | h
    · omega
    · have := ih h; omega
/-- the writer and the size that was told last, in a world behind w0 -/
structure ClSt (w0 : World) (b bs : Nat) (d : Int) (x : Wri) (sw sh : Int) (w : World) : Prop where
  wk : WkSt w0 b x w
  dp : x.depth = d
  sz : Own1 w bs [.int .i64 sw, .int .i64 sh] 49
  ne : bs ≠ b
  lo : w0.heap.size ≤ bs
  nbs : bs ≠ 1 ∧ bs ≠ 0 ∧ bs ≠ 2
theorem ClSt.below {w0 : World} {b bs : Nat} {d : Int} {x : Wri} {sw sh : Int} {w w' : World} (h : ClSt w0 b bs d x sw sh w) (hb : Below w.heap.size w w') : ClSt w0 b bs d x sw sh w' :=
  ⟨h.wk.below hb, h.dp, h.sz.below hb, h.ne, h.lo, h.nbs⟩
theorem ClSt.lt {w0 : World} {b bs : Nat} {d : Int} {x : Wri} {sw sh : Int} {w : World} (h : ClSt w0 b bs d x sw sh w) : b < w.heap.size := by
  obtain ⟨_, _, hw⟩ := h.wk.wr
  exact hw.own.lt
def unT (x : Wri) : Wri := ⟨x.depth, false, x.last, x.tel, x.shown⟩
theorem ClSt.setTold {w0 : World} {b bs : Nat} {d : Int} {x : Wri} {sw sh : Int} {w : World} (h : ClSt w0 b bs d x sw sh w) : ClSt w0 b bs d (unT x) sw sh (w.setCell ⟨b, 1, none⟩ (.bool false)) := by
  have g := grown_set w ⟨b, 1, none⟩ (.bool false)
  obtain ⟨LA, Lc, hw⟩ := h.wk.wr
  refine ⟨⟨h.wk.env.grown g h.wk.nb.1 h.wk.nb.2.1 h.wk.nb.2.2, h.wk.nb, h.wk.bel.grown g h.wk.bel.size (fun k e => by cases e; exact h.wk.lo), h.wk.lo, LA, Lc, hw.own.set 1 (.bool false), (fun e => by cases e), hw.tx, hw.tt⟩, h.dp, h.sz.of_grown g (fun e => h.ne (Option.some.inj e)), h.ne, h.lo, h.nbs⟩
theorem ClSt.setSize {w0 : World} {b bs : Nat} {d : Int} {x : Wri} {sw sh : Int} {w : World} (h : ClSt w0 b bs d x sw sh w) (p q : Int) : ClSt w0 b bs d x p q ((w.setCell ⟨bs, 0, none⟩ (.int .i64 p)).setCell ⟨bs, 1, none⟩ (.int .i64 q)) := by
  have g := grown_trans (grown_set w ⟨bs, 0, none⟩ (.int .i64 p)) (grown_set (w.setCell ⟨bs, 0, none⟩ (.int .i64 p)) ⟨bs, 1, none⟩ (.int .i64 q))
  have T := (h.sz.set 0 (.int .i64 p)).set 1 (.int .i64 q)
  obtain ⟨LA, Lc, hw⟩ := h.wk.wr
  have ne : b ≠ bs := fun e => h.ne e.symm
  have hbs := h.sz
  have KT : KeepT w ((w.setCell ⟨bs, 0, none⟩ (.int .i64 p)).setCell ⟨bs, 1, none⟩ (.int .i64 q)) := KeepT.grown g (fun b' e arr fl hk => by
    cases e
    unfold Own1 at hbs
    rw [hbs] at hk
    cases hk)
  exact ⟨⟨h.wk.env.grown g h.nbs.1 h.nbs.2.1 h.nbs.2.2, h.wk.nb, h.wk.bel.grown g h.wk.bel.size (fun k e => by cases e; exact h.lo), h.wk.lo, LA, Lc, hw.own.of_grown g (fun e => ne (Option.some.inj e)), fun e => ⟨(hw.last e).1, (hw.last e).2.stay KT⟩, hw.tx, hw.tt⟩, h.dp, T, h.ne, h.lo, h.nbs⟩
/-- another writer's call -/
theorem ClSt.other {w0 : World} {b bs b2 : Nat} {d : Int} {x : Wri} {sw sh : Int} {w w' : World} (h : ClSt w0 b bs d x sw sh w) {vs : List Value} (h2 : Own1 w b2 vs 67) (n1 : b2 ≠ b) (n2 : b2 ≠ bs) (lo2 : w0.heap.size ≤ b2)
    (n3 : b2 ≠ 1 ∧ b2 ≠ 0 ∧ b2 ≠ 2) (g : w.grownBy w' (some b2)) : ClSt w0 b bs d x sw sh w' := by
  obtain ⟨LA, Lc, hw⟩ := h.wk.wr
  have KT : KeepT w w' := KeepT.grown g (fun b' e arr fl hk => by
    cases e
    unfold Own1 at h2
    rw [h2] at hk
    cases hk)
  exact ⟨⟨h.wk.env.grown g n3.1 n3.2.1 n3.2.2, h.wk.nb, h.wk.bel.grown g h.wk.bel.size (fun k e => by cases e; exact lo2), h.wk.lo, LA, Lc, hw.own.of_grown g (fun e => n1 (Option.some.inj e).symm), fun e => ⟨(hw.last e).1, (hw.last e).2.stay KT⟩, hw.tx, hw.tt⟩, h.dp, h.sz.of_grown g (fun e => n2 (Option.some.inj e).symm), h.ne, h.lo, h.nbs⟩
/-- bytes of one's own -/
def OwnB (v : Value) (s : ByteArray) (w : World) : Prop := ∃ lo, w.ownsRow lo 5 1 v s.size (Lib.strCells s)
theorem OwnB.below {v : Value} {s : ByteArray} {w w' : World} (h : OwnB v s w) (hb : Below w.heap.size w w') : OwnB v s w' := by
  obtain ⟨lo, h1⟩ := h
  exact ⟨lo, own_call h1 hb⟩
theorem OwnB.other {v : Value} {s : ByteArray} {w w' : World} {b2 : Nat} {vs : List Value} {T : TypeId} (h : OwnB v s w) (h2 : Own1 w b2 vs T) (ne : T ≠ 5) (g : w.grownBy w' (some b2)) : OwnB v s w' := by
  obtain ⟨lo, h1⟩ := h
  refine ⟨lo, h1.kept g ?_⟩
  rcases h1.2 with ⟨e, _⟩ | ⟨g', cap, cur, e, _, hg, _⟩
  · subst e; exact Or.inl rfl
  · subst e
    refine Or.inr (fun q => ?_)
    have := Option.some.inj q
    simp only at this
    subst this
    unfold Own1 at h2
    rw [h2] at hg
    cases hg
    exact ne rfl
theorem OwnB.slice {v : Value} {s : ByteArray} {w : World} (h : OwnB v s w) : ∃ A c, v = .slice A s.size c := by
  obtain ⟨lo, h1⟩ := h
  exact own_slice' h1
theorem OwnB.conv {v : Value} {s : ByteArray} {w : World} (h : OwnB v s w) : (convert 40 9 v).run Tryd.prog w = .ok (.string s) w := by
  obtain ⟨lo, h1⟩ := h
  exact conv_str h1
/-- a frame of a right screen -/
theorem cl_frame {w0 : World} {b bs : Nat} {d : Int} {x : Wri} {sw sh : Int} {w : World} (h : ClSt w0 b bs d x sw sh w) (s : Scr) (A : Option Addr) (c : Nat) (hs : ScrAt w w.heap.size s A c) (hr : rightS s = true) (ht : totS s.cells ≤ 1000000000) :
    Calls Tryd.prog 15 #[.pointer (some ⟨b, 0, none⟩), scrV s A c] w fun e w' => ∃ v, e = .returned (.tuple #[v, .int .i64 0]) ∧ OwnB v (frameT x (redS s d)).out w' ∧ ClSt w0 b bs d (frameW x s) sw sh w' ∧ w.grownBy w' (some b) := by
  refine (wk_frame h.wk s A c hs hr ht).mono ?_
  rintro e w' ⟨v, rfl, ho, hw, hg⟩
  rw [h.dp] at ho
  exact ⟨v, rfl, ⟨_, ho⟩, ⟨hw, h.dp, h.sz.of_grown hg (fun e => h.ne (Option.some.inj e)), h.ne, h.lo, h.nbs⟩, hg⟩
theorem cl_frame_no {w0 : World} {b bs : Nat} {d : Int} {x : Wri} {sw sh : Int} {w : World} (h : ClSt w0 b bs d x sw sh w) (s : Scr) (A : Option Addr) (c : Nat) (hs : ScrAt w w.heap.size s A c) (hr : rightS s = false) :
    Calls Tryd.prog 15 #[.pointer (some ⟨b, 0, none⟩), scrV s A c] w fun e w' => e = .returned (.tuple #[.slice none 0 0, .int .i64 180]) ∧ Below w.heap.size w w' := by
  obtain ⟨LA, Lc, hw⟩ := h.wk.wr
  exact d_Frame_no b x LA Lc s A c w hw hs hr

theorem frame_size {x : Wri} {r : Scr} (hr : rightS r = true) (hl : x.told = true → rightS x.last = true) (ht : x.tel.text.size ≤ 400000000000) (h0 : 0 ≤ x.tel.x) (h1 : x.tel.x ≤ 5000) (hs : totS r.cells ≤ 1000000000) : (frameT x r).out.size ≤ 2000000300 := by
  have m := mid_bounds hr hl ht h0 h1 hs
  have c := curs_bounds hr m.1 m.2.1 m.2.2.1 m.2.2.2
  have e : ∀ t a b, (show1 t a b).out.size ≤ t.out.size + 6 := fun t a b => by
    unfold show1
    split
    · show (t.out ++ showB).size ≤ _; rw [ByteArray.size_append, show_size]; exact Nat.le_refl _
    · split
      · show (t.out ++ hideB).size ≤ _; rw [ByteArray.size_append, hide_size]; exact Nat.le_refl _
      · omega
  have := e (curs1 (midT x r) r) (x.shown && !newB x r) r.shown
  have e2 : frameT x r = show1 (curs1 (midT x r) r) (x.shown && !newB x r) r.shown := rfl
  rw [e2]
  omega
/-- do they begin with the clear? -/
theorem begins_iff (x : Wri) (r : Scr) (hr : rightS r = true) (hp : ∀ f g : Sty, ∀ n ∈ paramsL f g, 0 ≤ n) : (newB x r = true ↔ 22 ≤ (frameT x r).out.size ∧ (frameT x r).out.data.toList.take 22 = clearB.data.toList) := by
  have h := (frame_clears x r hr hp).2
  have sz : (frameT x r).out.data.toList.length = (frameT x r).out.size := by simp
  have cl : clearB.data.toList.length = 22 := rfl
  rw [h]
  constructor
  · rintro ⟨q, e⟩
    have l := congrArg List.length e
    rw [List.length_append, cl] at l
    refine ⟨by omega, ?_⟩
    rw [e, List.take_append_of_le_length (by rw [cl]; exact Nat.le_refl _), List.take_of_length_le (by rw [cl]; exact Nat.le_refl _)]
  · rintro ⟨_, e⟩
    exact ⟨(frameT x r).out.data.toList.drop 22, by rw [← e, List.take_append_drop]⟩
theorem params_nn (f g : Sty) : ∀ n ∈ paramsL f g, 0 ≤ n := fun n hn => (params_rng f g n hn).1
/-- the first bytes of some, as a text -/
theorem OwnB.head {v : Value} {s : ByteArray} {w : World} (h : OwnB v s w) (hs : 22 ≤ s.size) : ∃ g c, v = .slice (some ⟨g, 0, none⟩) s.size c ∧ (∀ W, (Instr.slice 40 v none (some (.int .i64 22)) none).run Tryd.prog W = .ok (.slice (some ⟨g, 0, none⟩) 22 c) W) ∧ (convert 40 9 (.slice (some ⟨g, 0, none⟩) 22 c)).run Tryd.prog w = .ok (.string ⟨(s.data.toList.take 22).toArray⟩) w := by
  obtain ⟨lo, h1⟩ := h
  rcases h1.2 with ⟨_, e2⟩ | ⟨g, cap, cur, e, _, _, hc, _⟩
  · omega
  · subst e
    refine ⟨g, cap, rfl, fun W => ?_, ?_⟩
    · rw [run_slice_h W 40 (some ⟨g, 0, none⟩) s.size cap (by kernel_rfl) .i64 22 (by omega) (by omega)]
      have sz : (sizeOf (Tryd.prog.elem 40)).run Tryd.prog W = .ok 1 W := by kernel_rfl
      rw [sz]
      show Result.ok (sliced (some ⟨g, 0, none⟩) 0 ((22 : Int)).toNat cap 1) W = _
      unfold sliced
      rw [if_neg (by omega)]
      rfl
    · refine conv_part (fun j u hj => ?_) (by rw [List.length_take]; have : s.data.toList.length = s.size := by simp
                                              omega)
      rw [List.getElem?_map, Option.map_eq_some_iff] at hj
      obtain ⟨b, hb, rfl⟩ := hj
      have lj : j < 22 := by have := (List.getElem?_eq_some_iff.1 hb).1; rw [List.length_take] at this; omega
      rw [List.getElem?_take, if_pos lj] at hb
      exact h1.cells (g := g) rfl j _ ((strCells_get s j _).2 ⟨b, hb, rfl⟩)

set_option maxHeartbeats 32000000 in
set_option maxRecDepth 100000 in
theorem diffClear_walk (dp : Int) (A : Option Addr) (c : Nat) (L : List (Bool × SA)) (w : World) (E : EnvD w) (hl : L.length ≤ c) (hz : c * 72 ≤ 140737488351232) (S : Sees w w.heap.size A (actsV L)) (ok : ∀ x ∈ L, ScrD w x.2) :
    Calls Tryd.prog 6 #[.agg #[.int .i64 dp, .slice A L.length c]] w fun e w' => e = .returned (.bool true) ∧ Below w.heap.size w w' := by
  obtain ⟨Q, hQ⟩ : ∃ Q, Q = w.alloc (.cells #[.int .i64 dp, .slice A L.length c] 46) := ⟨_, rfl⟩
  have BQ : Below w.heap.size w Q := by rw [hQ]; exact (Below.refl _ w).alloc (Nat.le_refl _) _
  have KQ : Blk Q w.heap.size [.int .i64 dp, .slice A L.length c] := by rw [hQ]; exact Blk.new w _ _
  have SC := Lib.hid (law_screens dp A c L Q hl hz ((S.below BQ (Nat.le_refl _)).more BQ.size))
  have HS := Lib.hid S
  have HO := Lib.hid ok
  have HE := Lib.hid E
  have HB := Lib.hid BQ
  have HK := Lib.hid KQ
  have q0 := KQ.c 0 _ rfl
  have q1 := KQ.c 1 _ rfl
  clear S ok E BQ KQ
  go_enter Tryd.func6, Tryd.ntmps6
  go_wp2_with fail
  rw [← hQ]
  clear hQ
  refine SC.out.mono ?_; rintro e w1 ⟨A', c', rfl, se, hb1⟩
  have BW := Lib.hid (HB.out.trans (hb1.mono HB.out.size))
  have HK := Lib.hid (HK.out.keep hb1 HK.out.lt)
  have BY := law_beyond (L.map (·.2)) A' c' w1 se (by rw [List.length_map]; omega) (beyond_pre (fun t ht => by
    obtain ⟨x, hx, rfl⟩ := List.mem_map.1 ht
    exact (HO.out x hx).below BW.out))
  rw [List.length_map] at BY
  have OKB : Hid (decide (134217728 < total (L.map (·.2))) = false → ∀ x ∈ L, bulk x.2.s.cells ≤ 134217728) := Lib.hid (fun h x hx => by
    have h := of_decide_eq_false h
    have := total_mem (List.mem_map.2 ⟨x, hx, rfl⟩ : x.2 ∈ L.map (·.2))
    omega)
  generalize decide (134217728 < total (L.map (·.2))) = G at *
  have BY := Lib.hid BY
  have q0 := HK.out.c 0 _ rfl
  have q1 := HK.out.c 1 _ rfl
  clear se hb1 SC
  go_wp2_with fail
  refine BY.out.mono ?_; rintro e w2 ⟨rfl, rfl⟩
  cases G with
  | true =>
    go_wp2_with fail
    go_ret
    exact ⟨rfl, BW.out⟩
  | false =>
    have OKC : Hid (∀ x ∈ L, bulk x.2.s.cells ≤ 134217728) := Lib.hid (OKB.out rfl)
    clear OKB
    clear BY
    have D0 : 0 ≤ max 0 (min dp 3) := by omega
    have D3 : max 0 (min dp 3) ≤ 3 := by omega
    have NW : Hid (∀ d, d = max 0 (min dp 3) → Calls Tryd.prog 13 #[.int .i64 d] w1 fun e w' => e = .returned (.tuple #[.pointer (some ⟨w1.heap.size, 0, none⟩), .int .i64 0]) ∧ w' = w1.alloc (.cells (wriV d false 0 0 none 0 0 0 0 false tel0 false).toArray 67)) := Lib.hid (fun d hd => d_New d (by unfold okD; simp; omega) w1)
    go_wp2_with fail
    refine (NW.out _ rfl).mono ?_; rintro e w2 ⟨rfl, h2⟩
    obtain ⟨d, hd⟩ : ∃ d, d = max 0 (min dp 3) := ⟨_, rfl⟩
    rw [← hd] at h2 D0 D3 ⊢
    have okd : okD d = true := by unfold okD; simp; omega
    have OKD := Lib.hid okd
    have E1 := HE.out.of_below BW.out (Nat.le_refl _)
    have W2 := wk_new d okd w1 E1
    rw [← h2] at W2
    have Z2 : w2.heap.size = w1.heap.size + 1 := by rw [h2]; simp
    obtain ⟨w3, h3⟩ : ∃ w3, w3 = w2.alloc (.cells #[.int .i64 0, .int .i64 0] 49) := ⟨_, rfl⟩
    have B3 : Below w2.heap.size w2 w3 := by rw [h3]; exact (Below.refl _ _).alloc (Nat.le_refl _) _
    have C3 : ClSt w1 w1.heap.size w2.heap.size d (wri0 d) 0 0 w3 := by
      refine ⟨W2.below B3, rfl, by rw [h3]; exact World.alloc_heap_new w2 _, by omega, by omega, ?_, ?_, ?_⟩
      · have := block_lt_of_cell (E1.st.on 0 (by decide)); simp only at this; omega
      · have := block_lt_of_cell (E1.st.off 0 (by decide)); simp only at this; omega
      · have := E1.pg; omega
    obtain ⟨b, hb⟩ : ∃ b, b = w1.heap.size := ⟨_, rfl⟩
    obtain ⟨bs, hbs⟩ : ∃ bs, bs = w2.heap.size := ⟨_, rfl⟩
    rw [← hb, ← hbs] at C3
    have R0 : Hid (∃ x sw sh, ClSt w1 b bs d x sw sh w3 ∧ true = !x.told ∧ (x.told = true → x.last.w = sw ∧ x.last.h = sh)) := Lib.hid ⟨_, _, _, C3, rfl, fun e => by cases e⟩
    rw [← hb]
    have E1 := Lib.hid E1
    have H3 := Lib.hid h3
    have HBS := Lib.hid hbs
    clear hd okd W2 B3 C3 NW HE h2 h3 hbs hb Z2
    go_wp2_with fail
    rw [← HBS.out, ← H3.out]
    clear H3 HBS
    go_loopw [6, 8] (fun s6 s8 wr => ∃ (k : Nat) (fs : Bool), k ≤ L.length ∧ s8 = .int .i64 k ∧ s6 = .bool fs ∧ Hid (∃ x sw sh, ClSt w1 b bs d x sw sh wr ∧ fs = !x.told ∧ (x.told = true → x.last.w = sw ∧ x.last.h = sh))) (fun _ s8 _ => L.length - (intOf s8).toNat)
    case atStart => exact ⟨0, true, Nat.zero_le _, rfl, rfl, R0⟩
    case round =>
      obtain ⟨k, fs, hk, rfl, rfl, hr⟩ := hrel
      clear R0
      obtain ⟨x, sw, sh, hC, hfs, heq⟩ := hr.out
      have HC := Lib.hid hC
      have HF := Lib.hid hfs
      have HQ := Lib.hid heq
      have KS := HK.out.keep hC.wk.bel HK.out.lt
      have q0 := KS.c 0 _ rfl
      have q1 := KS.c 1 _ rfl
      by_cases lt : k < L.length
      · have BA := BW.out.trans (hC.wk.bel.mono BW.out.size)
        obtain ⟨ad, rfl, ab, at_⟩ := act_nth (HS.out.below BA (Nat.le_refl _)) k lt
        have SD := HO.out L[k] (List.getElem_mem lt)
        have BK := OKC.out L[k] (List.getElem_mem lt)
        generalize L[k] = a at *
        obtain ⟨rs, t⟩ := a
        have SA2 := (SD.at BK).2
        have SCF : Hid (∀ W, Below w1.heap.size w1 W → ScrAt W W.heap.size t.s t.A t.c) := Lib.hid (fun W hb => ((SD.below (BW.out.trans (hb.mono BW.out.size))).at BK).1)
        have z0 := at_.c0
        have z1 := at_.c1
        have z2 := at_.c2
        have z3 := at_.c3
        have z4 := at_.c4
        have z5 := at_.c5
        have z6 := at_.c6
        simp only at z0 z1 z2 z3 z4 z5 z6 SA2
        obtain ⟨g9, hg9⟩ : ∃ g9, g9 = wr.heap.size := ⟨_, rfl⟩
        obtain ⟨V1, hV1⟩ : ∃ V1, V1 = wr.alloc (.cells #[.bool rs, .int .i64 t.s.w, .int .i64 t.s.h, .slice t.A t.s.cells.length t.c, .int .i64 t.s.x, .int .i64 t.s.y, .bool t.s.shown] 51) := ⟨_, rfl⟩
        have BV1 : Below wr.heap.size wr V1 := by rw [hV1]; exact (Below.refl _ _).alloc (Nat.le_refl _) _
        have KA : Own1 V1 g9 [.bool rs, .int .i64 t.s.w, .int .i64 t.s.h, .slice t.A t.s.cells.length t.c, .int .i64 t.s.x, .int .i64 t.s.y, .bool t.s.shown] 51 := by rw [hV1, hg9]; exact World.alloc_heap_new wr _
        have n9 : g9 ≠ b ∧ g9 ≠ bs := by have h1 := hC.lt; have h2 := hC.sz.lt; omega
        have ST := Lib.hid (show ClSt w1 b bs d x sw sh V1 ∧ Own1 V1 g9 [.bool rs, .int .i64 t.s.w, .int .i64 t.s.h, .slice t.A t.s.cells.length t.c, .int .i64 t.s.x, .int .i64 t.s.y, .bool t.s.shown] 51 from ⟨hC.below BV1, KA⟩)
        have TS := Lib.hid SA2
        have a0 := KA.blk.c 0 _ rfl
        clear hC hfs heq hr KS BA at_ SD BK SA2 BV1 KA
        go_upto_region 13 with fail
        rw [← hV1, ← hg9]
        clear hV1
        have HG9 := Lib.hid hg9
        clear hg9 z0 z1 z2 z3 z4 z5 z6 q0 q1
        go_upto_if 50 with fail
        obtain ⟨y, hy⟩ : ∃ y, y = if rs = true then unT x else x := ⟨_, rfl⟩
        have HY := Lib.hid hy
        clear hy
        go_cut [6] from 49 to 52 (fun s6 wx => s6 = .bool (!y.told) ∧ Hid (ClSt w1 b bs d y sw sh wx ∧ Own1 wx g9 [.bool rs, .int .i64 t.s.w, .int .i64 t.s.h, .slice t.A t.s.cells.length t.c, .int .i64 t.s.x, .int .i64 t.s.y, .bool t.s.shown] 51))
        case first =>
          cases rs with
          | false =>
            have YX : y = x := by rw [HY.out]; rfl
            have NR := Lib.hid (show ClSt w1 b bs d y sw sh V1 ∧ Own1 V1 g9 [.bool false, .int .i64 t.s.w, .int .i64 t.s.h, .slice t.A t.s.cells.length t.c, .int .i64 t.s.x, .int .i64 t.s.y, .bool t.s.shown] 51 by rw [YX]; exact ST.out)
            have FE : Hid (fs = !y.told) := Lib.hid (by rw [YX]; exact HF.out)
            clear YX HY
            go_wp2_with fail
            go_meet
            exact ⟨by rw [FE.out], NR⟩
          | true =>
            have YX : y = unT x := by rw [HY.out]; rfl
            obtain ⟨st1, st2⟩ := ST.out
            obtain ⟨LA, Lc, hw⟩ := st1.wk.wr
            have hw1 := hw.own.blk.c 1 _ rfl
            have hf1 := hw.own.blk.f 1 _ rfl
            have gs := grown_set V1 ⟨b, 1, none⟩ (.bool false)
            have NR := Lib.hid (show ClSt w1 b bs d y sw sh (V1.setCell ⟨b, 1, none⟩ (.bool false)) ∧ Own1 (V1.setCell ⟨b, 1, none⟩ (.bool false)) g9 [.bool true, .int .i64 t.s.w, .int .i64 t.s.h, .slice t.A t.s.cells.length t.c, .int .i64 t.s.x, .int .i64 t.s.y, .bool t.s.shown] 51 by
              rw [YX]
              exact ⟨st1.setTold, st2.of_grown gs (fun e => n9.1 (Option.some.inj e))⟩)
            have FE : Hid (true = !y.told) := Lib.hid (by rw [YX]; rfl)
            clear YX HY st1 st2 hw gs
            go_wp2_with fail
            refine (d_Reset b _ V1 hw1 hf1).mono ?_; rintro e wq ⟨⟨v, rfl⟩, rfl⟩
            go_wp2_with fail
            go_meet
            exact ⟨by rw [← FE.out], NR⟩
        case rest =>
          obtain ⟨h6, hst⟩ := hcut
          obtain ⟨fy, hfy⟩ : ∃ fy, fy = !y.told := ⟨_, rfl⟩
          rw [← hfy] at h6
          subst h6
          have HFY := Lib.hid hfy
          clear hfy
          obtain ⟨W1, hW1⟩ : ∃ W1, W1 = wc := ⟨_, rfl⟩
          rw [← hW1] at hst ⊢
          have ST := Lib.hid hst.out
          have EY : Hid (y.told = true → y.last.w = sw ∧ y.last.h = sh) := Lib.hid (by
            rw [HY.out]
            cases rs with
            | false => exact HQ.out
            | true => exact fun e => by cases e)
          have a1 := hst.out.2.blk.c 1 _ rfl
          have a2 := hst.out.2.blk.c 2 _ rfl
          have a3 := hst.out.2.blk.c 3 _ rfl
          have a4 := hst.out.2.blk.c 4 _ rfl
          have a5 := hst.out.2.blk.c 5 _ rfl
          have a6 := hst.out.2.blk.c 6 _ rfl
          clear hst hW1 HC HF HQ HY a0
          cases hr : rightS t.s with
          | false =>
            have FN := Lib.hid (cl_frame_no ST.out.1 t.s t.A t.c (SCF.out W1 ST.out.1.wk.bel) hr)
            have RT := Lib.hid (fun W (hb : Below w1.heap.size w1 W) => d_RightAt t.s t.A t.c W (SCF.out W hb))
            rw [scr_val] at FN RT
            go_wp2_with fail
            refine FN.out.mono ?_; rintro e W2 ⟨rfl, hb2⟩
            have ST := Lib.hid (show ClSt w1 b bs d y sw sh W2 ∧ Own1 W2 g9 [.bool rs, .int .i64 t.s.w, .int .i64 t.s.h, .slice t.A t.s.cells.length t.c, .int .i64 t.s.x, .int .i64 t.s.y, .bool t.s.shown] 51 from ⟨ST.out.1.below hb2, ST.out.2.below hb2⟩)
            have a1 := ST.out.2.blk.c 1 _ rfl
            have a2 := ST.out.2.blk.c 2 _ rfl
            have a3 := ST.out.2.blk.c 3 _ rfl
            have a4 := ST.out.2.blk.c 4 _ rfl
            have a5 := ST.out.2.blk.c 5 _ rfl
            have a6 := ST.out.2.blk.c 6 _ rfl
            clear hb2 FN
            go_wp2_with fail
            refine (RT.out W2 ST.out.1.wk.bel).mono ?_; rintro e W3 ⟨rfl, hb3⟩
            rw [hr]
            have NR : Hid (∃ x sw sh, ClSt w1 b bs d x sw sh W3 ∧ fy = !x.told ∧ (x.told = true → x.last.w = sw ∧ x.last.h = sh)) := Lib.hid ⟨y, sw, sh, ST.out.1.below hb3, HFY.out, EY.out⟩
            clear hb3 hr RT
            go_wp2_with fail
            go_roundw
            case rel => exact ⟨k + 1, _, by omega, by go_num, rfl, NR⟩
            case measure => simp [intOf]; omega
          | true =>
            have FY := Lib.hid (cl_frame ST.out.1 t.s t.A t.c (SCF.out W1 ST.out.1.wk.bel) hr TS.out)
            rw [scr_val] at FY
            go_wp2_with fail
            refine FY.out.mono ?_; rintro e W2 ⟨v, rfl, ob, cs, hg⟩
            obtain ⟨B, hB⟩ : ∃ B, B = newB y (redS t.s d) := ⟨_, rfl⟩
            have rrd := right_red d hr
            have BI := begins_iff y (redS t.s d) rrd params_nn
            have FCL : Hid (clrN (frameT y (redS t.s d)).out.data.toList = if B = true then 1 else 0) := Lib.hid (by rw [hB]; exact (frame_clears y (redS t.s d) rrd params_nn).1)
            have FAN : Hid (B = true → (frameT (wri0 d) (redS t.s d)).out = (frameT y (redS t.s d)).out) := Lib.hid (fun e => by rw [frame_anew (wri0 d) y (redS t.s d) rfl (by rw [← hB]; exact e)])
            have FSZ : (frameT y (redS t.s d)).out.size ≤ 1000000000000 := by
              obtain ⟨LA, Lc, hw⟩ := ST.out.1.wk.wr
              have := frame_size rrd (fun e => (hw.last e).1) hw.tt hw.tx.1 hw.tx.2 (by show totS (redL t.s.cells d) ≤ _; rw [totS_red]; exact TS.out)
              omega
            rw [← hB] at BI
            have NB : Hid (B = (fy || decide (y.last.w ≠ t.s.w) || decide (y.last.h ≠ t.s.h))) := Lib.hid (by rw [hB, HFY.out]; rfl)
            have PW : Hid ((frameW y t.s).told = true ∧ (frameW y t.s).last.w = t.s.w ∧ (frameW y t.s).last.h = t.s.h) := Lib.hid ⟨rfl, rfl, rfl⟩
            generalize (frameT y (redS t.s d)).out = out at *
            generalize frameW y t.s = x' at *
            have HBI := Lib.hid BI
            have n9b := n9.1
            have KA := ST.out.2.of_grown hg (fun e => n9b (Option.some.inj e))
            have ST := Lib.hid (show ClSt w1 b bs d x' sw sh W2 ∧ Own1 W2 g9 [.bool rs, .int .i64 t.s.w, .int .i64 t.s.h, .slice t.A t.s.cells.length t.c, .int .i64 t.s.x, .int .i64 t.s.y, .bool t.s.shown] 51 from ⟨cs, KA⟩)
            have OB := Lib.hid ob
            obtain ⟨Av, cv, rfl⟩ := ob.slice
            have a1 := KA.blk.c 1 _ rfl
            have a2 := KA.blk.c 2 _ rfl
            have l9 := KA.lt
            have lb := cs.lt
            have lbs := cs.sz.lt
            obtain ⟨g12, hg12⟩ : ∃ g12, g12 = W2.heap.size := ⟨_, rfl⟩
            obtain ⟨W3, hW3⟩ : ∃ W3, W3 = W2.alloc (.cells #[.int .i64 t.s.w, .int .i64 t.s.h] 49) := ⟨_, rfl⟩
            have B3 : Below W2.heap.size W2 W3 := by rw [hW3]; exact (Below.refl _ _).alloc (Nat.le_refl _) _
            have KS : Own1 W3 g12 [.int .i64 t.s.w, .int .i64 t.s.h] 49 := by rw [hW3, hg12]; exact World.alloc_heap_new W2 _
            have n12 : g12 ≠ b ∧ g12 ≠ bs ∧ g12 ≠ g9 := by omega
            have ST3 := Lib.hid (show ClSt w1 b bs d x' sw sh W3 ∧ Own1 W3 g9 [.bool rs, .int .i64 t.s.w, .int .i64 t.s.h, .slice t.A t.s.cells.length t.c, .int .i64 t.s.x, .int .i64 t.s.y, .bool t.s.shown] 51 ∧ Own1 W3 g12 [.int .i64 t.s.w, .int .i64 t.s.h] 49 ∧ OwnB (.slice Av out.size cv) out W3 from ⟨cs.below B3, KA.below B3, KS, ob.below B3⟩)
            have H12 := Lib.hid hg12
            have H3 := Lib.hid hW3
            clear hB BI hg cs ob KA B3 KS hg12 hW3 rrd FY
            go_upto_region 21 with fail
            rw [← H12.out, ← H3.out]
            clear H3
            go_cut [13] from 77 to 85 (fun s13 wx => s13 = .bool B ∧ wx = W3)
            case first =>
              by_cases sz : 22 ≤ out.size
              · obtain ⟨gv, cv', e, sl, cv2⟩ := ST3.out.2.2.2.head sz
                cases e
                by_cases q : out.data.toList.take 22 = clearB.data.toList
                · have BT : Hid (B = true) := Lib.hid (HBI.out.2 ⟨sz, q⟩)
                  have q2 : ((⟨(out.data.toList.take 22).toArray⟩ : ByteArray).toList == [27, 91, 48, 109, 27, 91, 63, 55, 108, 27, 91, 50, 74, 27, 91, 72, 27, 91, 63, 50, 53, 108]) = true := by rw [eq_list, q]; exact decide_eq_true rfl
                  generalize (⟨(out.data.toList.take 22).toArray⟩ : ByteArray) = z at *
                  clear q
                  go_wp2_with fail
                  go_meet
                  exact ⟨by rw [BT.out], rfl⟩
                · have BF : Hid (B = false) := Lib.hid (by
                    cases e : B with
                    | false => rfl
                    | true => exact absurd (HBI.out.1 e).2 q)
                  have q2 : ((⟨(out.data.toList.take 22).toArray⟩ : ByteArray).toList == [27, 91, 48, 109, 27, 91, 63, 55, 108, 27, 91, 50, 74, 27, 91, 72, 27, 91, 63, 50, 53, 108]) = false := by
                    rw [eq_list]
                    refine decide_eq_false (fun e => q ?_)
                    have := congrArg (fun b : ByteArray => b.data.toList) e
                    simpa [clearB] using this
                  generalize (⟨(out.data.toList.take 22).toArray⟩ : ByteArray) = z at *
                  clear q
                  go_wp2_with fail
                  go_meet
                  exact ⟨by rw [BF.out], rfl⟩
              · have BF : Hid (B = false) := Lib.hid (by
                  cases e : B with
                  | false => rfl
                  | true => exact absurd (HBI.out.1 e).1 sz)
                have sz2 : out.size < 22 := by omega
                go_wp2_with fail
                go_meet
                exact ⟨by rw [BF.out], rfl⟩
            case rest =>
              obtain ⟨rfl, hw3⟩ := hcut
              rw [hw3]
              clear HBI hw3 a1 a2
              have c0 := ST3.out.2.2.1.blk.c 0 _ rfl
              have c1 := ST3.out.2.2.1.blk.c 1 _ rfl
              have d0 := ST3.out.1.sz.blk.c 0 _ rfl
              have d1 := ST3.out.1.sz.blk.c 1 _ rfl
              go_upto_region 23 with fail
              go_cut [91] from 86 to 91 (fun s91 wx => s91 = .bool B ∧ wx = W3)
              case first =>
                cases fy with
                | true =>
                  have BT : Hid (B = true) := Lib.hid (by rw [NB.out]; rfl)
                  go_wp2_with fail
                  go_meet
                  exact ⟨by rw [BT.out], rfl⟩
                | false =>
                  have et : y.told = true := by have := HFY.out; simpa using this.symm
                  obtain ⟨e1, e2⟩ := EY.out et
                  by_cases q1 : t.s.w = sw
                  · by_cases q2 : t.s.h = sh
                    · have BF : Hid (B = false) := Lib.hid (by rw [NB.out, e1, e2, q1, q2]; simp)
                      clear et e1 e2
                      go_wp2_with fail
                      go_meet
                      exact ⟨by rw [BF.out], rfl⟩
                    · have BT : Hid (B = true) := Lib.hid (by rw [NB.out, e2]; have : sh ≠ t.s.h := fun z => q2 z.symm
                                                              simp [this])
                      clear et e1 e2
                      go_wp2_with fail
                      go_meet
                      exact ⟨by rw [BT.out], rfl⟩
                  · have BT : Hid (B = true) := Lib.hid (by rw [NB.out, e1]; have : sw ≠ t.s.w := fun z => q1 z.symm
                                                            simp [this])
                    clear et e1 e2
                    go_wp2_with fail
                    go_meet
                    exact ⟨by rw [BT.out], rfl⟩
              case rest =>
                obtain ⟨rfl, hw3⟩ := hcut
                rw [hw3]
                clear hw3 c0 c1 d0 d1
                go_upto_if 91 with fail
                go_cut [14] from 86 to 114 (fun s14 wx => s14 = .int .i64 (if B = true then 1 else 0) ∧ Hid (ClSt w1 b bs d x' sw sh wx ∧ Own1 wx g12 [.int .i64 t.s.w, .int .i64 t.s.h] 49 ∧ OwnB (.slice Av out.size cv) out wx))
                case first =>
                  cases B with
                  | false =>
                    have NR := Lib.hid (show ClSt w1 b bs d x' sw sh W3 ∧ Own1 W3 g12 [.int .i64 t.s.w, .int .i64 t.s.h] 49 ∧ OwnB (.slice Av out.size cv) out W3 from ⟨ST3.out.1, ST3.out.2.2.1, ST3.out.2.2.2⟩)
                    go_wp2_with fail
                    go_meet
                    exact ⟨rfl, NR⟩
                  | true =>
                    have FANH := Lib.hid (FAN.out rfl)
                    have NW := Lib.hid (d_New d OKD.out W3)
                    go_wp2_with fail
                    refine NW.out.mono ?_; rintro e W4 ⟨rfl, h4⟩
                    obtain ⟨b2, hb2⟩ : ∃ b2, b2 = W3.heap.size := ⟨_, rfl⟩
                    have NF : WkSt W3 b2 (wri0 d) W4 := by rw [hb2, h4]; exact wk_new d OKD.out W3 ST3.out.1.wk.env
                    have B4 : Below W3.heap.size W3 W4 := by rw [h4]; exact (Below.refl _ _).alloc (Nat.le_refl _) _
                    have lb4 := ST3.out.1.lt
                    have lbs4 := ST3.out.1.sz.lt
                    have l12 := ST3.out.2.2.1.lt
                    have l94 := ST3.out.2.1.lt
                    have lw4 := ST3.out.1.wk.bel.size
                    have nn : b2 ≠ b ∧ b2 ≠ bs ∧ g9 ≠ b2 ∧ g12 ≠ b2 ∧ w1.heap.size ≤ b2 := by omega
                    have ST4 := Lib.hid (show ClSt w1 b bs d x' sw sh W4 ∧ Own1 W4 g9 [.bool rs, .int .i64 t.s.w, .int .i64 t.s.h, .slice t.A t.s.cells.length t.c, .int .i64 t.s.x, .int .i64 t.s.y, .bool t.s.shown] 51 ∧ Own1 W4 g12 [.int .i64 t.s.w, .int .i64 t.s.h] 49 ∧ OwnB (.slice Av out.size cv) out W4 from ⟨ST3.out.1.below B4, ST3.out.2.1.below B4, ST3.out.2.2.1.below B4, ST3.out.2.2.2.below B4⟩)
                    have FV := Lib.hid (wk_frame NF t.s t.A t.c (SCF.out W4 ST4.out.1.wk.bel) hr TS.out)
                    rw [scr_val] at FV
                    rw [← hb2]
                    have HNF := Lib.hid NF
                    have a1 := ST4.out.2.1.blk.c 1 _ rfl
                    have a2 := ST4.out.2.1.blk.c 2 _ rfl
                    have a3 := ST4.out.2.1.blk.c 3 _ rfl
                    have a4 := ST4.out.2.1.blk.c 4 _ rfl
                    have a5 := ST4.out.2.1.blk.c 5 _ rfl
                    have a6 := ST4.out.2.1.blk.c 6 _ rfl
                    clear NF B4 h4 hb2 NW lb4 lbs4 l12 l94 lw4
                    go_wp2_with fail
                    refine FV.out.mono ?_; rintro e W5 ⟨v2, rfl, ob2, wk2, hg2⟩
                    rw [show (wri0 d).depth = d from rfl, FANH.out] at ob2
                    have OB2 : OwnB v2 out W5 := ⟨_, ob2⟩
                    obtain ⟨A2, c2, rfl⟩ := OB2.slice
                    have cv2 := OB2.conv
                    have KW2 : ∃ vs, Own1 W4 b2 vs 67 := by
                      obtain ⟨_, _, hw⟩ := HNF.out.wr
                      exact ⟨_, hw.own⟩
                    obtain ⟨vs2, hw2⟩ := KW2
                    have CS5 := ST4.out.1.other hw2 nn.1 nn.2.1 nn.2.2.2.2 HNF.out.nb hg2
                    have K12 := ST4.out.2.2.1.of_grown hg2 (fun e => nn.2.2.2.1 (Option.some.inj e))
                    have OV5 := ST4.out.2.2.2.other hw2 (by decide) hg2
                    have cv1 := OV5.conv
                    have NR := Lib.hid (show ClSt w1 b bs d x' sw sh W5 ∧ Own1 W5 g12 [.int .i64 t.s.w, .int .i64 t.s.h] 49 ∧ OwnB (.slice Av out.size cv) out W5 from ⟨CS5, K12, OV5⟩)
                    clear ob2 wk2 hg2 OB2 hw2 CS5 K12 OV5 FV a1 a2 a3 a4 a5 a6
                    go_wp2_with fail
                    go_meet
                    exact ⟨rfl, NR⟩
                case rest =>
                  obtain ⟨rfl, hst⟩ := hcut
                  obtain ⟨W6, hW6⟩ : ∃ W6, W6 = wc := ⟨_, rfl⟩
                  rw [← hW6] at hst ⊢
                  have ST6 := Lib.hid hst.out
                  clear hst hW6
                  obtain ⟨lo, hrow⟩ := ST6.out.2.2
                  have CL := law_clears (.slice Av out.size cv) out lo W6 hrow FSZ
                  rw [FCL.out] at CL
                  have CL := Lib.hid CL
                  have c0 := ST6.out.2.1.blk.c 0 _ rfl
                  have c1 := ST6.out.2.1.blk.c 1 _ rfl
                  have d0 := ST6.out.1.sz.blk.c 0 _ rfl
                  have d1 := ST6.out.1.sz.blk.c 1 _ rfl
                  have f0 := ST6.out.1.sz.blk.f 0 _ rfl
                  have f1 := ST6.out.1.sz.blk.f 1 _ rfl
                  have NR : Hid (∃ x sw sh, ClSt w1 b bs d x sw sh ((W6.setCell ⟨bs, 0, none⟩ (.int .i64 t.s.w)).setCell ⟨bs, 1, none⟩ (.int .i64 t.s.h)) ∧ false = !x.told ∧ (x.told = true → x.last.w = sw ∧ x.last.h = sh)) := Lib.hid ⟨x', t.s.w, t.s.h, ST6.out.1.setSize _ _, by rw [PW.out.1]; rfl, fun _ => PW.out.2⟩
                  have nbs := n12.2.1
                  have nbs2 : bs ≠ g12 := fun e => nbs e.symm
                  clear hrow
                  cases B with
                  | false =>
                    have CL : Hid (Calls Tryd.prog 17 #[.slice Av out.size cv] W6 fun e w' => e = .returned (.int .i64 0) ∧ W6 = w') := Lib.hid CL.out
                    go_wp2_with fail
                    refine CL.out.mono ?_; rintro e wq ⟨rfl, rfl⟩
                    go_wp2_with fail
                    go_roundw
                    case rel => exact ⟨k + 1, _, by omega, by go_num, rfl, NR⟩
                    case measure => simp [intOf]; omega
                  | true =>
                    have CL : Hid (Calls Tryd.prog 17 #[.slice Av out.size cv] W6 fun e w' => e = .returned (.int .i64 1) ∧ W6 = w') := Lib.hid CL.out
                    go_wp2_with fail
                    refine CL.out.mono ?_; rintro e wq ⟨rfl, rfl⟩
                    go_wp2_with fail
                    go_roundw
                    case rel => exact ⟨k + 1, _, by omega, by go_num, rfl, NR⟩
                    case measure => simp [intOf]; omega
      · have e : k = L.length := by omega
        subst e
        have BB := Lib.hid (BW.out.trans (hC.wk.bel.mono BW.out.size))
        have WK := Lib.hid (law_wakes wr hC.wk.env)
        clear hC hfs heq hr KS
        go_wp2_with fail
        refine WK.out.mono ?_; rintro e wz ⟨rfl, hbz⟩
        have BB := Lib.hid (BB.out.trans (hbz.mono BB.out.size))
        clear hbz
        go_wp2_with fail
        go_ret
        exact ⟨rfl, BB.out⟩
end Go.Proofs.YtohgodifnbpafaaDoor
