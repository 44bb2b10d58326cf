/- The law StyleOver: the walk. -/
import Derived.Test.YthcdcbibbfdjmaaDoorStyOw
import Derived.Test.YthcdcbibbfdjmaaDoorStyEo
import Derived.Test.YthcdcbibbfdjmaaDoorStyD
import Derived.Test.YthcdcbibbfdjmaaDoorStyEa
namespace Go.Proofs.YthcdcbibbfdjmaaDoor
open Go.RowKit Go.Sort
set_option linter.unusedVariables false

theorem cnt_col (c : Int) (h : col32 c) : col32 (cnt c) := by
  obtain ⟨a, b⟩ := h
  unfold cnt
  split <;> exact ⟨by omega, by omega⟩

set_option maxHeartbeats 16000000 in
set_option maxRecDepth 100000 in
theorem styleOver_walk (s : Sty) (A0 : Option Addr) (c0 : Nat) (ps : List Pat) (hn0 : A0 = none → c0 = 0) (hf : col32 s.fg) (hb : col32 s.bg) (hp : ∀ p ∈ ps, col32 p.fg ∧ col32 p.bg) (hx : ps.length * 12 ≤ 140737488351232) (hc0 : ps.length ≤ c0) (w : World) (h1 : SeesP w w.heap.size A0 ps)
    (A : ∀ W, Below w.heap.size w W → Calls Tryd.prog 21 #[] W fun e w' => e = .returned (.bool true) ∧ Below W.heap.size W w') :
    Calls Tryd.prog 7 #[styV s.fg s.bg s.at_, .slice A0 ps.length c0] w fun e w' => e = .returned (.bool true) ∧ Below w.heap.size w w' := by
  have A := Lib.hid A
  have H1 := Lib.hid h1
  have HP := Lib.hid hp
  have R1 := Lib.hid (fun w h => ref_Over s A0 c0 ps w hf hb hp h (by omega))
  have SO := Lib.hid (fun A c w h => st_Over s A c ps w h (by omega))
  obtain ⟨n, hn⟩ : ∃ n, n = ps.length := ⟨_, rfl⟩
  have HN := Lib.hid hn
  rw [← hn] at hx hc0 R1 SO ⊢
  clear h1 hn hf hb hp
  go_enter Tryd.func7, Tryd.ntmps7
  go_wp2_with fail
  refine (R1.out _ ((H1.out.below (by go_grown) (Nat.le_refl _)).more (by simp))).mono ?_; rintro e w1 ⟨rfl, hb1⟩
  generalize overL s ps = r at *
  have q0 : C3 w1 w.heap.size (.int .i32 s.fg) (.int .i32 s.bg) (.int .u8 (bI s.at_)) := C3.keep (by constructor <;> simp [go_sem]) hb1 (by simp)
  have hB1 : Below w.heap.size w w1 := below_call (by go_grown) (by simp) hb1
  have l0 := q0.lt
  have K0 := q0.alloc (.cells #[.int .i32 r.fg, .int .i32 r.bg, .int .u8 (bI r.at_)] 24)
  have K1 : C3 (w1.alloc (.cells #[.int .i32 r.fg, .int .i32 r.bg, .int .u8 (bI r.at_)] 24)) w1.heap.size (.int .i32 r.fg) (.int .i32 r.bg) (.int .u8 (bI r.at_)) := by constructor <;> simp [go_sem]
  have HB := hB1.alloc (by omega) (.cells #[.int .i32 r.fg, .int .i32 r.bg, .int .u8 (bI r.at_)] 24)
  go_upto_region 2 with fail
  obtain ⟨b1, hb1'⟩ : ∃ b1, b1 = w1.heap.size := ⟨_, rfl⟩
  obtain ⟨W, hW⟩ : ∃ W, W = w1.alloc (.cells #[.int .i32 r.fg, .int .i32 r.bg, .int .u8 (bI r.at_)] 24) := ⟨_, rfl⟩
  rw [← hb1'] at K1 ⊢
  rw [← hW] at K0 K1 HB ⊢
  clear hW q0 hB1 hb1 hb1'
  obtain ⟨i0, hi0, hz0, hz1, hz2⟩ := info_parts infoPt
  have LX : Hid ((patsV ps).length = n * 4) := Lib.hid (by rw [patsV_len, HN.out])
  obtain ⟨LO, hLO⟩ : ∃ LO, LO = W.heap.size := ⟨_, rfl⟩
  have OE : Hid ((W.alloc (.cells #[] 36)).ownsRow LO 36 4 (.slice (some ⟨W.heap.size, 0, none⟩) 0 0) 0 (patsV [])) := Lib.hid (by rw [hLO]; exact own4_new W)
  have BE : Hid (Below LO W (W.alloc (.cells #[] 36))) := Lib.hid (by rw [hLO]; exact (Below.refl _ _).alloc (Nat.le_refl _) _)
  have SW := Lib.hid ((H1.out.below HB (Nat.le_refl _)).more HB.size)
  have HLO := Lib.hid hLO
  have KB := Lib.hid (And.intro K0 K1)
  have lo0 : LO ≤ (W.alloc (.cells #[] 36)).heap.size := by rw [hLO]; simp
  clear hLO
  go_cut [6] (fun s6 wx => Hid (wx.ownsRow LO 36 4 s6 n (patsV ps) ∧ Below LO W wx))
  case first =>
    rcases A0 with _ | ad
    · have c00 := hn0 rfl
      subst c00
      have n0 : n = 0 := by omega
      subst n0
      have x0 : ps = [] := List.eq_nil_of_length_eq_zero HN.out.symm
      go_wp2_with (at_builtin; refine wpList_append_own_none rfl (.tmp 16) (.tmp 17) 43 rfl LO 36 i0 4 Tryd.underlying43 hi0 _ 0 _ rfl OE.out rfl ?_)
      go_meet
      rw [x0]
      exact Lib.hid ⟨OE.out, BE.out⟩
    · have NEWS : Hid (∀ (j : Nat) (u : Value), (patsV ps)[j]? = some u → (W.alloc (.cells #[] 36)).cell? (ad.add j) = some u) := Lib.hid (fun j u hu => by
        obtain ⟨ab, cc⟩ := SW.out.cells j u hu
        exact (BE.out.cell (by rw [add_blk, HLO.out]; exact ab)).trans cc)
      have M2 : Hid (0 + n ≤ maxLen ∧ (0 + n) * 12 ≤ 140737488355328) := Lib.hid (by unfold maxLen; omega)
      clear hn0
      go_wp2_with (at_builtin; refine wpList_append_own _ rfl (.tmp 16) (.tmp 17) 43 rfl LO 36 i0 (.agg #[.int .i32 0, .int .i32 0, .int .u8 0, .int .u8 0]) 4 12 Tryd.underlying43 hi0 hz0 hz1 hz2 rfl (by decide) _ 0 _ rfl OE.out ad n c0 (patsV ps) rfl LX.out NEWS.out (patsV_cell ps) M2.out.1 M2.out.2 lo0 ?_; intro v1 w3 hown3 hg3 _)
      go_meet
      have B3 : Below LO W w3 := BE.out.grown hg3 lo0 (fun g hg => (OE.out.lt g hg).1)
      rw [Nat.zero_add, show patsV [] ++ patsV ps = patsV ps from rfl] at hown3
      exact Lib.hid ⟨hown3, B3⟩
  case rest =>
    have OB := hcut
    clear OE BE lo0
    go_wp2_with fail
    go_loopw [6, 7] (fun s6 s7 wr => ∃ k : Nat, k ≤ 9 ∧ s7 = .int .i64 k ∧ Hid (wr.ownsRow LO 36 4 s6 (n + k) (patsV (ps ++ List.replicate k markP)) ∧ Below LO W wr)) (fun _ s7 _ => 9 - (intOf s7).toNat)
    case atStart => exact ⟨0, by omega, rfl, Lib.hid (by simpa using OB.out)⟩
    case round =>
      obtain ⟨k, k9, rfl, hk⟩ := hrel
      by_cases lt : k < 9
      · have HO := Lib.hid (hk.out.1.alloc (.cells #[.int .i32 77, .int .i32 0, .int .u8 7, .int .u8 0] 36))
        have B1 := Lib.hid hk.out.2
        have LT := Lib.hid hk.out.1.lt
        have H1' : ∀ u ∈ [Value.int .i32 77, .int .i32 0, .int .u8 7, .int .u8 0], u.oneCell' = true := by intro u hu; simp at hu; rcases hu with rfl | rfl | rfl | rfl <;> rfl
        have H2 : (n + k) + 1 ≤ maxLen := by unfold maxLen; omega
        have H3 : ((n + k) + 1) * 12 ≤ 140737488355328 := by omega
        have H4 : LO ≤ (wr.alloc (.cells #[.int .i32 77, .int .i32 0, .int .u8 7, .int .u8 0] 36)).heap.size := by have := hk.out.2.size; rw [HLO.out]; simp; omega
        clear hk
        go_wp2_with (at_builtin; refine wpList_append_own _ rfl (.tmp 23) (.tmp 25) 43 rfl LO 36 i0 (.agg #[.int .i32 0, .int .i32 0, .int .u8 0, .int .u8 0]) 4 12 Tryd.underlying43 hi0 hz0 hz1 hz2 rfl (by decide) _ _ _ rfl HO.out ⟨wr.heap.size, 0, none⟩ 1 1 [.int .i32 77, .int .i32 0, .int .u8 7, .int .u8 0] rfl rfl (newsL _ _ _) H1' H2 H3 H4 ?_; intro v' w3 hown3 hg3 _)
        have OW : Hid (w3.ownsRow LO 36 4 v' (n + (k + 1)) (patsV (ps ++ List.replicate (k + 1) markP))) := by
          rw [List.replicate_succ', ← List.append_assoc, patsV_app]
          exact Lib.hid hown3
        have BW : Hid (Below LO W w3) := Lib.hid ((B1.out.alloc (by rw [HLO.out]; exact B1.out.size) _).grown hg3 H4 (fun g hg => (LT.out g hg).1))
        clear hown3 hg3
        go_wp2_with fail
        go_roundw
        case rel => exact ⟨k + 1, by omega, by go_num, Lib.hid ⟨OW.out, BW.out⟩⟩
        case measure => simp [intOf]; omega
      · have ek : k = 9 := by omega
        subst ek
        obtain ⟨g, c', ev, gl, gs, gc, _⟩ : ∃ g c', _ = Value.slice (some ⟨g, 0, none⟩) (n + 9) c' ∧ LO ≤ g ∧ g < wr.heap.size ∧ n + 9 ≤ c' ∧ c' ≤ maxLen := by
          rcases (own4_form hk.out.1).2 with ⟨_, z⟩ | h
          · omega
          · exact h
        subst ev
        have HR := hk
        clear hk OB
        have BR := Lib.hid (HB.trans (HR.out.2.mono (by rw [HLO.out]; exact HB.size)))
        have k0 := KB.out.1.keep HR.out.2 (by rw [HLO.out]; exact KB.out.1.lt)
        have k1 := KB.out.2.keep HR.out.2 (by rw [HLO.out]; exact KB.out.2.lt)
        have lk0 : w.heap.size < LO := by rw [HLO.out]; exact KB.out.1.lt
        have lk1 : b1 < LO := by rw [HLO.out]; exact KB.out.2.lt
        have MX : Hid (∀ W', Below wr.heap.size wr W' → Calls Tryd.prog 28 #[styV s.fg s.bg s.at_, .slice (some ⟨g, 0, none⟩) n c'] W' fun e w' => e = .returned (styV r.fg r.bg r.at_) ∧ Below W'.heap.size W' w') := Lib.hid (fun W' hb' => SO.out (some ⟨g, 0, none⟩) c' W' (SeesP.of_own (own4_call (own4_mine HN.out HR.out.1) hb')))
        have KF : Hid (∀ X, Below wr.heap.size wr X → C3 X w.heap.size (.int .i32 s.fg) (.int .i32 s.bg) (.int .u8 (bI s.at_)) ∧ C3 X b1 (.int .i32 r.fg) (.int .i32 r.bg) (.int .u8 (bI r.at_)) ∧ X.ownsRow LO 36 4 (.slice (some ⟨g, 0, none⟩) (n + 9) c') (n + 9) (patsV (ps ++ List.replicate 9 markP))) := Lib.hid (fun X hb => ⟨k0.keep hb k0.lt, k1.keep hb k1.lt, own4_call HR.out.1 hb⟩)
        clear KB
        have ML := Lib.hid (fun d os => calls_later (MX.out (grow (redrawn wr d) os) (below_regrown wr d os)))
        have g00 := fun d os => ((k0).regrown d os).c0
        have g01 := fun d os => ((k0).regrown d os).c1
        have g02 := fun d os => ((k0).regrown d os).c2
        clear k0 k1
        have sl1 : (n : Int) ≤ (c' : Int) := by omega
        go_upto_region 7 with fail
        refine wp_region_spec 7 [(8, newS wr.heap.size [.int .i32 0, .int .i32 0, .int .u8 0])] [8] (by kernel_rfl) (by kernel_rfl) (by kernel_rfl) (by intro t ht; simp at ht; subst ht; intro h; cases h) ?_
        simp only [List.take_succ_cons, List.take_zero, List.drop_succ_cons, List.drop_zero]
        repeat (refine wpS_step (by rfl) (fun K hK => ?_); go_simp; first | (refine hK _ ?_; clear hK K) | (apply Exists.intro; refine ⟨fun _ => ?_, hK _ ?_⟩; (with_reducible exact ML.out _ _); clear hK K))
        refine wpS_born 8 rfl (by simp) (by first | (simp; done) | simp [put_size]) (by rfl) (by rfl) (by intro _ _ h; cases h) (fun x => ?_) ?_
        · go_simp
          exact born_new (by simp [grow, redrawn]) (by simp [grow, redrawn])
        refine wpS_nil ?_
        intro W1 vs1 hl hv
        obtain ⟨b8, e8, lb8, lt8, c8⟩ := hv 8 (by simp) rfl
        have hb8 := later_below.1 hl
        simp only [fillA, e8]
        have z0 := (c8 0 _ rfl).1
        have z1 := (c8 1 _ rfl).1
        have z2 := (c8 2 _ rfl).1
        have y0 := (c8 0 _ rfl).2
        have y1 := (c8 1 _ rfl).2
        have y2 := (c8 2 _ rfl).2
        have K8 := (C3.mk z0 z1 z2 y0 y1 y2).put (.int .i32 r.fg) (.int .i32 r.bg) (.int .u8 (bI r.at_))
        have HX := below_put3' hb8 lb8 (.int .i32 r.fg) (.int .i32 r.bg) (.int .u8 (bI r.at_))
        clear hl hv c8 g00 g01 g02
        go_upto_region 8 with fail
        obtain ⟨X, hX⟩ : ∃ X, X = ((W1.setCell ⟨b8, 0, none⟩ (.int .i32 r.fg)).setCell ⟨b8, 1, none⟩ (.int .i32 r.bg)).setCell ⟨b8, 2, none⟩ (.int .u8 (bI r.at_)) := ⟨_, rfl⟩
        rw [← hX] at K8 HX ⊢
        clear hX z0 z1 z2 y0 y1 y2 lt8 hb8
        have Q8 := Lib.hid K8
        have HXX := Lib.hid HX
        have l8 := K8.lt
        have xs := HX.size
        obtain ⟨x0, hx0⟩ : ∃ x, x = X.heap.size := ⟨_, rfl⟩
        rw [← hx0] at l8 xs
        have HX0 := Lib.hid hx0
        go_upto_region 10 with fail
        have Bq : Hid (Below x0 X ((X.alloc (.cells #[.int .i32 0, .int .i32 0, .int .u8 0, .int .u8 0] 36)).alloc (.cells #[.int .i32 0, .int .i32 0, .int .u8 0, .int .u8 0] 36))) := Lib.hid (by
          rw [hx0]
          exact ((Below.refl _ _).alloc (Nat.le_refl _) _).alloc (by simp) _)
        have Kp : Hid (C4 ((X.alloc (.cells #[.int .i32 0, .int .i32 0, .int .u8 0, .int .u8 0] 36)).alloc (.cells #[.int .i32 0, .int .i32 0, .int .u8 0, .int .u8 0] 36)) x0 (.int .i32 0) (.int .i32 0) (.int .u8 0) (.int .u8 0)) := Lib.hid (by rw [hx0]; constructor <;> simp [go_sem])
        have Kq : Hid (C4 ((X.alloc (.cells #[.int .i32 0, .int .i32 0, .int .u8 0, .int .u8 0] 36)).alloc (.cells #[.int .i32 0, .int .i32 0, .int .u8 0, .int .u8 0] 36)) (x0 + 1) (.int .i32 0) (.int .i32 0) (.int .u8 0) (.int .u8 0)) := Lib.hid (by rw [hx0]; constructor <;> simp [go_sem])
        obtain ⟨V, hV⟩ : ∃ V, V = (X.alloc (.cells #[.int .i32 0, .int .i32 0, .int .u8 0, .int .u8 0] 36)).alloc (.cells #[.int .i32 0, .int .i32 0, .int .u8 0, .int .u8 0] 36) := ⟨_, rfl⟩
        rw [← hV] at Bq Kp Kq ⊢
        rw [← hx0]
        clear hV
        have BX := Lib.hid (BR.out.trans (HX.mono BR.out.size))
        have XL : Hid (∀ Y, Below x0 X Y → x0 ≤ Y.heap.size ∧ w.heap.size ≤ x0) := Lib.hid (fun Y h => by rw [hx0]; exact ⟨h.size, BX.out.size⟩)
        have HPS : Hid (∀ Y, Below x0 X Y → ∀ ad, A0 = some ad → ∀ k p, ps[k]? = some p → Y.cell? (ad.add (k * 4)) = some (.int .i32 p.fg) ∧ Y.cell? ⟨(ad.add (k * 4)).block, (ad.add (k * 4)).off + 1, none⟩ = some (.int .i32 p.bg) ∧ Y.cell? ⟨(ad.add (k * 4)).block, (ad.add (k * 4)).off + 2, none⟩ = some (.int .u8 (bI p.add)) ∧ Y.cell? ⟨(ad.add (k * 4)).block, (ad.add (k * 4)).off + 3, none⟩ = some (.int .u8 (bI p.drop))) := Lib.hid (fun Y hY ad ea k p hk => by
          have BY : Below w.heap.size w Y := BX.out.trans (hY.mono (XL.out Y hY).2)
          obtain ⟨ad', e, hab, hcell⟩ := H1.out (fun e => by rw [e] at hk; simp at hk)
          rw [ea] at e
          cases e
          have cell : ∀ i u, (patL p)[i]? = some u → Y.cell? (ad.add (k * 4 + i)) = some u := fun i u hu => (BY.cell (p := ad.add (k * 4 + i)) (by rw [add_blk]; exact hab)).trans (hcell k p hk i u hu)
          refine ⟨cell 0 _ rfl, ?_, ?_, ?_⟩
          · rw [add_lit _ 1 (by decide), add_plus]; exact cell 1 _ rfl
          · rw [add_lit _ 2 (by decide), add_plus]; exact cell 2 _ rfl
          · rw [add_lit _ 3 (by decide), add_plus]; exact cell 3 _ rfl)
        obtain ⟨gd, hgd⟩ : ∃ a : Addr, a = ⟨g, 0, none⟩ := ⟨_, rfl⟩
        have HGD := Lib.hid hgd
        have KX : Hid (∀ Y, Below x0 X Y → C3 Y b1 (.int .i32 r.fg) (.int .i32 r.bg) (.int .u8 (bI r.at_)) ∧ C3 Y b8 (.int .i32 r.fg) (.int .i32 r.bg) (.int .u8 (bI r.at_)) ∧ ∀ (k : Nat) p, (ps ++ List.replicate 9 markP)[k]? = some p → Y.cell? (gd.add (k * 4)) = some (.int .i32 p.fg) ∧ Y.cell? ⟨(gd.add (k * 4)).block, (gd.add (k * 4)).off + 1, none⟩ = some (.int .i32 p.bg) ∧ Y.cell? ⟨(gd.add (k * 4)).block, (gd.add (k * 4)).off + 2, none⟩ = some (.int .u8 (bI p.add)) ∧ Y.cell? ⟨(gd.add (k * 4)).block, (gd.add (k * 4)).off + 3, none⟩ = some (.int .u8 (bI p.drop))) := Lib.hid (fun Y hY => by
          obtain ⟨_, q1, ow⟩ := KF.out Y (HXX.out.trans (hY.mono (by rw [hx0]; exact HXX.out.size)))
          refine ⟨q1, Q8.out.keep hY l8, fun k p hk => ?_⟩
          have cell : ∀ i u, (patL p)[i]? = some u → Y.cell? (gd.add (k * 4 + i)) = some u := fun i u hu => by
            rw [hgd]
            exact ow.cells (g := g) rfl _ _ (patsV_at _ k p hk i u hu)
          refine ⟨cell 0 _ rfl, ?_, ?_, ?_⟩
          · rw [add_lit _ 1 (by decide), add_plus]; exact cell 1 _ rfl
          · rw [add_lit _ 2 (by decide), add_plus]; exact cell 2 _ rfl
          · rw [add_lit _ 3 (by decide), add_plus]; exact cell 3 _ rfl)
        clear HX hx0 l8 xs K8 hgd
        go_wp2_with fail
        go_loopw [11] (fun i wl => ∃ (k : Nat) (t : Pat), k ≤ n ∧ i = .int .i64 k ∧ Hid (col32 t.fg ∧ col32 t.bg) ∧ Hid (C4 wl x0 (.int .i32 t.fg) (.int .i32 t.bg) (.int .u8 (bI t.add)) (.int .u8 (bI t.drop)) ∧ C4 wl (x0 + 1) (.int .i32 t.fg) (.int .i32 t.bg) (.int .u8 (bI t.add)) (.int .u8 (bI t.drop)) ∧ Below x0 X wl)) (fun i _ => n - (intOf i).toNat)
        case atStart => exact ⟨0, emptyP, by omega, rfl, Lib.hid (by constructor <;> exact ⟨by decide, by decide⟩), Lib.hid ⟨Kp.out, Kq.out, Bq.out⟩⟩
        case round =>
          obtain ⟨k, t, hk, rfl, hc, hh⟩ := hrel
          by_cases lt : k < n
          · have kl : k < ps.length := by have := HN.out; omega
            obtain ⟨ad, ea, _⟩ := H1.out (fun e => by rw [e] at kl; cases kl)
            subst ea
            obtain ⟨p, hp0⟩ : ∃ p, p = ps[k] := ⟨_, rfl⟩
            have pk : ps[k]? = some p := by rw [hp0]; exact List.getElem?_eq_getElem kl
            have PC := HP.out p (by rw [hp0]; exact List.getElem_mem _)
            have CP := Lib.hid (fun Y hY => HPS.out Y hY ad rfl k p pk)
            have T1 : Gives 29 #[patV t.fg t.bg t.add t.drop, patV p.fg p.bg p.add p.drop] (patV (thenP t p).fg (thenP t p).bg (thenP t p).add (thenP t p).drop) := st_Then t.fg t.bg t.add t.drop p.fg p.bg p.add p.drop
            have T2 : Gives 30 #[patV t.fg t.bg t.add t.drop, patV p.fg p.bg p.add p.drop] (patV (thenP t p).fg (thenP t p).bg (thenP t p).add (thenP t p).drop) := ref_Then t.fg t.bg t.add t.drop p.fg p.bg p.add p.drop hc.out.1 hc.out.2 PC.1 PC.2
            have TC : Hid (col32 (thenP t p).fg ∧ col32 (thenP t p).bg) := Lib.hid (by
              have a := cnt_col _ hc.out.1
              have b := cnt_col _ hc.out.2
              have c := cnt_col _ PC.1
              have d := cnt_col _ PC.2
              unfold thenP
              constructor <;> (dsimp only; split <;> assumption))
            have T1 := Lib.hid (fun w => T1.later (w := w))
            have T2 := Lib.hid (fun w => T2.later (w := w))
            generalize thenP t p = t' at *
            clear pk hp0 kl PC
            obtain ⟨h1, h2, h3⟩ := hh.out
            have hx := (XL.out _ h3).1
            have D := fun d os => CP.out (grow (redrawn wr d) os) (h3.trans ((below_regrown wr d os).mono hx))
            have z0 := fun d os => (D d os).1
            have z1 := fun d os => (D d os).2.1
            have z2 := fun d os => (D d os).2.2.1
            have z3 := fun d os => (D d os).2.2.2
            clear D
            go_upto_region 13 with fail
            have g10 := fun d os => ((h1).regrown d os).c0
            have g11 := fun d os => ((h1).regrown d os).c1
            have g12 := fun d os => ((h1).regrown d os).c2
            have g13 := fun d os => ((h1).regrown d os).c3
            refine wp_region_spec 6 [] [] (by kernel_rfl) (by kernel_rfl) (by kernel_rfl) (by intro t ht; cases ht) ?_
            simp only [List.take_succ_cons, List.take_zero, List.drop_succ_cons, List.drop_zero]
            repeat (refine wpS_step (by rfl) (fun K hK => ?_); go_simp; first | (refine hK _ ?_; clear hK K) | (apply Exists.intro; refine ⟨fun _ => ?_, hK _ ?_⟩; (with_reducible exact T1.out _); clear hK K))
            refine wpS_nil ?_
            intro W5 vs5 hl hv
            have hb5 := later_below.1 hl
            simp only [fillA]
            clear hl hv g10 g11 g12 g13 z0 z1 z2 z3
            have N1 := h1.keep hb5 h1.lt
            have N2 := h2.keep hb5 h2.lt
            have B5 := h3.trans (hb5.mono hx)
            clear h1 h2 h3 hb5 hx hh
            have M1 := N1.put (.int .i32 t'.fg) (.int .i32 t'.bg) (.int .u8 (bI t'.add)) (.int .u8 (bI t'.drop))
            have ne : x0 + 1 ≠ x0 := by omega
            have M2 := (((N2.far (b' := x0) (o := 0) (y := .int .i32 t'.fg) ne).far (b' := x0) (o := 1) (y := .int .i32 t'.bg) ne).far (b' := x0) (o := 2) (y := .int .u8 (bI t'.add)) ne).far (b' := x0) (o := 3) (y := .int .u8 (bI t'.drop)) ne
            have MB := below_put4 B5 (Nat.le_refl x0) (.int .i32 t'.fg) (.int .i32 t'.bg) (.int .u8 (bI t'.add)) (.int .u8 (bI t'.drop))
            obtain ⟨a0, a1, a2, a3, f0, f1, f2, f3⟩ := N1
            clear N2 B5
            go_upto_region 14 with fail
            obtain ⟨Y, hY⟩ : ∃ Y, Y = (((W5.setCell ⟨x0, 0, none⟩ (.int .i32 t'.fg)).setCell ⟨x0, 1, none⟩ (.int .i32 t'.bg)).setCell ⟨x0, 2, none⟩ (.int .u8 (bI t'.add))).setCell ⟨x0, 3, none⟩ (.int .u8 (bI t'.drop)) := ⟨_, rfl⟩
            rw [← hY] at M1 M2 MB ⊢
            clear hY a0 a1 a2 a3 f0 f1 f2 f3
            have hx := (XL.out _ MB).1
            have D := fun d os => CP.out (grow (redrawn Y d) os) (MB.trans ((below_regrown Y d os).mono hx))
            have z0 := fun d os => (D d os).1
            have z1 := fun d os => (D d os).2.1
            have z2 := fun d os => (D d os).2.2.1
            have z3 := fun d os => (D d os).2.2.2
            clear D
            have g20 := fun d os => ((M2).regrown d os).c0
            have g21 := fun d os => ((M2).regrown d os).c1
            have g22 := fun d os => ((M2).regrown d os).c2
            have g23 := fun d os => ((M2).regrown d os).c3
            refine wp_region_spec 6 [] [] (by kernel_rfl) (by kernel_rfl) (by kernel_rfl) (by intro t ht; cases ht) ?_
            simp only [List.take_succ_cons, List.take_zero, List.drop_succ_cons, List.drop_zero]
            repeat (refine wpS_step (by rfl) (fun K hK => ?_); go_simp; first | (refine hK _ ?_; clear hK K) | (apply Exists.intro; refine ⟨fun _ => ?_, hK _ ?_⟩; (with_reducible exact T2.out _); clear hK K))
            refine wpS_nil ?_
            intro W6 vs6 hl hv
            have hb6 := later_below.1 hl
            simp only [fillA]
            clear hl hv g20 g21 g22 g23 z0 z1 z2 z3
            have N1 := M1.keep hb6 M1.lt
            have N2 := M2.keep hb6 M2.lt
            have B6 := MB.trans (hb6.mono hx)
            clear M1 M2 MB hb6 hx
            have M2 := N2.put (.int .i32 t'.fg) (.int .i32 t'.bg) (.int .u8 (bI t'.add)) (.int .u8 (bI t'.drop))
            have ne' : x0 ≠ x0 + 1 := by omega
            have M1 := (((N1.far (b' := x0 + 1) (o := 0) (y := .int .i32 t'.fg) ne').far (b' := x0 + 1) (o := 1) (y := .int .i32 t'.bg) ne').far (b' := x0 + 1) (o := 2) (y := .int .u8 (bI t'.add)) ne').far (b' := x0 + 1) (o := 3) (y := .int .u8 (bI t'.drop)) ne'
            have MB := below_put4 B6 (Nat.le_succ x0) (.int .i32 t'.fg) (.int .i32 t'.bg) (.int .u8 (bI t'.add)) (.int .u8 (bI t'.drop))
            obtain ⟨a0, a1, a2, a3, f0, f1, f2, f3⟩ := N2
            clear N1 B6
            go_upto_region 15 with fail
            obtain ⟨Z, hZ⟩ : ∃ Z, Z = (((W6.setCell ⟨x0 + 1, 0, none⟩ (.int .i32 t'.fg)).setCell ⟨x0 + 1, 1, none⟩ (.int .i32 t'.bg)).setCell ⟨x0 + 1, 2, none⟩ (.int .u8 (bI t'.add))).setCell ⟨x0 + 1, 3, none⟩ (.int .u8 (bI t'.drop)) := ⟨_, rfl⟩
            rw [← hZ] at M1 M2 MB ⊢
            clear hZ a0 a1 a2 a3 f0 f1 f2 f3
            have M1' := Lib.hid M1
            have M2' := Lib.hid M2
            have MB' := Lib.hid MB
            obtain ⟨a0, a1, a2, a3, f0, f1, f2, f3⟩ := M1
            obtain ⟨b0, b1', b2, b3, e0, e1, e2, e3⟩ := M2
            clear MB
            go_wp2_with fail
            go_roundw
            case rel => exact ⟨k + 1, t', by omega, by go_num, TC, Lib.hid ⟨M1'.out, M2'.out, MB'.out⟩⟩
            case measure => simp [intOf]; omega
          · have ek : k = n := by omega
            subst ek
            obtain ⟨_, _, h3⟩ := hh.out
            have H3 := Lib.hid h3
            clear h3 hh
            go_upto_region 17 with fail
            rw [← HGD.out]
            go_wp2_with fail
            go_loopw [12] (fun i wl => ∃ (j : Nat), j ≤ k + 9 ∧ i = .int .i64 j ∧ Hid (Below x0 X wl)) (fun i _ => k + 9 - (intOf i).toNat)
            case atStart => exact ⟨0, by omega, rfl, H3⟩
            case round =>
              obtain ⟨j, hj, rfl, hh⟩ := hrel
              by_cases lt9 : j < k + 9
              · have bw := (below_regrown wr)
                have hx := (XL.out _ hh.out).1
                by_cases ltk : j < k
                · have kl : j < ps.length := by have := HN.out; omega
                  obtain ⟨ad, ea, _⟩ := H1.out (fun e => by rw [e] at kl; cases kl)
                  subst ea
                  obtain ⟨p, hp0⟩ : ∃ p, p = ps[j] := ⟨_, rfl⟩
                  have pk : ps[j]? = some p := by rw [hp0]; exact List.getElem?_eq_getElem kl
                  have D := fun d os => HPS.out (grow (redrawn wr d) os) (hh.out.trans ((below_regrown wr d os).mono hx)) ad rfl j p pk
                  have DD := fun d os => (KX.out (grow (redrawn wr d) os) (hh.out.trans ((below_regrown wr d os).mono hx))).2.2 j p (by rw [List.getElem?_append_left kl]; exact pk)
                  have z0 := fun d os => (D d os).1
                  have z1 := fun d os => (D d os).2.1
                  have z2 := fun d os => (D d os).2.2.1
                  have z3 := fun d os => (D d os).2.2.2
                  have y0 := fun d os => (DD d os).1
                  have y1 := fun d os => (DD d os).2.1
                  have y2 := fun d os => (DD d os).2.2.1
                  have y3 := fun d os => (DD d os).2.2.2
                  clear D DD pk hp0 kl bw
                  have nk : ¬ (k ≤ j) := by omega
                  have nk1 : decide ((k : Int) ≤ (j : Int)) = false := by simp; omega
                  have nk2 : decide (k ≤ j) = false := by simp; omega
                  go_upto_region 20 with fail
                  refine wp_region_spec 28 [] [] (by kernel_rfl) (by kernel_rfl) (by kernel_rfl) (by intro t ht; cases ht) ?_
                  simp only [List.take_succ_cons, List.take_zero, List.drop_succ_cons, List.drop_zero]
                  repeat (refine wpS_step (by rfl) (fun K hK => ?_); go_simp; first | (refine hK _ ?_; clear hK K) | (apply Exists.intro; refine ⟨fun _ => ?_, hK _ ?_⟩; (fail); clear hK K))
                  refine wpS_nil ?_
                  intro W7 vs7 hl hv
                  have B7 : Hid (Below x0 X W7) := Lib.hid (hh.out.trans ((later_below.1 hl).mono hx))
                  simp only [fillA]
                  clear hl hv z0 z1 z2 z3 y0 y1 y2 y3 hh hx
                  go_wp2_with fail
                  go_roundw
                  case rel => exact ⟨j + 1, by omega, by go_num, B7⟩
                  case measure => simp [intOf]; omega
                · have DD := fun d os => (KX.out (grow (redrawn wr d) os) (hh.out.trans ((below_regrown wr d os).mono hx))).2.2 j markP (by
                    rw [List.getElem?_append_right (by have := HN.out; omega), List.getElem?_replicate, if_pos (by have := HN.out; omega)])
                  have y0 : ∀ d os, (grow (redrawn wr d) os).cell? (gd.add (j * 4)) = some (.int .i32 77) := fun d os => (DD d os).1
                  have y1 : ∀ d os, (grow (redrawn wr d) os).cell? ⟨(gd.add (j * 4)).block, (gd.add (j * 4)).off + 1, none⟩ = some (.int .i32 0) := fun d os => (DD d os).2.1
                  have y2 : ∀ d os, (grow (redrawn wr d) os).cell? ⟨(gd.add (j * 4)).block, (gd.add (j * 4)).off + 2, none⟩ = some (.int .u8 7) := fun d os => (DD d os).2.2.1
                  have y3 : ∀ d os, (grow (redrawn wr d) os).cell? ⟨(gd.add (j * 4)).block, (gd.add (j * 4)).off + 3, none⟩ = some (.int .u8 0) := fun d os => (DD d os).2.2.2
                  clear DD bw
                  have nk : k ≤ j := by omega
                  have nk1 : decide ((k : Int) ≤ (j : Int)) = true := by simp; omega
                  have nk2 : decide (k ≤ j) = true := by simp; omega
                  go_upto_region 20 with fail
                  refine wp_region_spec 28 [] [] (by kernel_rfl) (by kernel_rfl) (by kernel_rfl) (by intro t ht; cases ht) ?_
                  simp only [List.take_succ_cons, List.take_zero, List.drop_succ_cons, List.drop_zero]
                  repeat (refine wpS_step (by rfl) (fun K hK => ?_); go_simp; first | (refine hK _ ?_; clear hK K) | (apply Exists.intro; refine ⟨fun _ => ?_, hK _ ?_⟩; (fail); clear hK K))
                  refine wpS_nil ?_
                  intro W7 vs7 hl hv
                  have B7 : Hid (Below x0 X W7) := Lib.hid (hh.out.trans ((later_below.1 hl).mono hx))
                  simp only [fillA]
                  clear hl hv y0 y1 y2 y3 hh hx
                  go_wp2_with fail
                  go_roundw
                  case rel => exact ⟨j + 1, by omega, by go_num, B7⟩
                  case measure => simp [intOf]; omega
              · have ej : j = k + 9 := by omega
                subst ej
                obtain ⟨q1, q8, _⟩ := KX.out _ hh.out
                have BF := Lib.hid (BX.out.trans (hh.out.mono (XL.out _ hh.out).2))
                obtain ⟨a0, a1, a2, _, _, _⟩ := q1
                obtain ⟨e0, e1, e2, _, _, _⟩ := q8
                go_wp2_with fail
                refine (A.out _ BF.out).mono ?_; rintro e w8 ⟨rfl, hb⟩
                have BZ := Lib.hid (BF.out.trans (hb.mono BF.out.size))
                go_wp2_with fail
                go_ret
                exact ⟨rfl, BZ.out⟩
end Go.Proofs.YthcdcbibbfdjmaaDoor
