/- A frame's bytes, the program's side: one unit (the visitor that Frame hands to units). -/
import Derived.Test.YtkllilehdpdbdaaDoorDgJf
import Derived.Deep.DeepCutAuto
namespace Go.Proofs.YtkllilehdpdbdaaDoor
open Go Go.RowKit Go.Sort
set_option linter.unusedVariables false
set_option linter.unusedSimpArgs false

/-- a new block known whole -/
def ownS (B : Nat) (vs : List Value) (T : TypeId) : Spec := ⟨fun v w => ∃ g, v = .pointer (some ⟨g, 0, none⟩) ∧ B ≤ g ∧ Own1 w g vs T, fun v w w' hb ⟨g, e, h1, h2⟩ => ⟨g, e, h1, h2.below hb⟩⟩
theorem born_own {P : Program} {w : World} {B g : Nat} {vs : List Value} {T : TypeId} (e : g = w.heap.size) (hB : B ≤ w.heap.size) : bornUpon P w (fun v w => ∃ g, v = .pointer (some ⟨g, 0, none⟩) ∧ B ≤ g ∧ Own1 w g vs T) (.ok (.value (.pointer (some ⟨g, 0, none⟩))) (w.alloc (.cells vs.toArray T))) := by
  subst e
  exact ⟨(Below.refl _ _).alloc (Nat.le_refl _) _, _, rfl, hB, World.alloc_heap_new w _⟩
theorem KeepT.own {W W' : World} (h : KeepT W W') {g : Nat} {vs : List Value} (k : Own1 W g vs 51) : Own1 W' g vs 51 := (h g _ _ k).trans k

theorem sz2 : (⟨#[27, 91]⟩ : ByteArray).size = 2 := rfl
theorem sz1 (b : UInt8) : (⟨#[b]⟩ : ByteArray).size = 1 := rfl
theorem moveB_size (x y : Int) (x0 : -10000000 ≤ x) (x1 : x ≤ 10000000) (y0 : -10000000 ≤ y) (y1 : y ≤ 10000000) : (moveB x y).size ≤ 100 := by
  have a := itB_size (y + 1) (by omega) (by omega)
  have b := itB_size (x + 1) (by omega) (by omega)
  unfold moveB
  rw [ByteArray.size_append, ByteArray.size_append, ByteArray.size_append, ByteArray.size_append, sz2, sz1, sz1]
  omega
theorem turnB_size (f t : Sty) : (turnB f t).size ≤ 500 := by
  have a := semi_len (paramsL f t) (params_rng f t) (paramsL f t).length (Nat.le_refl _)
  rw [List.take_length] at a
  have b := params_len f t
  unfold turnB
  split
  · exact Nat.zero_le _
  · rw [ByteArray.size_append, ByteArray.size_append, sz2, sz1]
    omega

set_option maxHeartbeats 16000000 in
set_option maxRecDepth 100000 in
theorem f_unit (F : Fix) (told : Bool) (t : Tel) (shn : Bool) (W : World) (h : FrSt F told t shn W) (i n : Nat) (c : Cel) (hn : n = 1 ∨ n = 2) (hi : i < F.R.cells.length) (hc : F.R.cells[i] = c) (hN : F.R.cells.length ≤ 1048576) (w0 : 1 ≤ F.R.w) (w1 : F.R.w ≤ 4096)
    (S : Sees W W.heap.size F.RA (celsV F.R.cells)) (htx : t.text.size + c.text.size ≤ 1000000000000) (ho : t.out.size ≤ 70000000000000) (x0 : -10000000 ≤ t.x) (x1 : t.x ≤ 10000000) :
    Calls Tryd.prog 30 #[.int .i64 i, .int .i64 n, .pointer (some ⟨F.r, 0, none⟩), .pointer (some ⟨F.p, 0, none⟩), .pointer (some ⟨F.o + 2, 0, none⟩), .pointer (some ⟨F.o + 1, 0, none⟩), .pointer (some ⟨F.o, 0, none⟩)] W fun e W' => (∃ v, e = .returned v) ∧ FrSt F told (unitT F.R.w t i n c) shn W' ∧ KeepT W W' := by
  obtain ⟨i0, hi0, hz0, hz1, hz2⟩ := info_parts infoB
  obtain ⟨ad, hRA, ab, z0, z1, z2, z3, z4⟩ := cel_nth S i hi
  rw [hc] at z0 z1 z2 z3 z4
  have UT : Hid (unitT F.R.w t i n c = put1 (turn1 (move1 t ((i : Int) % F.R.w) ((i : Int) / F.R.w) c.st c.text) (turnB t.st c.st)) F.R.w n c) := Lib.hid rfl
  have GO : Hid (goB t ((i : Int) % F.R.w) ((i : Int) / F.R.w) c.st c.text = (!t.place || decide (t.x ≠ (i : Int) % F.R.w) || decide (t.y ≠ (i : Int) / F.R.w) || (decide (turnB t.st c.st = zB) && decide (t.text ≠ zB) && joinsB t.text c.text))) := Lib.hid rfl
  have M1 : Hid (move1 t ((i : Int) % F.R.w) ((i : Int) / F.R.w) c.st c.text = if goB t ((i : Int) % F.R.w) ((i : Int) / F.R.w) c.st c.text = true then moveT t ((i : Int) % F.R.w) ((i : Int) / F.R.w) else t) := Lib.hid rfl
  have US := Lib.hid (turnB_size t.st c.st)
  have JO := Lib.hid (fun W' => d_Joins t.text c.text htx W')
  have TU := Lib.hid (fun W' (hE : EnvD W') => d_turned t.st c.st W' hE)
  have X0 : 0 ≤ (i : Int) % F.R.w := Int.emod_nonneg _ (by omega)
  have X1 : (i : Int) % F.R.w < F.R.w := Int.emod_lt_of_pos _ (by omega)
  have Y0 : 0 ≤ (i : Int) / F.R.w := Int.ediv_nonneg (by omega) (by omega)
  have Y1 : (i : Int) / F.R.w ≤ (i : Int) := Int.ediv_le_self _ (by omega)
  have wnz : ¬ F.R.w = 0 := by omega
  have tm : Int.tmod (i : Int) F.R.w = (i : Int) % F.R.w := Int.tmod_eq_emod_of_nonneg (by omega)
  have wd : IntKind.i64.wrap ((i : Int) / F.R.w) = (i : Int) / F.R.w := IntWalk.i64_in _ (by omega)
  have H := Lib.hid h
  have g0 := fun d os => (h.br.blk.regrown d os).c 0 _ rfl
  have g2 := fun d os => (h.br.blk.regrown d os).c 2 _ rfl
  rw [hRA] at g2
  have z0 := fun d os => ((below_regrown W d os).cell (p := ad.add (i * 5)) (by simp only [add_blk]; exact ab)).trans z0
  have z1 := fun d os => ((below_regrown W d os).cell (p := ⟨(ad.add (i * 5)).block, (ad.add (i * 5)).off + 1, none⟩) (by simp only [add_blk]; exact ab)).trans z1
  have z2 := fun d os => ((below_regrown W d os).cell (p := ⟨(ad.add (i * 5)).block, (ad.add (i * 5)).off + 2, none⟩) (by simp only [add_blk]; exact ab)).trans z2
  have z3 := fun d os => ((below_regrown W d os).cell (p := ⟨(ad.add (i * 5)).block, (ad.add (i * 5)).off + 3, none⟩) (by simp only [add_blk]; exact ab)).trans z3
  have z4 := fun d os => ((below_regrown W d os).cell (p := ⟨(ad.add (i * 5)).block, (ad.add (i * 5)).off + 4, none⟩) (by simp only [add_blk]; exact ab)).trans z4
  have ii : (i : Int) < (F.R.cells.length : Int) := by omega
  clear h S hc
  go_enter Tryd.func30, Tryd.ntmps30
  go_wp2_with fail
  refine wp_region_spec 16 [(11, ownS W.heap.size [.string ⟨#[]⟩, .int .i8 0, .int .i32 0, .int .i32 0, .int .u8 0] 51)] [11] (by kernel_rfl) (by kernel_rfl) (by kernel_rfl) (by intro t ht; simp at ht; subst ht; intro h; cases h) ?_
  simp only [List.take_succ_cons, List.take_zero, List.drop_succ_cons, List.drop_zero]
  repeat (refine wpS_step (by rfl) (fun K hK => ?_); go_simp; first | (refine hK _ ?_; clear hK K) | (apply Exists.intro; refine ⟨fun _ => ?_, hK _ ?_⟩; (fail); clear hK K))
  refine wpS_born 11 rfl (by simp) (by first | (simp; done) | simp [put_size]) (by rfl) (by rfl) (by intro _ _ h; cases h) (fun x => ?_) ?_
  · go_simp
    exact born_own (by simp [grow, redrawn]) (by simp [grow, redrawn])
  repeat (refine wpS_step (by rfl) (fun K hK => ?_); go_simp; first | (refine hK _ ?_; clear hK K) | (apply Exists.intro; refine ⟨fun _ => ?_, hK _ ?_⟩; (fail); clear hK K))
  refine wpS_nil ?_
  intro W1 vs1 hl hv
  obtain ⟨g, e11, lg, og⟩ := hv 11 (by simp) rfl
  have hb1 := later_below.1 hl
  have H1 := Lib.hid (H.out.below hb1)
  have K1 := Lib.hid (KeepT.below hb1)
  have OG := Lib.hid ((((((og.set 0 (.string c.text)).set 1 (.int .i8 c.wide)).set 2 (.int .i32 c.st.fg)).set 3 (.int .i32 c.st.bg)).set 4 (.int .u8 (bI c.st.at_))))
  simp only [fillA, e11]
  have s0 := og.blk.c 0 _ rfl
  have s1 := og.blk.c 1 _ rfl
  have s2 := og.blk.c 2 _ rfl
  have s3 := og.blk.c 3 _ rfl
  have s4 := og.blk.c 4 _ rfl
  have q0 := og.blk.f 0 _ rfl
  have q1 := og.blk.f 1 _ rfl
  have q2 := og.blk.f 2 _ rfl
  have q3 := og.blk.f 3 _ rfl
  have q4 := og.blk.f 4 _ rfl
  have HG := Lib.hid hb1
  clear hl hv hb1 og g0 g2 z0 z1 z2 z3 z4 e11
  go_wp2_with fail
  obtain ⟨V, hV⟩ : ∃ V, V = ((((W1.setCell ⟨g, 0, none⟩ (.string c.text)).setCell ⟨g, 1, none⟩ (.int .i8 c.wide)).setCell ⟨g, 2, none⟩ (.int .i32 c.st.fg)).setCell ⟨g, 3, none⟩ (.int .i32 c.st.bg)).setCell ⟨g, 4, none⟩ (.int .u8 (bI c.st.at_)) := ⟨_, rfl⟩
  rw [← hV] at OG ⊢
  have BV : Below W.heap.size W V := by rw [hV]; exact ((((HG.out.setCell (p := ⟨g, 0, none⟩) lg _).setCell (p := ⟨g, 1, none⟩) lg _).setCell (p := ⟨g, 2, none⟩) lg _).setCell (p := ⟨g, 3, none⟩) lg _).setCell (p := ⟨g, 4, none⟩) lg _
  have HV := Lib.hid (H.out.below BV)
  have KV := Lib.hid (KeepT.below BV)
  have OG : Hid (Own1 V g [.string c.text, .int .i8 c.wide, .int .i32 c.st.fg, .int .i32 c.st.bg, .int .u8 (bI c.st.at_)] 51) := OG
  clear hV BV HG K1 H1 s0 s1 s2 s3 s4 q0 q1 q2 q3 q4
  have TU2 : Hid (∀ d os, Calls Tryd.prog 31 #[styV t.st.fg t.st.bg t.st.at_, styV c.st.fg c.st.bg c.st.at_] (grow (redrawn V d) os) fun e w' => e = .returned (.string (turnB t.st c.st)) ∧ Later (grow (redrawn V d) os) w') := Lib.hid (fun d os => calls_later (TU.out _ (HV.out.env.of_below (below_regrown V d os) (Nat.le_refl _))))
  have gp := fun d os => (HV.out.bp.blk.regrown d os).c 0 _ rfl
  have gb11 := fun d os => (HV.out.bw.blk.regrown d os).c 11 _ rfl
  have gb12 := fun d os => (HV.out.bw.blk.regrown d os).c 12 _ rfl
  have gb13 := fun d os => (HV.out.bw.blk.regrown d os).c 13 _ rfl
  have gs2 := fun d os => (OG.out.blk.regrown d os).c 2 _ rfl
  have gs3 := fun d os => (OG.out.blk.regrown d os).c 3 _ rfl
  have gs4 := fun d os => (OG.out.blk.regrown d os).c 4 _ rfl
  refine wp_region_spec 7 [] [] (by kernel_rfl) (by kernel_rfl) (by kernel_rfl) (by intro t ht; cases ht) ?_
  simp only [List.take_succ_cons, List.take_zero, List.drop_succ_cons, List.drop_zero]
  repeat (refine wpS_step (by rfl) (fun K hK => ?_); go_simp; first | (refine hK _ ?_; clear hK K) | (apply Exists.intro; refine ⟨fun _ => ?_, hK _ ?_⟩; (with_reducible exact TU2.out _ _); clear hK K))
  refine wpS_nil ?_
  intro V2 vs2 hl hv
  have hb2 := later_below.1 hl
  have HV := Lib.hid (HV.out.below hb2)
  have KV := Lib.hid (KV.out.trans (KeepT.below hb2))
  have OG := Lib.hid (OG.out.below hb2)
  clear hl hv hb2 gp gb11 gb12 gb13 gs2 gs3 gs4 TU2
  simp only [fillA]
  go_upto_region 2 with fail
  generalize turnB t.st c.st = u at *
  have JO2 : Hid (∀ d os, Calls Tryd.prog 32 #[.string t.text, .string c.text] (grow (redrawn V2 d) os) fun e w' => e = .returned (.bool (joinsB t.text c.text)) ∧ Later (grow (redrawn V2 d) os) w') := Lib.hid (fun d os => calls_later (JO.out _))
  generalize joinsB t.text c.text = j at *
  generalize goB t ((i : Int) % F.R.w) ((i : Int) / F.R.w) c.st c.text = G at *
  generalize hXX : (i : Int) % F.R.w = X at *
  generalize hYY : (i : Int) / F.R.w = Y at *
  have HXX := Lib.hid hXX
  have HYY := Lib.hid hYY
  have Y2 : Y ≤ 1048576 := by omega
  clear hXX hYY Y1
  have gp := fun d os => (HV.out.bp.blk.regrown d os).c 0 _ rfl
  have gb8 := fun d os => (HV.out.bw.blk.regrown d os).c 8 _ rfl
  have gb9 := fun d os => (HV.out.bw.blk.regrown d os).c 9 _ rfl
  have gb10 := fun d os => (HV.out.bw.blk.regrown d os).c 10 _ rfl
  have gb15 := fun d os => (HV.out.bw.blk.regrown d os).c 15 _ rfl
  have gs0 := fun d os => (OG.out.blk.regrown d os).c 0 _ rfl
  go_cut [73] from 33 to 73 (fun s73 wx => s73 = .bool G ∧ Hid (Below V2.heap.size V2 wx))
  case first =>
    --Q(
    cases ep : t.place with
    | false =>
      have RG : Hid (G = true) := Lib.hid (by rw [GO.out, ep]; rfl)
      rw [ep] at gb8
      refine wp_region_spec 40 [] [] (by kernel_rfl) (by kernel_rfl) (by kernel_rfl) (by intro t ht; cases ht) ?_
      simp only [List.take_succ_cons, List.take_zero, List.drop_succ_cons, List.drop_zero]
      repeat (refine wpS_step (by rfl) (fun K hK => ?_); go_simp; first | (refine hK _ ?_; clear hK K) | (apply Exists.intro; refine ⟨fun _ => ?_, hK _ ?_⟩; (with_reducible exact JO2.out _ _); clear hK K))
      refine wpS_nil ?_
      intro W8 vs8 hl hv
      have hb8 := Lib.hid (later_below.1 hl)
      clear hl hv
      simp only [fillA]
      go_wp2_with fail
      go_meet
      exact ⟨by rw [RG.out], hb8⟩
    | true =>
      rw [ep] at gb8
      by_cases ex : t.x = X
      · have fx : (t.x != X) = false := by rw [ex]; simp
        by_cases ey : t.y = Y
        · have fy : (t.y != Y) = false := by rw [ey]; simp
          by_cases eu : u = zB
          · have fu := str_emp eu
            by_cases et : t.text = zB
            · have ft := str_emp et
              have RG : Hid (G = false) := Lib.hid (by rw [GO.out, ep, ex, ey, et]; simp)
              have HU := Lib.hid eu
              have HT := Lib.hid et
              clear eu et ex ey ep
              refine wp_region_spec 40 [] [] (by kernel_rfl) (by kernel_rfl) (by kernel_rfl) (by intro t ht; cases ht) ?_
              simp only [List.take_succ_cons, List.take_zero, List.drop_succ_cons, List.drop_zero]
              repeat (refine wpS_step (by rfl) (fun K hK => ?_); go_simp; first | (refine hK _ ?_; clear hK K) | (apply Exists.intro; refine ⟨fun _ => ?_, hK _ ?_⟩; (with_reducible exact JO2.out _ _); clear hK K))
              refine wpS_nil ?_
              intro W8 vs8 hl hv
              have hb8 := Lib.hid (later_below.1 hl)
              clear hl hv
              simp only [fillA]
              go_wp2_with fail
              go_meet
              exact ⟨by rw [RG.out], hb8⟩
            · have ft := str_full et
              have RG : Hid (G = j) := Lib.hid (by rw [GO.out, ep, ex, ey, eu]; simp [et])
              have HU := Lib.hid eu
              have HT := Lib.hid et
              clear eu et ex ey ep
              refine wp_region_spec 40 [] [] (by kernel_rfl) (by kernel_rfl) (by kernel_rfl) (by intro t ht; cases ht) ?_
              simp only [List.take_succ_cons, List.take_zero, List.drop_succ_cons, List.drop_zero]
              repeat (refine wpS_step (by rfl) (fun K hK => ?_); go_simp; first | (refine hK _ ?_; clear hK K) | (apply Exists.intro; refine ⟨fun _ => ?_, hK _ ?_⟩; (with_reducible exact JO2.out _ _); clear hK K))
              refine wpS_nil ?_
              intro W8 vs8 hl hv
              have hb8 := Lib.hid (later_below.1 hl)
              clear hl hv
              simp only [fillA]
              go_wp2_with fail
              go_meet
              exact ⟨by rw [RG.out], hb8⟩
          · have fu := str_full eu
            have RG : Hid (G = false) := Lib.hid (by rw [GO.out, ep, ex, ey]; simp [eu])
            have HU := Lib.hid eu
            clear eu ex ey ep
            refine wp_region_spec 40 [] [] (by kernel_rfl) (by kernel_rfl) (by kernel_rfl) (by intro t ht; cases ht) ?_
            simp only [List.take_succ_cons, List.take_zero, List.drop_succ_cons, List.drop_zero]
            repeat (refine wpS_step (by rfl) (fun K hK => ?_); go_simp; first | (refine hK _ ?_; clear hK K) | (apply Exists.intro; refine ⟨fun _ => ?_, hK _ ?_⟩; (with_reducible exact JO2.out _ _); clear hK K))
            refine wpS_nil ?_
            intro W8 vs8 hl hv
            have hb8 := Lib.hid (later_below.1 hl)
            clear hl hv
            simp only [fillA]
            go_wp2_with fail
            go_meet
            exact ⟨by rw [RG.out], hb8⟩
        · have fy : (t.y != Y) = true := by rw [bne_iff_ne]; exact ey
          have RG : Hid (G = true) := Lib.hid (by rw [GO.out, ep]; simp [ey])
          clear ex ey ep
          refine wp_region_spec 40 [] [] (by kernel_rfl) (by kernel_rfl) (by kernel_rfl) (by intro t ht; cases ht) ?_
          simp only [List.take_succ_cons, List.take_zero, List.drop_succ_cons, List.drop_zero]
          repeat (refine wpS_step (by rfl) (fun K hK => ?_); go_simp; first | (refine hK _ ?_; clear hK K) | (apply Exists.intro; refine ⟨fun _ => ?_, hK _ ?_⟩; (with_reducible exact JO2.out _ _); clear hK K))
          refine wpS_nil ?_
          intro W8 vs8 hl hv
          have hb8 := Lib.hid (later_below.1 hl)
          clear hl hv
          simp only [fillA]
          go_wp2_with fail
          go_meet
          exact ⟨by rw [RG.out], hb8⟩
      · have fx : (t.x != X) = true := by rw [bne_iff_ne]; exact ex
        have RG : Hid (G = true) := Lib.hid (by rw [GO.out, ep]; simp [ex])
        clear ex ep
        refine wp_region_spec 40 [] [] (by kernel_rfl) (by kernel_rfl) (by kernel_rfl) (by intro t ht; cases ht) ?_
        simp only [List.take_succ_cons, List.take_zero, List.drop_succ_cons, List.drop_zero]
        repeat (refine wpS_step (by rfl) (fun K hK => ?_); go_simp; first | (refine hK _ ?_; clear hK K) | (apply Exists.intro; refine ⟨fun _ => ?_, hK _ ?_⟩; (with_reducible exact JO2.out _ _); clear hK K))
        refine wpS_nil ?_
        intro W8 vs8 hl hv
        have hb8 := Lib.hid (later_below.1 hl)
        clear hl hv
        simp only [fillA]
        go_wp2_with fail
        go_meet
        exact ⟨by rw [RG.out], hb8⟩
    --)Q
  case rest =>
    obtain ⟨rfl, hbc⟩ := hcut
    have HC := Lib.hid (HV.out.below hbc.out)
    have KC := Lib.hid (KV.out.trans (KeepT.below hbc.out))
    have OC := Lib.hid (OG.out.below hbc.out)
    have lgb : g ≠ F.b := by
      have h1 := HV.out.ok.bo
      have h2 := H.out.sz
      simp only [Fix.o] at h2
      omega
    have XX : 0 ≤ X ∧ X < 4096 := by omega
    have us := US.out
    clear hbc HV KV OG gp gb8 gb9 gb10 gb15 gs0 JO JO2 TU wnz tm wd
    obtain ⟨t1, ht1⟩ : ∃ t1, t1 = move1 t X Y c.st c.text := ⟨_, rfl⟩
    rw [← ht1] at M1 UT
    clear ht1
    have b1 : t1.out.size ≤ t.out.size + 100 ∧ -10000000 ≤ t1.x ∧ t1.x ≤ 10000000 := by
      rw [M1.out]
      split
      · show (t.out ++ moveB X Y).size ≤ _ ∧ -10000000 ≤ X ∧ X ≤ 10000000
        have := moveB_size X Y (by omega) (by omega) (by omega) (by omega)
        rw [ByteArray.size_append]
        omega
      · omega
    go_upto_if 73 with fail
    go_cut [] from 74 to 77 (fun wx => Hid (FrSt F told t1 shn wx ∧ Own1 wx g [.string c.text, .int .i8 c.wide, .int .i32 c.st.fg, .int .i32 c.st.bg, .int .u8 (bI c.st.at_)] 51 ∧ KeepT W wx))
    case first =>
      cases G with
      | true =>
        have M2 : Hid (t1 = moveT t X Y) := Lib.hid (by rw [M1.out, if_pos rfl])
        have gm := HC.out.bm.blk.c 0 _ rfl
        go_wp2_with fail
        refine (f_move F told t shn wc HC.out X Y (by omega) (by omega) (by omega) (by omega) (by omega)).mono ?_; rintro e w9 ⟨⟨v, rfl⟩, h9, k9⟩
        rw [← M2.out] at h9
        have R9 := Lib.hid (show FrSt F told t1 shn w9 ∧ Own1 w9 g [.string c.text, .int .i8 c.wide, .int .i32 c.st.fg, .int .i32 c.st.bg, .int .u8 (bI c.st.at_)] 51 ∧ KeepT W w9 from ⟨h9, k9.own OC.out, KC.out.trans k9⟩)
        clear h9 k9
        go_wp2_with fail
        go_meet
        exact R9
      | false =>
        have M2 : Hid (t1 = t) := Lib.hid (by rw [M1.out, if_neg (by decide)])
        have R9 := Lib.hid (show FrSt F told t1 shn wc ∧ Own1 wc g [.string c.text, .int .i8 c.wide, .int .i32 c.st.fg, .int .i32 c.st.bg, .int .u8 (bI c.st.at_)] 51 ∧ KeepT W wc from ⟨by rw [M2.out]; exact HC.out, OC.out, KC.out⟩)
        go_wp2_with fail
        go_meet
        exact R9
    case rest =>
      obtain ⟨wa, hwa⟩ : ∃ wa, wa = wc := ⟨_, rfl⟩
      rw [← hwa] at hcut ⊢
      obtain ⟨HC, OC, KC⟩ := hcut.out
      have HC := Lib.hid HC
      have OC := Lib.hid OC
      have KC := Lib.hid KC
      clear hcut hwa M1
      obtain ⟨t2, ht2⟩ : ∃ t2, t2 = turn1 t1 u := ⟨_, rfl⟩
      have T2 : Hid (t2 = if u = zB then t1 else seqT t1 u) := Lib.hid ht2
      rw [← ht2] at UT
      clear ht2
      have b2 : t2.out.size ≤ t.out.size + 700 ∧ t2.x = t1.x := by
        rw [T2.out]
        split
        · omega
        · show (t1.out ++ u).size ≤ _ ∧ t1.x = t1.x
          rw [ByteArray.size_append]
          omega
      go_upto_if 79 with fail
      go_cut [] from 78 to 82 (fun wx => Hid (FrSt F told t2 shn wx ∧ Own1 wx g [.string c.text, .int .i8 c.wide, .int .i32 c.st.fg, .int .i32 c.st.bg, .int .u8 (bI c.st.at_)] 51 ∧ KeepT W wx))
      case first =>
        by_cases eu : u = zB
        · have M2 : Hid (t2 = t1) := Lib.hid (by rw [T2.out, if_pos eu])
          have R9 := Lib.hid (show FrSt F told t2 shn wa ∧ Own1 wa g [.string c.text, .int .i8 c.wide, .int .i32 c.st.fg, .int .i32 c.st.bg, .int .u8 (bI c.st.at_)] 51 ∧ KeepT W wa from ⟨by rw [M2.out]; exact HC.out, OC.out, KC.out⟩)
          have fu := str_emp eu
          have HU := Lib.hid eu
          clear eu
          try rw [fu]
          go_wp2_with fail
          go_meet
          exact R9
        · have M2 : Hid (t2 = seqT t1 u) := Lib.hid (by rw [T2.out, if_neg eu])
          have fu := str_full eu
          have HU := Lib.hid eu
          clear eu
          have gm := HC.out.bs.blk.c 0 _ rfl
          try rw [fu]
          go_wp2_with fail
          refine (f_seq F told t1 shn wa HC.out u (by omega)).mono ?_; rintro e w9 ⟨⟨v, rfl⟩, h9, k9⟩
          rw [← M2.out] at h9
          have R9 := Lib.hid (show FrSt F told t2 shn w9 ∧ Own1 w9 g [.string c.text, .int .i8 c.wide, .int .i32 c.st.fg, .int .i32 c.st.bg, .int .u8 (bI c.st.at_)] 51 ∧ KeepT W w9 from ⟨h9, k9.own OC.out, KC.out.trans k9⟩)
          clear h9 k9
          go_wp2_with fail
          go_meet
          exact R9
      case rest =>
        obtain ⟨wb, hwb⟩ : ∃ wb, wb = wc := ⟨_, rfl⟩
        rw [← hwb] at hcut ⊢
        clear HC OC KC
        obtain ⟨hc1, oc1, kc1⟩ := hcut.out
        have HC := Lib.hid hc1
        have OC := Lib.hid oc1
        have KC := Lib.hid kc1
        have pc := hc1.bp.blk.c 0 _ rfl
        have s0 := oc1.blk.c 0 _ rfl
        have s2 := oc1.blk.c 2 _ rfl
        have s3 := oc1.blk.c 3 _ rfl
        have s4 := oc1.blk.c 4 _ rfl
        have b11 := hc1.bw.blk.c 11 _ rfl
        have q11 := hc1.bw.blk.f 11 _ rfl
        have b12 := hc1.bw.blk.c 12 _ rfl
        have q12 := hc1.bw.blk.f 12 _ rfl
        have b13 := hc1.bw.blk.c 13 _ rfl
        have q13 := hc1.bw.blk.f 13 _ rfl
        have b15 := hc1.bw.blk.c 15 _ rfl
        have q15 := hc1.bw.blk.f 15 _ rfl
        have pb := hc1.ok.pb
        have pb2 : F.b ≠ F.p := fun e => pb e.symm
        have gb2 : F.b ≠ g := fun e => lgb e.symm
        clear hcut hwb T2 hc1 oc1 kc1
        go_upto_region 6 with fail
        go_region
        go_upto_region 7 with fail
        obtain ⟨V3, hV3⟩ : ∃ V3, V3 = ((((wb.setCell ⟨F.b, 11, none⟩ (.int .i32 c.st.fg)).setCell ⟨F.b, 12, none⟩ (.int .i32 c.st.bg)).setCell ⟨F.b, 13, none⟩ (.int .u8 (bI c.st.at_))).setCell ⟨F.b, 15, none⟩ (.string c.text)).drew := ⟨_, rfl⟩
        rw [← hV3]
        have dr : ∀ X : World, Below X.heap.size X X.drew := fun X => (Below.refl _ X).drew
        have R3 : Hid (FrSt F told ⟨t2.place, t2.x, t2.y, c.st, c.text, t2.out⟩ shn V3 ∧ Own1 V3 g [.string c.text, .int .i8 c.wide, .int .i32 c.st.fg, .int .i32 c.st.bg, .int .u8 (bI c.st.at_)] 51 ∧ KeepT W V3) := Lib.hid (by
          obtain ⟨a1, k1⟩ := HC.out.setW (told' := told) (t' := ⟨t2.place, t2.x, t2.y, ⟨c.st.fg, t2.st.bg, t2.st.at_⟩, t2.text, t2.out⟩) (shn' := shn) 11 (.int .i32 c.st.fg) rfl rfl
          obtain ⟨a2, k2⟩ := a1.setW (told' := told) (t' := ⟨t2.place, t2.x, t2.y, ⟨c.st.fg, c.st.bg, t2.st.at_⟩, t2.text, t2.out⟩) (shn' := shn) 12 (.int .i32 c.st.bg) rfl rfl
          obtain ⟨a3, k3⟩ := a2.setW (told' := told) (t' := ⟨t2.place, t2.x, t2.y, c.st, t2.text, t2.out⟩) (shn' := shn) 13 (.int .u8 (bI c.st.at_)) rfl rfl
          obtain ⟨a4, k4⟩ := a3.setW (told' := told) (t' := ⟨t2.place, t2.x, t2.y, c.st, c.text, t2.out⟩) (shn' := shn) 15 (.string c.text) rfl rfl
          have kk := ((k1.trans k2).trans k3).trans k4
          rw [hV3]
          exact ⟨a4.below (dr _), (kk.own OC.out).below (dr _), (KC.out.trans kk).trans (KeepT.below (dr _))⟩)
        clear hV3 HC OC KC pc s0 s2 s3 s4 b11 q11 b12 q12 b13 q13 b15 q15
        obtain ⟨h3, o3, k3⟩ := R3.out
        obtain ⟨v, hv, hr⟩ := h3.bo
        have hr : V3.ownsRow (F.o + 3) 5 1 v t2.out.size (Lib.strCells t2.out) := hr
        have cO := hv.cell
        have sz := h3.sz
        have s0 := o3.blk.c 0 _ rfl
        have H3 := Lib.hid h3
        have K3 := Lib.hid k3
        have O3 := Lib.hid o3
        clear h3 o3 k3 R3
        go_wp2_with (at_builtin; refine Lib.wpList_append_own_string _ rfl (.tmp 93) (.tmp 95) 26 9 rfl (F.o + 3) 5 i0 Tryd.underlying26 Tryd.underlying9 hi0 hz0 hz1 hz2 _ _ _ rfl hr c.text rfl (by unfold maxLen; omega) (by omega) sz ?_; intro v' w1 hown' hgrow _; obtain ⟨A, c', rfl⟩ := own_slice' hown'; obtain ⟨hv1, hf, hk⟩ := H3.out.added hv hr hown' hgrow; have c1 := hv1.cell; have f1 := hv1.frozen; have pp := hf.bp.blk.c 0 _ rfl; have b9 := hf.bw.blk.c 9 _ rfl; have q9 := hf.bw.blk.f 9 _ rfl; have H4 := Lib.hid hf; have K4 := Lib.hid (K3.out.trans hk))
        obtain ⟨b21, b22⟩ := b2
        obtain ⟨V5, hV5⟩ : ∃ V5, V5 = (w1.setCell ⟨F.o, 0, none⟩ (.slice A (t2.out.size + c.text.size) c')).setCell ⟨F.b, 9, none⟩ (.int .i64 (t1.x + (n : Int))) := ⟨_, rfl⟩
        rw [← hV5]
        have R5 : Hid (FrSt F told ⟨t2.place, t1.x + (n : Int), t2.y, c.st, c.text, t2.out ++ c.text⟩ shn V5 ∧ KeepT W V5) := Lib.hid (by
          obtain ⟨a1, k1⟩ := H4.out.setW (told' := told) (t' := ⟨t2.place, t1.x + (n : Int), t2.y, c.st, c.text, t2.out ++ c.text⟩) (shn' := shn) 9 (.int .i64 (t1.x + (n : Int))) rfl rfl
          rw [hV5]
          exact ⟨a1, K4.out.trans k1⟩)
        clear hV5 hown' hgrow c1 f1 pp b9 q9 H4 K4 cO sz s0 hr hv hv1
        obtain ⟨h5, k5⟩ := R5.out
        have pc := h5.bp.blk.c 0 _ rfl
        have r0 := h5.br.blk.c 0 _ rfl
        have b9 := h5.bw.blk.c 9 _ rfl
        have b8 := h5.bw.blk.c 8 _ rfl
        have q8 := h5.bw.blk.f 8 _ rfl
        have rb := h5.ok.rb
        have rb2 : F.b ≠ F.r := fun e => rb e.symm
        have UT2 : Hid (unitT F.R.w t i n c = ⟨decide (t1.x + (n : Int) < F.R.w), t1.x + (n : Int), t2.y, c.st, c.text, t2.out ++ c.text⟩) := Lib.hid (by rw [UT.out, ← b22]; rfl)
        clear h5 k5 UT b22
        go_region
        go_wp2_with fail
        go_end0
        obtain ⟨h5, k5⟩ := R5.out
        obtain ⟨a1, k1⟩ := h5.setW (told' := told) (t' := ⟨decide (t1.x + (n : Int) < F.R.w), t1.x + (n : Int), t2.y, c.st, c.text, t2.out ++ c.text⟩) (shn' := shn) 8 (.bool (decide (t1.x + (n : Int) < F.R.w))) rfl rfl
        exact ⟨⟨_, rfl⟩, by rw [UT2.out]; exact a1.below (dr _), (k5.trans k1).trans (KeepT.below (dr _))⟩
end Go.Proofs.YtkllilehdpdbdaaDoor
