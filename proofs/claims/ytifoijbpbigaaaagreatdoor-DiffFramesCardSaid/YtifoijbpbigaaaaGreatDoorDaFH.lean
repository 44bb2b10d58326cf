/- What lies below tapes (kept of earlier texts: DgG, DgP, DgH, DgI, RaT). -/
import Derived.Test.YtifoijbpbigaaaaGreatDoorDaFG
import Derived.Deep.DeepCutAuto
import Derived.Deep.RegionWith
import Derived.Laws.EntriesVeiled
set_option linter.unusedVariables false
set_option linter.unusedSimpArgs false
namespace Go.Proofs.YtifoijbpbigaaaaGreatDoor
section
open Go Go.RowKit Go.Sort
def ownS (B : Nat) (vs : List Value) (T : TypeId) : Spec := ⟨fun v w => ∃ g, v = .pointer (some ⟨g, 0, none⟩) /\ B <= g /\ Own1 w g vs T, fun v w w' hb ⟨g, e, h1, h2⟩ => ⟨g, e, h1, h2.below hb⟩⟩
theorem born_own {P : Program} {w : World} {B g : Nat} {vs : List Value} {T : TypeId} (e : g = w.heap.size) (hB : B <= w.heap.size) : jn P w (fun v w => ∃ g, v = .pointer (some ⟨g, 0, none⟩) /\ B <= g /\ Own1 w g vs T) (.ok (.value (.pointer (some ⟨g, 0, none⟩))) (w.alloc (.cells vs.toArray T))) := by
 subst e
 exact ⟨(Below.refl _ _).alloc Vf _, _, rfl, hB, World.alloc_heap_new w _⟩
theorem KeepT.own {W W' : World} (h : KeepT W W') {g : Nat} {vs : List Value} (k : Own1 W g vs 58) : Own1 W' g vs 58 := (h g _ _ k).trans k
theorem sz2 : (⟨#[27, 91]⟩ : ByteArray).size = 2 := rfl
theorem sz1 (b : UInt8) : (⟨#[b]⟩ : ByteArray).size = 1 := rfl
theorem xv (x y : Int) (x0 : -10000000 <= x) (x1 : x <= 10000000) (y0 : -10000000 <= y) (y1 : y <= 10000000) : (zH x y).size <= 100 := by
 have a := jD (y + 1) (by omega) (by omega)
 have b := jD (x + 1) (by omega) (by omega)
 unfold zH
 rw [ByteArray.size_append, ByteArray.size_append, ByteArray.size_append, ByteArray.size_append, sz2, sz1, sz1]
 omega
theorem vJ (f t : Sty) : (zI f t).size <= 500 := by
 have a := vB (zR f t) (xt f t) (zR f t).length Vf
 rw [List.take_length] at a
 have b := vc f t
 unfold zI
 split
 ·exact Nat.zero_le _
 ·rw [ByteArray.size_append, ByteArray.size_append, sz2, sz1]
  omega
set_option maxHeartbeats 16000000 in
set_option maxRecDepth 100000 in
theorem f_unit (F : Fix) (told : Bool) (t : Tel) (shn : Bool) (W : World) (h : FrSt F told t shn W) (i n : Nat) (c : Cel) (hn : n = 1 \/ n = 2) (hi : i < F.R.cells.length) (hc : F.R.cells[i] = c) (hN : F.R.cells.length <= 1048576) (w0 : 1 <= F.R.w) (w1 : F.R.w <= 4096)
  (S : Sees W W.heap.size F.RA (zc F.R.cells)) (htx : t.text.size + c.text.size <= 1000000000000) (ho : t.out.size <= 70000000000000) (x0 : -10000000 <= t.x) (x1 : t.x <= 10000000) :
  Calls Tryz.prog 49 #[.int .i64 i, .int .i64 n, .pointer (some ⟨F.r, 0, none⟩), .pointer (some ⟨F.p, 0, none⟩), .pointer (some ⟨F.o + 2, 0, none⟩), .pointer (some ⟨F.o + 1, 0, none⟩), .pointer (some ⟨F.o, 0, none⟩)] W fun e W' => (∃ v, e = .returned v) /\ FrSt F told (zN F.R.w t i n c) shn W' /\ KeepT W W' := by
 obtain ⟨i0, hi0, hz0, hz1, hz2⟩ := info_parts infoB
 obtain ⟨ad, hRA, ab, z0, z1, z2, z3, z4⟩ := ja S i hi
 rw [hc] at z0 z1 z2 z3 z4
 have UT : Hid (zN F.R.w t i n c = put1 (jl (jc t ((i : Int) % F.R.w) ((i : Int) / F.R.w) c.st c.text) (zI t.st c.st)) F.R.w n c) := Vd rfl
 have GO : Hid (goB t ((i : Int) % F.R.w) ((i : Int) / F.R.w) c.st c.text = (!t.place || decide (t.x ≠ (i : Int) % F.R.w) || decide (t.y ≠ (i : Int) / F.R.w) || (decide (zI t.st c.st = zB) && decide (t.text ≠ zB) && qK t.text c.text))) := Vd rfl
 have M1 : Hid (jc t ((i : Int) % F.R.w) ((i : Int) / F.R.w) c.st c.text = if goB t ((i : Int) % F.R.w) ((i : Int) / F.R.w) c.st c.text = true then jz t ((i : Int) % F.R.w) ((i : Int) / F.R.w) else t) := Vd rfl
 have US := Vd (vJ t.st c.st)
 have JO := Vd (fun W' => d_Joins t.text c.text htx W')
 have TU := Vd (fun W' (hE : EnvD W') => d_turned t.st c.st W' hE)
 have X0 : 0 <= (i : Int) % F.R.w := Int.emod_nonneg _ (by omega)
 have X1 : (i : Int) % F.R.w < F.R.w := Int.emod_lt_of_pos _ (by omega)
 have Y0 : 0 <= (i : Int) / F.R.w := Int.ediv_nonneg (by omega) (by omega)
 have Y1 : (i : Int) / F.R.w <= (i : Int) := Int.ediv_le_self _ (by omega)
 have wnz : ¬ F.R.w = 0 := by omega
 have tm : Int.tmod (i : Int) F.R.w = (i : Int) % F.R.w := Int.tmod_eq_emod_of_nonneg (by omega)
 have wd := Ve ((i : Int) / F.R.w) (by omega)
 have H := Vd h
 have g0 := fun d os => (h.br.blk.regrown d os).c 0 _ rfl
 have g2 := fun d os => (h.br.blk.regrown d os).c 2 _ rfl
 rw [hRA] at g2
 have z0 := fun d os => ((below_regrown W d os).cell (p := ad.add (i * 5)) (by simp only [zj]; exact ab)).trans z0
 have z1 := fun d os => ((below_regrown W d os).cell (p := ⟨(ad.add (i * 5)).block, (ad.add (i * 5)).off + 1, none⟩) (by simp only [zj]; exact ab)).trans z1
 have z2 := fun d os => ((below_regrown W d os).cell (p := ⟨(ad.add (i * 5)).block, (ad.add (i * 5)).off + 2, none⟩) (by simp only [zj]; exact ab)).trans z2
 have z3 := fun d os => ((below_regrown W d os).cell (p := ⟨(ad.add (i * 5)).block, (ad.add (i * 5)).off + 3, none⟩) (by simp only [zj]; exact ab)).trans z3
 have z4 := fun d os => ((below_regrown W d os).cell (p := ⟨(ad.add (i * 5)).block, (ad.add (i * 5)).off + 4, none⟩) (by simp only [zj]; exact ab)).trans z4
 have ii : (i : Int) < (F.R.cells.length : Int) := by omega
 clear h S hc
 go_enter Tryz.func49, Tryz.ntmps49
 go_wp2_with fail
 refine zn 16 [(11, ownS W.heap.size [.string ⟨#[]⟩, .int .i8 0, .int .i32 0, .int .i32 0, .int .u8 0] 58)] [11] (by kernel_rfl) (by kernel_rfl) (by kernel_rfl) (by intro t ht; simp at ht; subst ht; intro h; cases h) ?_
 simp only [Vg, Vh, Vi, Vj]
 repeat (refine ze (by rfl) (fun K hK => ?_); go_simp; first | (refine hK _ ?_; clear hK K) | (apply Exists.intro; refine ⟨fun _ => ?_, hK _ ?_⟩; (fail); clear hK K))
 refine Z7 11 rfl (by simp) (by first | (simp; done) | simp [xk]) (by rfl) (by rfl) (by intro _ _ h; cases h) (fun x => ?_) ?_
 ·go_simp
  exact born_own (by simp [grow, redrawn]) (by simp [grow, redrawn])
 repeat (refine ze (by rfl) (fun K hK => ?_); go_simp; first | (refine hK _ ?_; clear hK K) | (apply Exists.intro; refine ⟨fun _ => ?_, hK _ ?_⟩; (fail); clear hK K))
 refine zm ?_
 intro W1 vs1 hl hv
 obtain ⟨g, e11, lg, og⟩ := hv 11 (by simp) rfl
 have hb1 := zk.1 hl
 have H1 := Vd (H.out.below hb1)
 have K1 := Vd (KeepT.below hb1)
 have OG := Vd ((((((og.set 0 (.string c.text)).set 1 (.int .i8 c.wide)).set 2 (.int .i32 c.st.fg)).set 3 (.int .i32 c.st.bg)).set 4 (.int .u8 (bI c.st.at_))))
 simp only [zd, e11]
 have s0 := og.blk.c 0 _ rfl
 have s1 := og.blk.c 1 _ rfl
 have s2 := og.blk.c 2 _ rfl
 have s3 := og.blk.c 3 _ rfl
 have s4 := og.blk.c 4 _ rfl
 have q0 := og.blk.f 0 _ rfl
 have q1 := og.blk.f 1 _ rfl
 have q2 := og.blk.f 2 _ rfl
 have q3 := og.blk.f 3 _ rfl
 have q4 := og.blk.f 4 _ rfl
 have HG := Vd hb1
 clear hl hv hb1 og g0 g2 z0 z1 z2 z3 z4 e11
 go_wp2_with fail
 obtain ⟨V, hV⟩ : ∃ V, V = ((((W1.setCell ⟨g, 0, none⟩ (.string c.text)).setCell ⟨g, 1, none⟩ (.int .i8 c.wide)).setCell ⟨g, 2, none⟩ (.int .i32 c.st.fg)).setCell ⟨g, 3, none⟩ (.int .i32 c.st.bg)).setCell ⟨g, 4, none⟩ (.int .u8 (bI c.st.at_)) := ⟨_, rfl⟩
 rw [<- hV] at OG ⊢
 have BV : Below W.heap.size W V := by rw [hV]; exact ((((HG.out.setCell (p := ⟨g, 0, none⟩) lg _).setCell (p := ⟨g, 1, none⟩) lg _).setCell (p := ⟨g, 2, none⟩) lg _).setCell (p := ⟨g, 3, none⟩) lg _).setCell (p := ⟨g, 4, none⟩) lg _
 have HV := Vd (H.out.below BV)
 have KV := Vd (KeepT.below BV)
 have OG : Hid (Own1 V g [.string c.text, .int .i8 c.wide, .int .i32 c.st.fg, .int .i32 c.st.bg, .int .u8 (bI c.st.at_)] 58) := OG
 clear hV BV HG K1 H1 s0 s1 s2 s3 s4 q0 q1 q2 q3 q4
 have TU2 : Hid (∀ d os, Calls Tryz.prog 50 #[styV t.st.fg t.st.bg t.st.at_, styV c.st.fg c.st.bg c.st.at_] (grow (redrawn V d) os) fun e w' => e = .returned (.string (zI t.st c.st)) /\ qc (grow (redrawn V d) os) w') := Vd (fun d os => jB (TU.out _ (HV.out.env.of_below (below_regrown V d os) Vf)))
 have gp := fun d os => (HV.out.bp.blk.regrown d os).c 0 _ rfl
 have gb11 := fun d os => (HV.out.bw.blk.regrown d os).c 11 _ rfl
 have gb12 := fun d os => (HV.out.bw.blk.regrown d os).c 12 _ rfl
 have gb13 := fun d os => (HV.out.bw.blk.regrown d os).c 13 _ rfl
 have gs2 := fun d os => (OG.out.blk.regrown d os).c 2 _ rfl
 have gs3 := fun d os => (OG.out.blk.regrown d os).c 3 _ rfl
 have gs4 := fun d os => (OG.out.blk.regrown d os).c 4 _ rfl
 refine zn 7 [] [] (by kernel_rfl) (by kernel_rfl) (by kernel_rfl) (by intro t ht; cases ht) ?_
 simp only [Vg, Vh, Vi, Vj]
 repeat (refine ze (by rfl) (fun K hK => ?_); go_simp; first | (refine hK _ ?_; clear hK K) | (apply Exists.intro; refine ⟨fun _ => ?_, hK _ ?_⟩; (with_reducible exact TU2.out _ _); clear hK K))
 refine zm ?_
 intro V2 vs2 hl hv
 have hb2 := zk.1 hl
 have HV := Vd (HV.out.below hb2)
 have KV := Vd (KV.out.trans (KeepT.below hb2))
 have OG := Vd (OG.out.below hb2)
 clear hl hv hb2 gp gb11 gb12 gb13 gs2 gs3 gs4 TU2
 simp only [zd]
 go_upto_region 2 with fail
 generalize zI t.st c.st = u at *
 have JO2 : Hid (∀ d os, Calls Tryz.prog 51 #[.string t.text, .string c.text] (grow (redrawn V2 d) os) fun e w' => e = .returned (.bool (qK t.text c.text)) /\ qc (grow (redrawn V2 d) os) w') := Vd (fun d os => jB (JO.out _))
 generalize qK t.text c.text = j at *
 generalize goB t ((i : Int) % F.R.w) ((i : Int) / F.R.w) c.st c.text = G at *
 generalize hXX : (i : Int) % F.R.w = X at *
 generalize hYY : (i : Int) / F.R.w = Y at *
 have HXX := Vd hXX
 have HYY := Vd hYY
 have Y2 : Y <= 1048576 := by omega
 clear hXX hYY Y1
 have gp := fun d os => (HV.out.bp.blk.regrown d os).c 0 _ rfl
 have gb8 := fun d os => (HV.out.bw.blk.regrown d os).c 8 _ rfl
 have gb9 := fun d os => (HV.out.bw.blk.regrown d os).c 9 _ rfl
 have gb10 := fun d os => (HV.out.bw.blk.regrown d os).c 10 _ rfl
 have gb15 := fun d os => (HV.out.bw.blk.regrown d os).c 15 _ rfl
 have gs0 := fun d os => (OG.out.blk.regrown d os).c 0 _ rfl
 go_cut [73] from 33 to 73 (fun s73 wx => s73 = .bool G /\ Hid (Below V2.heap.size V2 wx))
 case first =>
  --Q(
  cases ep : t.place with
  | false =>
   have RG : Hid (G = true) := Vd (by rw [GO.out, ep]; rfl)
   rw [ep] at gb8
   refine zn 40 [] [] (by kernel_rfl) (by kernel_rfl) (by kernel_rfl) (by intro t ht; cases ht) ?_
   simp only [Vg, Vh, Vi, Vj]
   repeat (refine ze (by rfl) (fun K hK => ?_); go_simp; first | (refine hK _ ?_; clear hK K) | (apply Exists.intro; refine ⟨fun _ => ?_, hK _ ?_⟩; (with_reducible exact JO2.out _ _); clear hK K))
   refine zm ?_
   intro W8 vs8 hl hv
   have hb8 := Vd (zk.1 hl)
   clear hl hv
   simp only [zd]
   go_wp2_with fail
   go_meet
   exact ⟨by rw [RG.out], hb8⟩
  | true =>
   rw [ep] at gb8
   by_cases ex : t.x = X
   ·have fx : (t.x != X) = false := by rw [ex]; simp
    by_cases ey : t.y = Y
    ·have fy : (t.y != Y) = false := by rw [ey]; simp
     by_cases eu : u = zB
     ·have fu := jO eu
      by_cases et : t.text = zB
      ·have ft := jO et
       have RG : Hid (G = false) := Vd (by rw [GO.out, ep, ex, ey, et]; simp)
       have HU := Vd eu
       have HT := Vd et
       clear eu et ex ey ep
       refine zn 40 [] [] (by kernel_rfl) (by kernel_rfl) (by kernel_rfl) (by intro t ht; cases ht) ?_
       simp only [Vg, Vh, Vi, Vj]
       repeat (refine ze (by rfl) (fun K hK => ?_); go_simp; first | (refine hK _ ?_; clear hK K) | (apply Exists.intro; refine ⟨fun _ => ?_, hK _ ?_⟩; (with_reducible exact JO2.out _ _); clear hK K))
       refine zm ?_
       intro W8 vs8 hl hv
       have hb8 := Vd (zk.1 hl)
       clear hl hv
       simp only [zd]
       go_wp2_with fail
       go_meet
       exact ⟨by rw [RG.out], hb8⟩
      ·have ft := jP et
       have RG : Hid (G = j) := Vd (by rw [GO.out, ep, ex, ey, eu]; simp [et])
       have HU := Vd eu
       have HT := Vd et
       clear eu et ex ey ep
       refine zn 40 [] [] (by kernel_rfl) (by kernel_rfl) (by kernel_rfl) (by intro t ht; cases ht) ?_
       simp only [Vg, Vh, Vi, Vj]
       repeat (refine ze (by rfl) (fun K hK => ?_); go_simp; first | (refine hK _ ?_; clear hK K) | (apply Exists.intro; refine ⟨fun _ => ?_, hK _ ?_⟩; (with_reducible exact JO2.out _ _); clear hK K))
       refine zm ?_
       intro W8 vs8 hl hv
       have hb8 := Vd (zk.1 hl)
       clear hl hv
       simp only [zd]
       go_wp2_with fail
       go_meet
       exact ⟨by rw [RG.out], hb8⟩
     ·have fu := jP eu
      have RG : Hid (G = false) := Vd (by rw [GO.out, ep, ex, ey]; simp [eu])
      have HU := Vd eu
      clear eu ex ey ep
      refine zn 40 [] [] (by kernel_rfl) (by kernel_rfl) (by kernel_rfl) (by intro t ht; cases ht) ?_
      simp only [Vg, Vh, Vi, Vj]
      repeat (refine ze (by rfl) (fun K hK => ?_); go_simp; first | (refine hK _ ?_; clear hK K) | (apply Exists.intro; refine ⟨fun _ => ?_, hK _ ?_⟩; (with_reducible exact JO2.out _ _); clear hK K))
      refine zm ?_
      intro W8 vs8 hl hv
      have hb8 := Vd (zk.1 hl)
      clear hl hv
      simp only [zd]
      go_wp2_with fail
      go_meet
      exact ⟨by rw [RG.out], hb8⟩
    ·have fy : (t.y != Y) = true := by rw [bne_iff_ne]; exact ey
     have RG : Hid (G = true) := Vd (by rw [GO.out, ep]; simp [ey])
     clear ex ey ep
     refine zn 40 [] [] (by kernel_rfl) (by kernel_rfl) (by kernel_rfl) (by intro t ht; cases ht) ?_
     simp only [Vg, Vh, Vi, Vj]
     repeat (refine ze (by rfl) (fun K hK => ?_); go_simp; first | (refine hK _ ?_; clear hK K) | (apply Exists.intro; refine ⟨fun _ => ?_, hK _ ?_⟩; (with_reducible exact JO2.out _ _); clear hK K))
     refine zm ?_
     intro W8 vs8 hl hv
     have hb8 := Vd (zk.1 hl)
     clear hl hv
     simp only [zd]
     go_wp2_with fail
     go_meet
     exact ⟨by rw [RG.out], hb8⟩
   ·have fx : (t.x != X) = true := by rw [bne_iff_ne]; exact ex
    have RG : Hid (G = true) := Vd (by rw [GO.out, ep]; simp [ex])
    clear ex ep
    refine zn 40 [] [] (by kernel_rfl) (by kernel_rfl) (by kernel_rfl) (by intro t ht; cases ht) ?_
    simp only [Vg, Vh, Vi, Vj]
    repeat (refine ze (by rfl) (fun K hK => ?_); go_simp; first | (refine hK _ ?_; clear hK K) | (apply Exists.intro; refine ⟨fun _ => ?_, hK _ ?_⟩; (with_reducible exact JO2.out _ _); clear hK K))
    refine zm ?_
    intro W8 vs8 hl hv
    have hb8 := Vd (zk.1 hl)
    clear hl hv
    simp only [zd]
    go_wp2_with fail
    go_meet
    exact ⟨by rw [RG.out], hb8⟩
  --)Q
 case rest =>
  obtain ⟨rfl, hbc⟩ := hcut
  have HC := Vd (HV.out.below hbc.out)
  have KC := Vd (KV.out.trans (KeepT.below hbc.out))
  have OC := Vd (OG.out.below hbc.out)
  have lgb : g ≠ F.b := by
   have h1 := HV.out.ok.bo
   have h2 := H.out.sz
   simp only [Fix.o] at h2
   omega
  have XX : 0 <= X /\ X < 4096 := by omega
  have us := US.out
  clear hbc HV KV OG gp gb8 gb9 gb10 gb15 gs0 JO JO2 TU wnz tm wd
  obtain ⟨t1, ht1⟩ : ∃ t1, t1 = jc t X Y c.st c.text := ⟨_, rfl⟩
  rw [<- ht1] at M1 UT
  clear ht1
  have b1 : t1.out.size <= t.out.size + 100 /\ -10000000 <= t1.x /\ t1.x <= 10000000 := by
   rw [M1.out]
   split
   ·show (t.out ++ zH X Y).size <= _ /\ -10000000 <= X /\ X <= 10000000
    have := xv X Y (by omega) (by omega) (by omega) (by omega)
    rw [ByteArray.size_append]
    omega
   ·omega
  go_upto_if 73 with fail
  go_cut [] from 74 to 77 (fun wx => Hid (FrSt F told t1 shn wx /\ Own1 wx g [.string c.text, .int .i8 c.wide, .int .i32 c.st.fg, .int .i32 c.st.bg, .int .u8 (bI c.st.at_)] 58 /\ KeepT W wx))
  case first =>
   cases G with
   | true =>
    have M2 : Hid (t1 = jz t X Y) := Vd (by rw [M1.out, if_pos rfl])
    have gm := HC.out.bm.blk.c 0 _ rfl
    go_wp2_with fail
    refine (f_move F told t shn wc HC.out X Y (by omega) (by omega) (by omega) (by omega) (by omega)).mono ?_; rintro e w9 ⟨⟨v, rfl⟩, h9, k9⟩
    rw [<- M2.out] at h9
    have R9 := Vd (show FrSt F told t1 shn w9 /\ Own1 w9 g [.string c.text, .int .i8 c.wide, .int .i32 c.st.fg, .int .i32 c.st.bg, .int .u8 (bI c.st.at_)] 58 /\ KeepT W w9 from ⟨h9, k9.own OC.out, KC.out.trans k9⟩)
    clear h9 k9
    go_wp2_with fail
    go_meet
    exact R9
   | false =>
    have M2 : Hid (t1 = t) := Vd (by rw [M1.out, if_neg (by decide)])
    have R9 := Vd (show FrSt F told t1 shn wc /\ Own1 wc g [.string c.text, .int .i8 c.wide, .int .i32 c.st.fg, .int .i32 c.st.bg, .int .u8 (bI c.st.at_)] 58 /\ KeepT W wc from ⟨by rw [M2.out]; exact HC.out, OC.out, KC.out⟩)
    go_wp2_with fail
    go_meet
    exact R9
  case rest =>
   obtain ⟨wa, hwa⟩ : ∃ wa, wa = wc := ⟨_, rfl⟩
   rw [<- hwa] at hcut ⊢
   obtain ⟨HC, OC, KC⟩ := hcut.out
   have HC := Vd HC
   have OC := Vd OC
   have KC := Vd KC
   clear hcut hwa M1
   obtain ⟨t2, ht2⟩ : ∃ t2, t2 = jl t1 u := ⟨_, rfl⟩
   have T2 : Hid (t2 = if u = zB then t1 else seqT t1 u) := Vd ht2
   rw [<- ht2] at UT
   clear ht2
   have b2 : t2.out.size <= t.out.size + 700 /\ t2.x = t1.x := by
    rw [T2.out]
    split
    ·omega
    ·show (t1.out ++ u).size <= _ /\ t1.x = t1.x
     rw [ByteArray.size_append]
     omega
   go_upto_if 79 with fail
   go_cut [] from 78 to 82 (fun wx => Hid (FrSt F told t2 shn wx /\ Own1 wx g [.string c.text, .int .i8 c.wide, .int .i32 c.st.fg, .int .i32 c.st.bg, .int .u8 (bI c.st.at_)] 58 /\ KeepT W wx))
   case first =>
    by_cases eu : u = zB
    ·have M2 : Hid (t2 = t1) := Vd (by rw [T2.out, if_pos eu])
     have R9 := Vd (show FrSt F told t2 shn wa /\ Own1 wa g [.string c.text, .int .i8 c.wide, .int .i32 c.st.fg, .int .i32 c.st.bg, .int .u8 (bI c.st.at_)] 58 /\ KeepT W wa from ⟨by rw [M2.out]; exact HC.out, OC.out, KC.out⟩)
     have fu := jO eu
     have HU := Vd eu
     clear eu
     try rw [fu]
     go_wp2_with fail
     go_meet
     exact R9
    ·have M2 : Hid (t2 = seqT t1 u) := Vd (by rw [T2.out, if_neg eu])
     have fu := jP eu
     have HU := Vd eu
     clear eu
     have gm := HC.out.bs.blk.c 0 _ rfl
     try rw [fu]
     go_wp2_with fail
     refine (xT F told t1 shn wa HC.out u (by omega)).mono ?_; rintro e w9 ⟨⟨v, rfl⟩, h9, k9⟩
     rw [<- M2.out] at h9
     have R9 := Vd (show FrSt F told t2 shn w9 /\ Own1 w9 g [.string c.text, .int .i8 c.wide, .int .i32 c.st.fg, .int .i32 c.st.bg, .int .u8 (bI c.st.at_)] 58 /\ KeepT W w9 from ⟨h9, k9.own OC.out, KC.out.trans k9⟩)
     clear h9 k9
     go_wp2_with fail
     go_meet
     exact R9
   case rest =>
    obtain ⟨wb, hwb⟩ : ∃ wb, wb = wc := ⟨_, rfl⟩
    rw [<- hwb] at hcut ⊢
    clear HC OC KC
    obtain ⟨hc1, oc1, kc1⟩ := hcut.out
    have HC := Vd hc1
    have OC := Vd oc1
    have KC := Vd kc1
    have pc := hc1.bp.blk.c 0 _ rfl
    have s0 := oc1.blk.c 0 _ rfl
    have s2 := oc1.blk.c 2 _ rfl
    have s3 := oc1.blk.c 3 _ rfl
    have s4 := oc1.blk.c 4 _ rfl
    have b11 := hc1.bw.blk.c 11 _ rfl
    have q11 := hc1.bw.blk.f 11 _ rfl
    have b12 := hc1.bw.blk.c 12 _ rfl
    have q12 := hc1.bw.blk.f 12 _ rfl
    have b13 := hc1.bw.blk.c 13 _ rfl
    have q13 := hc1.bw.blk.f 13 _ rfl
    have b15 := hc1.bw.blk.c 15 _ rfl
    have q15 := hc1.bw.blk.f 15 _ rfl
    have pb := hc1.ok.pb
    have pb2 : F.b ≠ F.p := fun e => pb e.symm
    have gb2 : F.b ≠ g := fun e => lgb e.symm
    clear hcut hwb T2 hc1 oc1 kc1
    go_upto_region 6 with fail
    go_region
    go_upto_region 7 with fail
    obtain ⟨V3, hV3⟩ : ∃ V3, V3 = ((((wb.setCell ⟨F.b, 11, none⟩ (.int .i32 c.st.fg)).setCell ⟨F.b, 12, none⟩ (.int .i32 c.st.bg)).setCell ⟨F.b, 13, none⟩ (.int .u8 (bI c.st.at_))).setCell ⟨F.b, 15, none⟩ (.string c.text)).drew := ⟨_, rfl⟩
    rw [<- hV3]
    have dr : ∀ X : World, Below X.heap.size X X.drew := fun X => (Below.refl _ X).drew
    have R3 : Hid (FrSt F told ⟨t2.place, t2.x, t2.y, c.st, c.text, t2.out⟩ shn V3 /\ Own1 V3 g [.string c.text, .int .i8 c.wide, .int .i32 c.st.fg, .int .i32 c.st.bg, .int .u8 (bI c.st.at_)] 58 /\ KeepT W V3) := Vd (by
     obtain ⟨a1, k1⟩ := HC.out.setW (told' := told) (t' := ⟨t2.place, t2.x, t2.y, ⟨c.st.fg, t2.st.bg, t2.st.at_⟩, t2.text, t2.out⟩) (shn' := shn) 11 (.int .i32 c.st.fg) rfl rfl
     obtain ⟨a2, k2⟩ := a1.setW (told' := told) (t' := ⟨t2.place, t2.x, t2.y, ⟨c.st.fg, c.st.bg, t2.st.at_⟩, t2.text, t2.out⟩) (shn' := shn) 12 (.int .i32 c.st.bg) rfl rfl
     obtain ⟨a3, k3⟩ := a2.setW (told' := told) (t' := ⟨t2.place, t2.x, t2.y, c.st, t2.text, t2.out⟩) (shn' := shn) 13 (.int .u8 (bI c.st.at_)) rfl rfl
     obtain ⟨a4, k4⟩ := a3.setW (told' := told) (t' := ⟨t2.place, t2.x, t2.y, c.st, c.text, t2.out⟩) (shn' := shn) 15 (.string c.text) rfl rfl
     have kk := ((k1.trans k2).trans k3).trans k4
     rw [hV3]
     exact ⟨a4.below (dr _), (kk.own OC.out).below (dr _), (KC.out.trans kk).trans (KeepT.below (dr _))⟩)
    clear hV3 HC OC KC pc s0 s2 s3 s4 b11 q11 b12 q12 b13 q13 b15 q15
    obtain ⟨h3, o3, k3⟩ := R3.out
    obtain ⟨v, hv, hr⟩ := h3.bo
    have hr : V3.ownsRow (F.o + 3) 5 1 v t2.out.size (Lib.strCells t2.out) := hr
    have cO := hv.cell
    have sz := h3.sz
    have s0 := o3.blk.c 0 _ rfl
    have H3 := Vd h3
    have K3 := Vd k3
    have O3 := Vd o3
    clear h3 o3 k3 R3
    go_wp2_with (at_builtin; refine Lib.wpList_append_own_string _ rfl (.tmp 93) (.tmp 95) 66 9 rfl (F.o + 3) 5 i0 Tryz.underlying66 Tryz.underlying9 hi0 hz0 hz1 hz2 _ _ _ rfl hr c.text rfl (by unfold maxLen; omega) (by omega) sz ?_; intro v' w1 hown' hgrow _; obtain ⟨A, c', rfl⟩ := qT hown'; obtain ⟨hv1, hf, hk⟩ := H3.out.added hv hr hown' hgrow; have c1 := hv1.cell; have f1 := hv1.frozen; have pp := hf.bp.blk.c 0 _ rfl; have b9 := hf.bw.blk.c 9 _ rfl; have q9 := hf.bw.blk.f 9 _ rfl; have H4 := Vd hf; have K4 := Vd (K3.out.trans hk))
    obtain ⟨b21, b22⟩ := b2
    obtain ⟨V5, hV5⟩ : ∃ V5, V5 = (w1.setCell ⟨F.o, 0, none⟩ (.slice A (t2.out.size + c.text.size) c')).setCell ⟨F.b, 9, none⟩ (.int .i64 (t1.x + (n : Int))) := ⟨_, rfl⟩
    rw [<- hV5]
    have R5 : Hid (FrSt F told ⟨t2.place, t1.x + (n : Int), t2.y, c.st, c.text, t2.out ++ c.text⟩ shn V5 /\ KeepT W V5) := Vd (by
     obtain ⟨a1, k1⟩ := H4.out.setW (told' := told) (t' := ⟨t2.place, t1.x + (n : Int), t2.y, c.st, c.text, t2.out ++ c.text⟩) (shn' := shn) 9 (.int .i64 (t1.x + (n : Int))) rfl rfl
     rw [hV5]
     exact ⟨a1, K4.out.trans k1⟩)
    clear hV5 hown' hgrow c1 f1 pp b9 q9 H4 K4 cO sz s0 hr hv hv1
    obtain ⟨h5, k5⟩ := R5.out
    have pc := h5.bp.blk.c 0 _ rfl
    have r0 := h5.br.blk.c 0 _ rfl
    have b9 := h5.bw.blk.c 9 _ rfl
    have b8 := h5.bw.blk.c 8 _ rfl
    have q8 := h5.bw.blk.f 8 _ rfl
    have rb := h5.ok.rb
    have rb2 : F.b ≠ F.r := fun e => rb e.symm
    have UT2 : Hid (zN F.R.w t i n c = ⟨decide (t1.x + (n : Int) < F.R.w), t1.x + (n : Int), t2.y, c.st, c.text, t2.out ++ c.text⟩) := Vd (by rw [UT.out, <- b22]; rfl)
    clear h5 k5 UT b22
    go_region
    go_wp2_with fail
    go_end0
    obtain ⟨h5, k5⟩ := R5.out
    obtain ⟨a1, k1⟩ := h5.setW (told' := told) (t' := ⟨decide (t1.x + (n : Int) < F.R.w), t1.x + (n : Int), t2.y, c.st, c.text, t2.out ++ c.text⟩) (shn' := shn) 8 (.bool (decide (t1.x + (n : Int) < F.R.w))) rfl rfl
    exact ⟨⟨_, rfl⟩, by rw [UT2.out]; exact a1.below (dr _), (k5.trans k1).trans (KeepT.below (dr _))⟩
end
section
open Go.RowKit
def totS (L : List Cel) : Nat := (L.map fun c => c.text.size).sum
theorem xw (a : Cel) (L : List Cel) : totS (a :: L) = a.text.size + totS L := by simp [totS]
theorem vK {a : Cel} {L : List Cel} (h : a ∈ L) : a.text.size <= totS L := by
 induction L with
 | nil => cases h
 | cons b L ih =>
  rw [xw]
  rcases List.mem_cons.1 h with rfl | h
  ·omega
  ·have := ih h; omega
theorem QP (L : List Cel) (i : Nat) : (L.getD i celD).text.size <= totS L := by
 rcases Nat.lt_or_ge i L.length with h | h
 ·rw [List.getD_eq_getElem?_getD, List.getElem?_eq_getElem h]
  exact vK (List.getElem_mem h)
 ·rw [List.getD_eq_getElem?_getD, List.getElem?_eq_none h]
  exact Nat.zero_le _
theorem vL (L : List Cel) (d : Int) : totS (redL L d) = totS L := by
 unfold totS redL
 rw [List.map_map]
 rfl
def sumT (L : List Cel) (l : List (Nat × Nat)) : Nat := (l.map fun p => (L.getD p.1 celD).text.size).sum
theorem vM (L : List Cel) (a b : List (Nat × Nat)) : sumT L (a ++ b) = sumT L a + sumT L b := by simp [sumT]
theorem QQ (L : List Cel) (i n : Nat) : sumT L [(i, n)] = (L.getD i celD).text.size := by simp [sumT]
theorem QR {L l : List Cel} {a : Cel} {i : Nat} (h : L.drop i = a :: l) : L.getD i celD = a := by
 have := congrArg (fun m => m.getD 0 celD) h
 simpa [List.getD_eq_getElem?_getD, List.getElem?_drop] using this
theorem QT (l : List Cel) (h : rowR l = true) : ∀ i k L, k.length = l.length -> L.drop i = l -> (zg i k l).length <= l.length /\ sumT L (zg i k l) <= totS l /\ ∀ p ∈ zg i k l, i <= p.1 /\ p.1 + p.2 <= i + l.length /\ (p.2 = 1 \/ p.2 = 2) :=
 xf (P := fun l => ∀ i k L, k.length = l.length -> L.drop i = l -> (zg i k l).length <= l.length /\ sumT L (zg i k l) <= totS l /\ ∀ p ∈ zg i k l, i <= p.1 /\ p.1 + p.2 <= i + l.length /\ (p.2 = 1 \/ p.2 = 2))
  (fun i k L _ _ => by rw [xg]; exact ⟨Vf, Nat.zero_le _, fun p hp => by cases hp⟩)
  (fun a l s _ q i k L e hL => by
   cases k with
   | nil => cases e
   | cons b k =>
    simp only [List.length_cons, Nat.add_right_cancel_iff] at e
    rw [xi i b a k l (by rw [(jL s).1]; decide) e]
    obtain ⟨q1, q2, q3⟩ := q (i + 1) k L e (by rw [<- List.drop_drop, hL]; rfl)
    have ga := QR hL
    rw [xw, List.length_append, vM]
    simp only [List.length_cons]
    by_cases c : b = a
    ·rw [if_pos c]
     refine ⟨by simp; omega, by simp [sumT] at *; omega, fun p hp => ?_⟩
     have := q3 p (by simpa using hp)
     omega
    ·rw [if_neg c, QQ, ga]
     refine ⟨by simp; omega, by omega, fun p hp => ?_⟩
     rcases List.mem_cons.1 hp with rfl | hp
     ·simp
     ·have := q3 p hp
      omega)
  (fun a b l p _ q i k L e hL => by
   cases k with
   | nil => cases e
   | cons c k =>
    cases k with
    | nil => cases e
    | cons d k =>
     simp only [List.length_cons, Nat.add_right_cancel_iff] at e
     rw [xh i c d a b k l (qY p).1]
     obtain ⟨q1, q2, q3⟩ := q (i + 2) k L e (by rw [<- List.drop_drop, hL]; rfl)
     have ga := QR hL
     rw [xw, xw, List.length_append, vM]
     simp only [List.length_cons]
     by_cases g : c = a /\ d = b
     ·rw [if_pos g]
      refine ⟨by simp; omega, by simp [sumT] at *; omega, fun p hp => ?_⟩
      have := q3 p (by simpa using hp)
      omega
     ·rw [if_neg g, QQ, ga]
      refine ⟨by simp; omega, by omega, fun p hp => ?_⟩
      rcases List.mem_cons.1 hp with rfl | hp
      ·simp
      ·have := q3 p hp
       omega)
  l.length l Vf h
theorem sumT_pre {L : List Cel} {a b : List (Nat × Nat)} (h : a <+: b) : sumT L a <= sumT L b := by
 obtain ⟨r, rfl⟩ := h
 rw [vM]
 omega
theorem QU (W : Int) (t : Tel) (i n : Nat) (c : Cel) : (zN W t i n c).x = (i : Int) % W + n := by
 unfold zN put1
 show (jl _ _).x + (n : Int) = _
 have e : ∀ t u, (jl t u).x = t.x := fun t u => by unfold jl seqT; split <;> rfl
 rw [e]
 unfold jc
 by_cases g : goB t ((i : Int) % W) ((i : Int) / W) c.st c.text = true
 ·rw [if_pos g]; rfl
 ·rw [if_neg g]
  have g : goB t ((i : Int) % W) ((i : Int) / W) c.st c.text = false := by simpa using g
  unfold goB at g
  simp only [Bool.or_eq_false_iff, decide_eq_false_iff_not, Decidable.not_not] at g
  rw [g.1.1.2]
theorem QV (W : Int) (t : Tel) (i n : Nat) (c : Cel) (w0 : 1 <= W) (w1 : W <= 4096) (hi : i <= 2000000) : (zN W t i n c).out.size <= t.out.size + 600 + c.text.size := by
 have X0 : 0 <= (i : Int) % W := Int.emod_nonneg _ (by omega)
 have X1 : (i : Int) % W < W := Int.emod_lt_of_pos _ (by omega)
 have Y0 : 0 <= (i : Int) / W := Int.ediv_nonneg (by omega) (by omega)
 have Y1 : (i : Int) / W <= (i : Int) := Int.ediv_le_self _ (by omega)
 have a := xv ((i : Int) % W) ((i : Int) / W) (by omega) (by omega) (by omega) (by omega)
 have b := vJ t.st c.st
 unfold zN put1
 show ((jl (jc t ((i : Int) % W) ((i : Int) / W) c.st c.text) (zI t.st c.st)).out ++ c.text).size <= _
 rw [ByteArray.size_append]
 have e1 : ∀ u : ByteArray, (jl (jc t ((i : Int) % W) ((i : Int) / W) c.st c.text) u).out.size <= t.out.size + 100 + u.size := fun u => by
  have e2 : (jc t ((i : Int) % W) ((i : Int) / W) c.st c.text).out.size <= t.out.size + 100 := by
   unfold jc
   split
   ·show (t.out ++ zH ((i : Int) % W) ((i : Int) / W)).size <= _
    rw [ByteArray.size_append]; omega
   ·omega
  unfold jl
  split
  ·omega
  ·show ((jc t ((i : Int) % W) ((i : Int) / W) c.st c.text).out ++ u).size <= _
   rw [ByteArray.size_append]; omega
 have := e1 (zI t.st c.st)
 omega
theorem vN (W : Int) (L : List Cel) (t : Tel) (p : Nat × Nat) (l : List (Nat × Nat)) : zV W L t (p :: l) = zV W L (zN W t p.1 p.2 (L.getD p.1 celD)) l := rfl
theorem QW (W : Int) (L : List Cel) (w0 : 1 <= W) (w1 : W <= 4096) (M : Nat) (hM : totS L <= M) : ∀ (pre : List (Nat × Nat)) (t : Tel), (∀ p ∈ pre, p.1 <= 2000000 /\ (p.2 = 1 \/ p.2 = 2)) -> t.text.size <= M -> 0 <= t.x -> t.x <= 5000 ->
  (zV W L t pre).out.size <= t.out.size + 600 * pre.length + sumT L pre /\ (zV W L t pre).text.size <= M /\ 0 <= (zV W L t pre).x /\ (zV W L t pre).x <= 5000
 | [], t, _, h1, h2, h3 => ⟨by simp [zV, sumT], h1, h2, h3⟩
 | p :: pre, t, hp, h1, h2, h3 => by
  have hp0 := hp p (by simp)
  have X0 : 0 <= (p.1 : Int) % W := Int.emod_nonneg _ (by omega)
  have X1 : (p.1 : Int) % W < W := Int.emod_lt_of_pos _ (by omega)
  have gx := QU W t p.1 p.2 (L.getD p.1 celD)
  have go := QV W t p.1 p.2 (L.getD p.1 celD) w0 w1 hp0.1
  have gt : (zN W t p.1 p.2 (L.getD p.1 celD)).text.size <= M := Nat.le_trans (QP L p.1) hM
  have ih := QW W L w0 w1 M hM pre (zN W t p.1 p.2 (L.getD p.1 celD)) (fun q hq => hp q (by simp [hq])) gt (by rw [gx]; omega) (by rw [gx]; omega)
  rw [vN]
  have es : sumT L (p :: pre) = (L.getD p.1 celD).text.size + sumT L pre := by simp [sumT]
  rw [es]
  simp only [List.length_cons]
  exact ⟨by omega, ih.2⟩
theorem X7 : z8.size = 22 := rfl
theorem vO : jj.size = 6 := rfl
theorem QX : jy.size = 6 := rfl
def midT (x : Wri) (r : Scr) : Tel := zV r.w r.cells (zM x (newB x r)) (zg 0 (qS x (newB x r) r) r.cells)
theorem vP {x : Wri} {r : Scr} (hr : zi r = true) (hl : x.told = true -> zi x.last = true) : (qS x (newB x r) r).length = r.cells.length := by
 unfold qS
 split
 ·simp
 ·rename_i g
  have g : newB x r = false := by simpa using g
  unfold newB at g
  simp only [Bool.or_eq_false_iff, Bool.not_eq_false', decide_eq_false_iff_not, Decidable.not_not] at g
  have h1 := (z7 hr).2.1
  have h2 := (z7 (hl g.1.1)).2.1
  rw [g.1.2, g.2] at h2
  omega
theorem QY (x : Wri) (g : Bool) (ht : x.tel.text.size <= 400000000000) (h0 : 0 <= x.tel.x) (h1 : x.tel.x <= 5000) : (zM x g).out.size <= 22 /\ (zM x g).text.size <= 400000000000 /\ 0 <= (zM x g).x /\ (zM x g).x <= 5000 := by
 unfold zM
 cases g with
 | true => exact ⟨by rw [if_pos rfl]; exact Nat.le_refl 22, by rw [if_pos rfl]; exact Nat.zero_le _, by rw [if_pos rfl]; exact Int.le_refl 0, by rw [if_pos rfl]; show (0 : Int) <= 5000; omega⟩
 | false => rw [if_neg (by decide)]; exact ⟨Nat.zero_le _, ht, h0, h1⟩
theorem QZ {x : Wri} {r : Scr} (hr : zi r = true) (hl : x.told = true -> zi x.last = true) (ht : x.tel.text.size <= 400000000000) (h0 : 0 <= x.tel.x) (h1 : x.tel.x <= 5000) (hs : totS r.cells <= 1000000000)
  {pre : List (Nat × Nat)} (hp : pre <+: zg 0 (qS x (newB x r) r) r.cells) (hw : 1 <= r.w \/ pre = []) :
  (zV r.w r.cells (zM x (newB x r)) pre).out.size <= 2000000000 /\ (zV r.w r.cells (zM x (newB x r)) pre).text.size <= 400000000000 /\ 0 <= (zV r.w r.cells (zM x (newB x r)) pre).x /\ (zV r.w r.cells (zM x (newB x r)) pre).x <= 5000 := by
 obtain ⟨s1, s2, s3, s4⟩ := QY x (newB x r) ht h0 h1
 have len := vP hr hl
 obtain ⟨r1, r2, _⟩ := z7 hr
 have sz := qZ r1
 obtain ⟨q1, q2, q3⟩ := QT r.cells (xI hr) 0 _ r.cells len rfl
 rcases hw with hw | rfl
 ·have b := QW r.w r.cells hw sz.2.1 400000000000 (by omega) pre (zM x (newB x r)) (fun p hp' => by
   obtain ⟨_, a, c⟩ := q3 p (hp.subset hp')
   exact ⟨by omega, c⟩) s2 s3 s4
  have lp := hp.length_le
  have sp := sumT_pre (L := r.cells) hp
  refine ⟨?_, b.2⟩
  have := b.1
  omega
 ·exact ⟨by show (zM x (newB x r)).out.size <= _; omega, s2, s3, s4⟩
end
section
open Go Go.RowKit Go.Sort
def TRow (W : World) (A : Option Addr) (L : List Cel) : Prop := ∃ (g : Nat) (arr : Array Value) (fl : Nat × Nat), A = some ⟨g, 0, none⟩ /\ W.heap[g]? = some (Obj.cells arr 58 fl) /\ Sees W W.heap.size A (zc L)
theorem TRow.keep {W W' : World} {A : Option Addr} {L : List Cel} (h : TRow W A L) (k : KeepT W W') (hs : W.heap.size <= W'.heap.size) : TRow W' A L := by
 obtain ⟨g, arr, fl, rfl, hg, S⟩ := h
 exact ⟨g, arr, fl, rfl, (k g arr fl hg).trans hg, (k.sees hg S).more hs⟩
theorem TRow.below {W W' : World} {A : Option Addr} {L : List Cel} (h : TRow W A L) (hb : Below W.heap.size W W') : TRow W' A L := h.keep (KeepT.below hb) hb.size
theorem TRow.of_own {W : World} {base g n : Nat} {L : List Cel} (h : W.ownsRow base 58 5 (.slice (some ⟨g, 0, none⟩) n n) n (zc L)) : TRow W (some ⟨g, 0, none⟩) L := by
 rcases h.2 with ⟨e, _⟩ | ⟨g', cap, cur, e, _, hg, _⟩
 ·cases e
 ·injection e with e1
  injection e1 with e1
  injection e1 with e1
  subst e1
  refine ⟨g, cur, (0, 0), rfl, hg, fun _ => ⟨_, rfl, (Array.getElem?_eq_some_iff.1 hg).1, fun j u hj => ?_⟩⟩
  exact h.cells (g := g) rfl j u hj
structure WrAt (w : World) (b : Nat) (x : Wri) (LA : Option Addr) (Lc : Nat) : Prop where
 own : Own1 w b (wriV x.depth x.told x.last.w x.last.h LA x.last.cells.length Lc x.last.x x.last.y x.last.shown x.tel x.shown) 86
 last : x.told = true -> zi x.last = true /\ TRow w LA x.last.cells
 tx : 0 <= x.tel.x /\ x.tel.x <= 5000
 tt : x.tel.text.size <= 400000000000
theorem WrAt.below {w w' : World} {b : Nat} {x : Wri} {LA : Option Addr} {Lc : Nat} (h : WrAt w b x LA Lc) (hb : Below w.heap.size w w') : WrAt w' b x LA Lc :=
 ⟨h.own.below hb, fun e => ⟨(h.last e).1, (h.last e).2.below hb⟩, h.tx, h.tt⟩
set_option maxHeartbeats 16000000 in
set_option maxRecDepth 100000 in
theorem X8 (b : Nat) (x : Wri) (LA : Option Addr) (Lc : Nat) (s : Scr) (A : Option Addr) (c : Nat) (w : World) (hx : WrAt w b x LA Lc) (hs : ScrAt w w.heap.size s A c) (hr : zi s = false) :
  Calls Tryz.prog 27 #[.pointer (some ⟨b, 0, none⟩), scrV s A c] w fun e w' => e = .returned (.tuple #[.slice none 0 0, .int .i64 180]) /\ Below w.heap.size w w' := by
 obtain ⟨Q, hQ⟩ : ∃ Q, Q = (w.alloc (.cells #[.pointer (some ⟨b, 0, none⟩)] 63)).alloc (.cells #[.int .i64 s.w, .int .i64 s.h, .slice A s.cells.length c, .int .i64 s.x, .int .i64 s.y, .bool s.shown] 24) := ⟨_, rfl⟩
 have BQ : Below w.heap.size w Q := by rw [hQ]; exact ((Below.refl _ w).alloc Vf _).alloc (by simp) _
 have KP : Blk Q w.heap.size [.pointer (some ⟨b, 0, none⟩)] := by
  rw [hQ]
  exact (Blk.new w [.pointer (some ⟨b, 0, none⟩)] 63).alloc _
 have KS : Blk Q (w.heap.size + 1) [.int .i64 s.w, .int .i64 s.h, .slice A s.cells.length c, .int .i64 s.x, .int .i64 s.y, .bool s.shown] := by
  have := Blk.new (w.alloc (.cells #[.pointer (some ⟨b, 0, none⟩)] 63)) [.int .i64 s.w, .int .i64 s.h, .slice A s.cells.length c, .int .i64 s.x, .int .i64 s.y, .bool s.shown] 24
  have e : (w.alloc (.cells #[.pointer (some ⟨b, 0, none⟩)] 63)).heap.size = w.heap.size + 1 := by simp
  rw [e] at this
  rw [hQ]
  exact this
 have KW := (hx.own.below BQ).blk
 have bl := hx.own.lt
 have RD : Hid (∀ W, Below Q.heap.size Q W -> Calls Tryz.prog 9 #[scrV s A c, .int .i64 x.depth] W fun e w' => e = .returned (.tuple #[.agg #[.int .i64 0, .int .i64 0, .slice none 0 0, .int .i64 0, .int .i64 0, .bool false], .int .i64 180]) /\ Below W.heap.size W w' /\ Hid (Below w.heap.size w w')) :=
  Vd (fun W hW => (Xv s x.depth A c hs.cap hs.nil hs.len hs.ok hr _ ((hs.below (BQ.trans (hW.mono BQ.size))).more (Nat.le_trans BQ.size hW.size)).sees).mono fun e w' ⟨h1, h2⟩ => ⟨h1, h2, Vd ((BQ.trans (hW.mono BQ.size)).trans (h2.mono (Nat.le_trans BQ.size hW.size)))⟩)
 have b0 := KW.c 0 _ rfl
 have p0 := KP.c 0 _ rfl
 have s0 := KS.c 0 _ rfl
 have s1 := KS.c 1 _ rfl
 have s2 := KS.c 2 _ rfl
 have s3 := KS.c 3 _ rfl
 have s4 := KS.c 4 _ rfl
 have s5 := KS.c 5 _ rfl
 have HB := Vd BQ
 simp only [scrV] at RD ⊢
 generalize s.cells.length = n at *
 clear KP KS KW hx hs
 have QS : w.heap.size + 2 = Q.heap.size := by rw [hQ]; simp
 have hbq : b < Q.heap.size := by omega
 have hq0 : w.heap.size < Q.heap.size := by omega
 have hq1 : w.heap.size + 1 < Q.heap.size := by omega
 clear QS
 clear BQ
 go_enter Tryz.func27, Tryz.ntmps27
 go_upto_region 3 with fail
 rw [<- hQ]
 clear hQ
 go_cut [6, 7] from 15 to 23 (fun s6 s7 wx => s7 = .int .i64 180 /\ Hid (Below w.heap.size w wx))
 case first =>
  go_region_with ((go_at_call 9; refine (RD.out _ (by first | exact (Below.refl _ Q).drew | exact ((Below.refl _ Q).alloc Vf _).drew)).mono ?_; rintro e w1 ⟨rfl, hb1, hw1⟩; obtain ⟨hc, hf, hz⟩ := qQ hb1))
  all_goals
   have lw := hw1.out.size
   clear hc hf hb1 hz
   go_wp2_with fail
   go_meet
   refine ⟨rfl, Vd ?_⟩
   first
   | with_reducible exact hw1.out.alloc lw _
   | (repeat (first | with_reducible exact hw1.out | refine Below.setCell ?_ (by first | exact Nat.le_of_lt hq0) _))
 case rest =>
  obtain ⟨rfl, hB⟩ := hcut
  clear RD HB
  go_wp2_with fail
  go_ret2
  exact ⟨rfl, hB.out⟩
end
section
open Go Go.RowKit Go.Sort
def scrL (R : Scr) (g N : Nat) : List Value := [.int .i64 R.w, .int .i64 R.h, .slice (some ⟨g, 0, none⟩) N N, .int .i64 R.x, .int .i64 R.y, .bool R.shown]
structure Fr3 (Q : World) (r g : Nat) (R : Scr) (N : Nat) (W : World) : Prop where
 rq : Q.heap.size <= r
 own : Own1 W r (scrL R g N) 24
 row : TRow W (some ⟨g, 0, none⟩) R.cells
 below : Below Q.heap.size Q W
 gq : Q.heap.size <= g
theorem fr3B {Q w1 : World} {g N : Nat} {R : Scr} (hb : Below Q.heap.size Q w1) (hr : TRow w1 (some ⟨g, 0, none⟩) R.cells) (gq : Q.heap.size <= g) : Fr3 Q w1.heap.size g R N (w1.alloc (.cells #[.int .i64 R.w, .int .i64 R.h, .slice (some ⟨g, 0, none⟩) N N, .int .i64 R.x, .int .i64 R.y, .bool R.shown] 24)) :=
 ⟨hb.size, World.alloc_heap_new w1 _, hr.below ((Below.refl _ _).alloc Vf _), hb.alloc hb.size _, gq⟩
theorem fr3A {Q w1 : World} {g N : Nat} {R : Scr} (hb : Below (Q.alloc (.cells #[.int .i64 0, .int .i64 0, .slice none 0 0, .int .i64 0, .int .i64 0, .bool false] 24)).drew.heap.size (Q.alloc (.cells #[.int .i64 0, .int .i64 0, .slice none 0 0, .int .i64 0, .int .i64 0, .bool false] 24)).drew w1) (hr : TRow w1 (some ⟨g, 0, none⟩) R.cells) (gq : Q.heap.size <= g) :
  Fr3 Q Q.heap.size g R N ((((((w1.setCell ⟨Q.heap.size, 0, none⟩ (.int .i64 R.w)).setCell ⟨Q.heap.size, 1, none⟩ (.int .i64 R.h)).setCell ⟨Q.heap.size, 2, none⟩ (.slice (some ⟨g, 0, none⟩) N N)).setCell ⟨Q.heap.size, 3, none⟩ (.int .i64 R.x)).setCell ⟨Q.heap.size, 4, none⟩ (.int .i64 R.y)).setCell ⟨Q.heap.size, 5, none⟩ (.bool R.shown)) := by
 have o0 : Own1 w1 Q.heap.size zS 24 := (hb.block Q.heap.size (by simp)).trans (World.alloc_heap_new Q _)
 have ne : 24 ≠ 58 := by decide
 have o1 := o0.set 0 (.int .i64 R.w)
 have o2 := o1.set 1 (.int .i64 R.h)
 have o3 := o2.set 2 (.slice (some ⟨g, 0, none⟩) N N)
 have o4 := o3.set 3 (.int .i64 R.x)
 have o5 := o4.set 4 (.int .i64 R.y)
 have o6 := o5.set 5 (.bool R.shown)
 have B : Below Q.heap.size Q w1 := (((Below.refl _ Q).alloc Vf _).drew).trans (hb.mono (by simp))
 have st : ∀ {W : World} {vs : List Value} {i : Nat} {y : Value}, Own1 W Q.heap.size vs 24 -> TRow W (some ⟨g, 0, none⟩) R.cells -> TRow (W.setCell ⟨Q.heap.size, i, none⟩ y) (some ⟨g, 0, none⟩) R.cells := fun o h => h.keep (KeepT.set o ne) (zA _ _ _).size
 exact ⟨Vf, o6, st o5 (st o4 (st o3 (st o2 (st o1 (st o0 hr))))), (((((B.setCell (p := ⟨Q.heap.size, 0, none⟩) Vf _).setCell (p := ⟨Q.heap.size, 1, none⟩) Vf _).setCell (p := ⟨Q.heap.size, 2, none⟩) Vf _).setCell (p := ⟨Q.heap.size, 3, none⟩) Vf _).setCell (p := ⟨Q.heap.size, 4, none⟩) Vf _).setCell (p := ⟨Q.heap.size, 5, none⟩) Vf _, gq⟩
theorem X9 (F : Fix) (ok : FixOk F) (told : Bool) (t : Tel) (shn : Bool) (hw : Own1 F.w0 F.b (F.wri told t shn) 86) (ho : t.out = zB) :
  FrSt F told t shn (((F.w0.alloc (.cells #[.slice none 0 0] 66)).alloc (.cells #[.func (.func 45) #[] #[.pointer (some ⟨F.o, 0, none⟩), .pointer (some ⟨F.p, 0, none⟩)]] 87)).alloc (.cells #[.func (.func 46) #[] #[.pointer (some ⟨F.o + 1, 0, none⟩), .pointer (some ⟨F.p, 0, none⟩)]] 71)) := by
 have b1 : ∀ W : World, ∀ o, Below W.heap.size W (W.alloc o) := fun W o => (Below.refl _ W).alloc Vf o
 obtain ⟨W1, h1⟩ : ∃ W1, W1 = F.w0.alloc (.cells #[.slice none 0 0] 66) := ⟨_, rfl⟩
 have z1 : W1.heap.size = F.o + 1 := by rw [h1]; simp [Fix.o]
 have k1 : Below F.w0.heap.size F.w0 W1 := by rw [h1]; exact b1 _ _
 have q1 : Boxed W1 F.o 66 (.slice none 0 0) := by rw [h1]; exact Boxed.new F.w0 _ _
 rw [<- h1]
 clear h1
 obtain ⟨W2, h2⟩ : ∃ W2, W2 = W1.alloc (.cells #[.func (.func 45) #[] #[.pointer (some ⟨F.o, 0, none⟩), .pointer (some ⟨F.p, 0, none⟩)]] 87) := ⟨_, rfl⟩
 have z2 : W2.heap.size = F.o + 2 := by rw [h2]; simp [z1]
 have k2 : Below W1.heap.size W1 W2 := by rw [h2]; exact b1 _ _
 have q2 : Own1 W2 (F.o + 1) [.func (.func 45) #[] #[.pointer (some ⟨F.o, 0, none⟩), .pointer (some ⟨F.p, 0, none⟩)]] 87 := by rw [h2, <- z1]; exact World.alloc_heap_new W1 _
 rw [<- h2]
 clear h2
 obtain ⟨W3, h3⟩ : ∃ W3, W3 = W2.alloc (.cells #[.func (.func 46) #[] #[.pointer (some ⟨F.o + 1, 0, none⟩), .pointer (some ⟨F.p, 0, none⟩)]] 71) := ⟨_, rfl⟩
 have k3 : Below W2.heap.size W2 W3 := by rw [h3]; exact b1 _ _
 have q3 : Own1 W3 (F.o + 2) [.func (.func 46) #[] #[.pointer (some ⟨F.o + 1, 0, none⟩), .pointer (some ⟨F.p, 0, none⟩)]] 71 := by rw [h3, <- z2]; exact World.alloc_heap_new W2 _
 rw [<- h3]
 clear h3
 have k12 : Below F.w0.heap.size F.w0 W2 := k1.trans (k2.mono k1.size)
 have k13 : Below F.w0.heap.size F.w0 W3 := k12.trans (k3.mono k12.size)
 refine ⟨ok, hw.below k13, q2.below k3, q3, ⟨.slice none 0 0, ?_, ?_⟩, qU k13 _⟩
 ·exact (k3.block F.o (by rw [z2]; omega)).trans ((k2.block F.o (by rw [z1]; omega)).trans q1)
 ·rw [ho]; exact World.ownsRow_nil _ _ _ _
def kO (F : Fix) (x : Wri) (G : Bool) (V : World) (A1 : Option Addr) (M : Nat) (W : World) : Prop :=
 FrSt F x.told (zM x G) (x.shown && !G) W /\ TRow W A1 (qS x G F.R) /\ M = F.R.cells.length /\ KeepT V W /\ V.heap.size <= W.heap.size
theorem KeepT.trans_set {V W : World} (h : KeepT V W) {g i : Nat} {y : Value} (hg : V.heap.size <= g) : KeepT V (W.setCell ⟨g, i, none⟩ y) := fun k arr fl hk => by
 have lt := (Array.getElem?_eq_some_iff.1 hk).1
 have e1 := h k arr fl hk
 have lt2 : k < W.heap.size := (Array.getElem?_eq_some_iff.1 (e1.trans hk)).1
 exact ((zA W ⟨g, i, none⟩ y).block k lt2 (fun e => by have := Option.some.inj e; simp only at this; omega)).trans e1
theorem zB_app (s : ByteArray) : zB ++ s = s := by
 apply ByteArray.ext
 rw [ByteArray.data_append]
 simp [zB]
structure FillSt (F : Fix) (told : Bool) (t : Tel) (shn : Bool) (V : World) (lo g N : Nat) (xs : List Value) (W : World) : Prop where
 st : FrSt F told t shn W
 own : W.ownsRow lo 58 5 (.slice (some ⟨g, 0, none⟩) N N) N xs
 keep : KeepT V W
 size : V.heap.size <= W.heap.size
 far : V.heap.size <= g
 lo_o : F.o + 3 <= g
theorem FrSt.farCell {F : Fix} {told : Bool} {t : Tel} {shn : Bool} {W : World} (h : FrSt F told t shn W) {g : Nat} {arr : Array Value} {fl : Nat × Nat} (hg : W.heap[g]? = some (.cells arr 58 fl)) (hb : F.o + 3 <= g) (i : Nat) (y : Value) : FrSt F told t shn (W.setCell ⟨g, i, none⟩ y) := by
 have gs := zA W ⟨g, i, none⟩ y
 have bo := h.ok.bo
 have so : F.o = F.w0.heap.size := rfl
 have st : ∀ k, k ≠ g -> k < W.heap.size -> (W.setCell ⟨g, i, none⟩ y).heap[k]? = W.heap[k]? := fun k ne hk => gs.block k hk (fun e => ne (Option.some.inj e))
 obtain ⟨v, h1, h2⟩ := h.bo
 refine ⟨h.ok, (st _ (by omega) h.bw.lt).trans h.bw, (st _ (by omega) h.bs.lt).trans h.bs, (st _ (by omega) h.bm.lt).trans h.bm, ⟨v, (st _ (by omega) h1.lt).trans h1, h2.kept gs ?_⟩, ?_⟩
 ·rcases h2.2 with ⟨rfl, _⟩ | ⟨g', cap, cur, rfl, hb, hgb, _⟩
  ·exact Or.inl rfl
  ·refine Or.inr (fun q => ?_)
   have := Option.some.inj q
   simp only at this
   subst this
   rw [hgb] at hg
   cases hg
 ·refine ⟨gs.os.trans h.gr.os, gs.tape.trans h.gr.tape, gs.output.trans h.gr.output, Nat.le_trans h.gr.size gs.size, fun k hk ne => (st k (by omega) (Nat.lt_of_lt_of_le hk h.gr.size)).trans (h.gr.block k hk ne)⟩
theorem FillSt.store {F : Fix} {told : Bool} {t : Tel} {shn : Bool} {V W : World} {lo g N : Nat} {xs : List Value} (h : FillSt F told t shn V lo g N xs W) (i : Nat) (y : Value) : FillSt F told t shn V lo g N (xs.set i y) (W.setCell ⟨g, i, none⟩ y) := by
 have gs := zA W ⟨g, i, none⟩ y
 obtain ⟨arr, fl, hg⟩ : ∃ arr fl, W.heap[g]? = some (.cells arr 58 fl) := by
  rcases h.own.2 with ⟨e, _⟩ | ⟨g', cap, cur, e, _, hg, _⟩
  ·cases e
  ·injection e with e1
   injection e1 with e1
   injection e1 with e1
   subst e1
   exact ⟨_, _, hg⟩
 exact ⟨h.st.farCell hg h.lo_o i y, (h.own.stored i y).1, h.keep.trans_set h.far, Nat.le_trans h.size gs.size, h.far, h.lo_o⟩
theorem FillSt.below {F : Fix} {told : Bool} {t : Tel} {shn : Bool} {V W W' : World} {lo g N : Nat} {xs : List Value} (h : FillSt F told t shn V lo g N xs W) (hb : Below W.heap.size W W') : FillSt F told t shn V lo g N xs W' :=
 ⟨h.st.below hb, Qw h.own hb, h.keep.trans (KeepT.below hb), Nat.le_trans h.size hb.size, h.far, h.lo_o⟩
theorem d_Blank0 : Gives 48 #[.agg #[.int .i32 0, .int .i32 0, .int .u8 0]] (.agg #[.string ⟨#[32]⟩, .int .i8 1, .int .i32 0, .int .i32 0, .int .u8 0]) := by
 have h := d_Blank qd
 rw [show zf qd = qd by decide] at h
 exact h
theorem rep_snoc (k : Nat) : zc (List.replicate (k + 1) qB) = zc (List.replicate k qB) ++ [.string ⟨#[32]⟩, .int .i8 1, .int .i32 0, .int .i32 0, .int .u8 0] := by
 rw [List.replicate_succ', xq]
 rfl
theorem vQ (a b : Int) : (a != b) = decide (a ≠ b) := by
 by_cases h : a = b <;> simp [h]
theorem TRow.stay {W W' : World} {A : Option Addr} {L : List Cel} (h : TRow W A L) (k : KeepT W W') : TRow W' A L := by
 obtain ⟨g, arr, fl, rfl, hg, S⟩ := h
 refine ⟨g, arr, fl, rfl, (k g arr fl hg).trans hg, fun hne => ?_⟩
 obtain ⟨ad, e, _, hc⟩ := k.sees hg S hne
 cases e
 exact ⟨_, rfl, (Array.getElem?_eq_some_iff.1 ((k g arr fl hg).trans hg)).1, hc⟩
theorem TRow.sees {W : World} {A : Option Addr} {L : List Cel} (h : TRow W A L) : Sees W W.heap.size A (zc L) := by
 obtain ⟨_, _, _, _, _, S⟩ := h
 exact S
def FrJ (F : Fix) (told : Bool) (t0 : Tel) (shn : Bool) (A1 : Option Addr) (a : List Cel) (pre : List (Nat × Nat)) (W : World) : Prop :=
 FrSt F told (zV F.R.w F.R.cells t0 pre) shn W /\ KeepT F.w0 W /\ TRow W A1 a
theorem fr_units (F : Fix) (x : Wri) (G : Bool) (hG : G = newB x F.R) (A1 : Option Addr) (c1 : Nat) (W : World) (hR : zi F.R = true) (hs : totS F.R.cells <= 1000000000) (hl : x.told = true -> zi x.last = true) (hx0 : 0 <= x.tel.x) (hx1 : x.tel.x <= 5000) (ht : x.tel.text.size <= 400000000000)
  (hrow : TRow F.w0 F.RA F.R.cells) (M : Nat) (h : kO F x G F.w0 A1 M W) :
  Calls Tryz.prog 29 #[.slice A1 M c1, .slice F.RA F.R.cells.length F.Rc, .func (.func 49) #[] #[.pointer (some ⟨F.r, 0, none⟩), .pointer (some ⟨F.p, 0, none⟩), .pointer (some ⟨F.o + 2, 0, none⟩), .pointer (some ⟨F.o + 1, 0, none⟩), .pointer (some ⟨F.o, 0, none⟩)]] W
   fun e w' => (∃ v, e = .returned v) /\ FrSt F x.told (midT x F.R) (x.shown && !G) w' /\ KeepT F.w0 w' := by
 obtain ⟨h1, h2, h3, h4, h5⟩ := h
 subst hG
 have len := vP hR hl
 obtain ⟨r1, r2, _⟩ := z7 hR
 have sz := qZ r1
 have NB : F.R.cells.length <= 1048576 := by omega
 have rm := QT F.R.cells (xI hR) 0 _ F.R.cells len rfl
 have U := QI 49 #[.pointer (some ⟨F.r, 0, none⟩), .pointer (some ⟨F.p, 0, none⟩), .pointer (some ⟨F.o + 2, 0, none⟩), .pointer (some ⟨F.o + 1, 0, none⟩), .pointer (some ⟨F.o, 0, none⟩)] (enters_of Tryz.func49 (by kernel_rfl) rfl)
  (FrJ F x.told (zM x (newB x F.R)) (x.shown && !newB x F.R) A1 (qS x (newB x F.R) F.R)) A1 F.RA c1 F.Rc (qS x (newB x F.R) F.R) F.R.cells len (by omega) (xI hR)
  (fun pre i n V hj hp hn => by
   obtain ⟨j1, j2, j3⟩ := hj
   have hi := (rm.2.2 (i, n) (hp.subset (List.mem_append_right _ (List.mem_singleton.2 rfl)))).2.1
   simp only at hi
   have il : i < F.R.cells.length := by omega
   have w1 : 1 <= F.R.w := by
    rcases Int.lt_or_le F.R.w 1 with z | z
    ·have e : F.R.w = 0 := by omega
     rw [e, Int.zero_mul] at r2
     omega
    ·exact z
   have hpre : pre <+: zg 0 (qS x (newB x F.R) F.R) F.R.cells := (List.prefix_append pre _).trans hp
   have pb := QZ hR hl ht hx0 hx1 hs hpre (Or.inl w1)
   have ge : F.R.cells[i] = F.R.cells.getD i celD := by rw [List.getD_eq_getElem?_getD, List.getElem?_eq_getElem il]; rfl
   have tg := QP F.R.cells i
   have rr := hrow.stay j2
   refine (f_unit F x.told _ _ V j1 i n _ hn il ge NB w1 sz.2.1 rr.sees (by omega) (by omega) (by omega) (by omega)).mono ?_
   rintro e W' ⟨hv, q1, q2⟩
   exact ⟨hv, by rw [Xb]; exact q1, j2.trans q2, j3.stay q2⟩)
  (fun pre V hj => ⟨hj.2.2.sees, (hrow.stay hj.2.1).sees⟩)
  (fun pre V V' hj hb => ⟨hj.1.below hb, hj.2.1.trans (KeepT.below hb), hj.2.2.below hb⟩) W ⟨h1, h4, h2⟩
 rw [len, <- h3] at U
 rw [<- h3]
 exact U.mono fun e w' ⟨hv, q⟩ => ⟨hv, q.1, q.2.1⟩
theorem Q5 {x : Wri} {r : Scr} (hr : zi r = true) (hl : x.told = true -> zi x.last = true) (ht : x.tel.text.size <= 400000000000) (h0 : 0 <= x.tel.x) (h1 : x.tel.x <= 5000) (hs : totS r.cells <= 1000000000) :
  (midT x r).out.size <= 2000000000 /\ (midT x r).text.size <= 400000000000 /\ 0 <= (midT x r).x /\ (midT x r).x <= 5000 := by
 refine QZ hr hl ht h0 h1 hs (List.prefix_refl _) ?_
 obtain ⟨r1, r2, _⟩ := z7 hr
 have sz := qZ r1
 rcases Int.lt_or_le r.w 1 with z | z
 ·have e : r.w = 0 := by omega
  rw [e, Int.zero_mul] at r2
  have e2 : r.cells = [] := List.length_eq_zero_iff.1 (by omega)
  rw [e2, xg]
  exact Or.inr rfl
 ·exact Or.inl z
def goC (t : Tel) (r : Scr) : Bool := r.shown && (!t.place || decide (t.x ≠ r.x) || decide (t.y ≠ r.y))
theorem Q6 {t : Tel} {r : Scr} (hr : zi r = true) (h1 : t.out.size <= 2000000000) (h2 : t.text.size <= 400000000000) (h3 : 0 <= t.x) (h4 : t.x <= 5000) : (zy t r).out.size <= 2000000100 /\ (zy t r).text.size <= 400000000000 /\ 0 <= (zy t r).x /\ (zy t r).x <= 5000 := by
 obtain ⟨r1, _, _, r4⟩ := z7 hr
 have sz := qZ r1
 unfold zy
 split
 ·rename_i g
  simp only [Bool.and_eq_true] at g
  unfold qN at r4
  rw [if_pos g.1] at r4
  simp only [Bool.and_eq_true, decide_eq_true_eq] at r4
  have := xv r.x r.y (by omega) (by omega) (by omega) (by omega)
  exact ⟨by show (t.out ++ zH r.x r.y).size <= _; rw [ByteArray.size_append]; omega, Nat.zero_le _, by show 0 <= r.x; omega, by show r.x <= 5000; omega⟩
 ·exact ⟨by omega, h2, h3, h4⟩
def FrRet2 (b : Nat) (x : Wri) (s : Scr) (w : World) (e : Ending) (w' : World) : Prop :=
 ∃ v LA Lc, e = .returned (.tuple #[v, .int .i64 0]) /\ w'.ownsRow w.heap.size 5 1 v (zJ x (redS s x.depth)).out.size (Lib.strCells (zJ x (redS s x.depth)).out) /\ WrAt w' b (jA x s) LA Lc /\ w.grownBy w' (some b) /\ ∀ a, LA = some a -> w.heap.size <= a.block
def FrRet (b : Nat) (x : Wri) (s : Scr) (w : World) (e : Ending) (w' : World) : Prop :=
 ∃ v LA Lc, e = .returned (.tuple #[v, .int .i64 0]) /\ w'.ownsRow w.heap.size 5 1 v (zJ x (redS s x.depth)).out.size (Lib.strCells (zJ x (redS s x.depth)).out) /\ WrAt w' b (jA x s) LA Lc /\ w.grownBy w' (some b)
set_option maxHeartbeats 64000000 in
set_option maxRecDepth 100000 in
theorem Q7 (b : Nat) (x : Wri) (LA : Option Addr) (Lc : Nat) (s : Scr) (A : Option Addr) (c : Nat) (w : World) (E : EnvD w) (nb : b ≠ 1 /\ b ≠ 0 /\ b ≠ 2) (hx : WrAt w b x LA Lc) (hs : ScrAt w w.heap.size s A c) (hr : zi s = true) (ht : totS s.cells <= 1000000000) :
  Calls Tryz.prog 27 #[.pointer (some ⟨b, 0, none⟩), scrV s A c] w (FrRet2 b x s w) := by
 obtain ⟨Q, hQ⟩ : ∃ Q, Q = (w.alloc (.cells #[.pointer (some ⟨b, 0, none⟩)] 63)).alloc (.cells #[.int .i64 s.w, .int .i64 s.h, .slice A s.cells.length c, .int .i64 s.x, .int .i64 s.y, .bool s.shown] 24) := ⟨_, rfl⟩
 have BQ : Below w.heap.size w Q := by rw [hQ]; exact ((Below.refl _ w).alloc Vf _).alloc (by simp) _
 have OP : Own1 Q w.heap.size [.pointer (some ⟨b, 0, none⟩)] 63 := by
  rw [hQ]
  exact Own1.below (World.alloc_heap_new w _) ((Below.refl _ _).alloc Vf _)
 have KS : Blk Q (w.heap.size + 1) [.int .i64 s.w, .int .i64 s.h, .slice A s.cells.length c, .int .i64 s.x, .int .i64 s.y, .bool s.shown] := by
  have := Blk.new (w.alloc (.cells #[.pointer (some ⟨b, 0, none⟩)] 63)) [.int .i64 s.w, .int .i64 s.h, .slice A s.cells.length c, .int .i64 s.x, .int .i64 s.y, .bool s.shown] 24
  have e : (w.alloc (.cells #[.pointer (some ⟨b, 0, none⟩)] 63)).heap.size = w.heap.size + 1 := by simp
  rw [e] at this
  rw [hQ]
  exact this
 have bl := hx.own.lt
 have HX := Vd (hx.below BQ)
 obtain ⟨R, hR⟩ : ∃ R, R = redS s x.depth := ⟨_, rfl⟩
 have RL : R.cells.length = s.cells.length := by rw [hR]; simp [redS, redL]
 have RR : Hid (zi R = true /\ totS R.cells <= 1000000000) := Vd (by rw [hR]; exact ⟨ki x.depth hr, by show totS (redL s.cells x.depth) <= _; rw [vL]; exact ht⟩)
 have RD : Hid (∀ W, Below Q.heap.size Q W -> Calls Tryz.prog 9 #[scrV s A c, .int .i64 x.depth] W fun e w' => ∃ g, e = .returned (.tuple #[.agg #[.int .i64 R.w, .int .i64 R.h, .slice (some ⟨g, 0, none⟩) s.cells.length s.cells.length, .int .i64 R.x, .int .i64 R.y, .bool R.shown], .int .i64 0]) /\ Below W.heap.size W w' /\ Hid (Below Q.heap.size Q w' /\ TRow w' (some ⟨g, 0, none⟩) R.cells /\ Q.heap.size <= g)) :=
  Vd (fun W hW => (Xw s x.depth A c hs.cap hs.nil hs.len hs.ok hr _ ((hs.below (BQ.trans (hW.mono BQ.size))).more (Nat.le_trans BQ.size hW.size)).sees).mono fun e w' ⟨g, h1, h2, h3⟩ => ⟨g, by rw [h1, <- hR]; simp only [scrV, RL], h3, Vd ⟨hW.trans (h3.mono hW.size), by rw [hR]; exact TRow.of_own h2, Nat.le_trans hW.size (h2.lt g rfl).1⟩⟩)
 have RN := Vd RL
 have FW : Hid (∀ e w', FrRet2 b x s w e w' ↔ ∃ v LA Lc, e = .returned (.tuple #[v, .int .i64 0]) /\ w'.ownsRow w.heap.size 5 1 v (zJ x R).out.size (Lib.strCells (zJ x R).out) /\ WrAt w' b ⟨x.depth, true, R, zJ x R, s.shown⟩ LA Lc /\ w.grownBy w' (some b) /\ ∀ a, LA = some a -> w.heap.size <= a.block) := Vd (by rw [hR]; intro e w'; exact Iff.rfl)
 have SH : Hid (s.shown = R.shown) := Vd (by rw [hR]; rfl)
 have b0 := HX.out.own.blk.c 0 _ rfl
 have p0 := OP.blk.c 0 _ rfl
 have s0 := KS.c 0 _ rfl
 have s1 := KS.c 1 _ rfl
 have s2 := KS.c 2 _ rfl
 have s3 := KS.c 3 _ rfl
 have s4 := KS.c 4 _ rfl
 have s5 := KS.c 5 _ rfl
 have HB := Vd BQ
 have HOP := Vd OP
 have HE := Vd E
 simp only [scrV] at RD ⊢
 generalize s.cells.length = N at *
 clear KS hx hs hr ht RL OP hR E
 have QS : w.heap.size + 2 = Q.heap.size := by rw [hQ]; simp
 have hbq : b < Q.heap.size := by omega
 have hq0 : w.heap.size < Q.heap.size := by omega
 have hq1 : w.heap.size + 1 < Q.heap.size := by omega
 clear QS BQ
 go_enter Tryz.func27, Tryz.ntmps27
 go_upto_region 3 with fail
 rw [<- hQ]
 clear hQ
 go_cut [6, 7] from 15 to 23 (fun s6 s7 wx => s7 = .int .i64 0 /\ ∃ r g, s6 = .pointer (some ⟨r, 0, none⟩) /\ Hid (Fr3 Q r g R N wx))
 case first =>
  --Q(
  go_region_with ((go_at_call 9; refine (RD.out _ (by first | exact (Below.refl _ Q).drew | exact ((Below.refl _ Q).alloc Vf _).drew)).mono ?_; rintro e w1 ⟨g, rfl, hb1, hw1⟩; obtain ⟨hc, hf, hz⟩ := qQ hb1))
  all_goals
   have HB1 := Vd hb1
   clear hc hf hb1 hz
   go_wp2_with fail
   go_meet
   first
   | (with_reducible exact ⟨rfl, _, g, rfl, Vd (fr3B hw1.out.1 hw1.out.2.1 hw1.out.2.2)⟩)
   | (exact ⟨rfl, _, g, rfl, Vd (fr3A HB1.out hw1.out.2.1 hw1.out.2.2)⟩)
  --)Q
 case rest =>
  obtain ⟨rfl, r, g, rfl, h3⟩ := hcut
  clear RD b0 p0 s0 s1 s2 s3 s4 s5
  have e6 : (decide (R.cells.length = N)) = true := by rw [RN.out]; simp
  go_upto_region 9 with fail
  obtain ⟨F, hF⟩ : ∃ F : Fix, F = ⟨wc, b, w.heap.size, r, x.depth, x.last.w, x.last.h, LA, x.last.cells.length, Lc, x.last.x, x.last.y, x.last.shown, R, some ⟨g, 0, none⟩, N⟩ := ⟨_, rfl⟩
  have OK : FixOk F := by
   have hq := h3.out
   have hqs := hq.below.size
   have hrq := hq.rq
   have hown := hq.own
   unfold scrL at hown
   rw [hF]
   refine ⟨?_, ?_, ?_, ?_, nb, HOP.out.below hq.below, ?_⟩
   ·show w.heap.size ≠ b
    omega
   ·show r ≠ b
    omega
   ·show b < wc.heap.size
    omega
   ·exact HE.out.of_below (HB.out.trans (hq.below.mono HB.out.size)) Vf
   ·show Own1 wc r [.int .i64 R.w, .int .i64 R.h, .slice (some ⟨g, 0, none⟩) R.cells.length N, .int .i64 R.x, .int .i64 R.y, .bool R.shown] 24
    rw [RN.out]
    exact hown
  have HGQ := Vd (show w.heap.size <= g from Nat.le_trans HB.out.size h3.out.gq)
  have H0 := X9 F OK x.told ⟨x.tel.place, x.tel.x, x.tel.y, x.tel.st, x.tel.text, zB⟩ x.shown (by rw [hF]; exact HX.out.own.below h3.out.below) rfl
  have eo : wc.heap.size = F.o := by rw [hF]; rfl
  have ew : wc = F.w0 := by rw [hF]
  have ep : w.heap.size = F.p := by rw [hF]
  have eb : b = F.b := by rw [hF]
  have er : r = F.r := by rw [hF]
  have EQ := Vd hF
  rw [eo, ep, eb, er, ew]
  obtain ⟨V, hV⟩ : ∃ V, V = (((F.w0.alloc (.cells #[.slice none 0 0] 66)).alloc (.cells #[.func (.func 45) #[] #[.pointer (some ⟨F.o, 0, none⟩), .pointer (some ⟨F.p, 0, none⟩)]] 87)).alloc (.cells #[.func (.func 46) #[] #[.pointer (some ⟨F.o + 1, 0, none⟩), .pointer (some ⟨F.p, 0, none⟩)]] 71)) := ⟨_, rfl⟩
  rw [<- hV] at H0 ⊢
  have LR : Hid (TRow F.w0 (some ⟨g, 0, none⟩) R.cells /\ (x.told = true -> zi x.last = true /\ TRow F.w0 LA x.last.cells) /\ 0 <= x.tel.x /\ x.tel.x <= 5000 /\ x.tel.text.size <= 400000000000) := Vd (by
   have hx := HX.out.below h3.out.below
   rw [<- ew]
   exact ⟨h3.out.row, hx.last, hx.tx.1, hx.tx.2, hx.tt⟩)
  have BW : Hid (Below w.heap.size w F.w0) := Vd (by rw [<- ew]; exact HB.out.trans (h3.out.below.mono HB.out.size))
  have KV : Hid (KeepT F.w0 V) := Vd (by
   rw [hV]
   exact KeepT.below ((((Below.refl _ _).alloc Vf _).alloc (by simp) _).alloc (by simp; omega) _))
  have pc := H0.bp.blk.c 0 _ rfl
  have b4 := H0.bw.blk.c 4 _ rfl
  have H0 := Vd H0
  have EB := Vd eb
  have EP := Vd ep
  have BO := OK.bo
  have PB := OK.pb
  have RB := OK.rb
  clear hF hV eo ew ep eb er OK h3 HX HOP HE hbq hq0 hq1 nb bl e6
  go_upto_region 10 with fail
  rw [show F.o + 1 + 1 = F.o + 2 from rfl]
  obtain ⟨G, hG⟩ : ∃ G, G = newB x F.R := ⟨_, rfl⟩
  have HG := Vd hG
  have GE : Hid (∀ a b c : Bool, x.told = a -> (F.LW != F.R.w) = b -> (F.LH != F.R.h) = c -> G = (!a || b || c)) := Vd (by
   intro a b c ha hb hc
   rw [hG, <- ha, <- hb, <- hc, EQ.out]
   unfold newB
   simp only [vQ])
  clear hG b4
  have gp := fun d os => (H0.out.bp.blk.regrown d os).c 0 _ rfl
  have g1 := fun d os => (H0.out.bw.blk.regrown d os).c 1 _ rfl
  have g2 := fun d os => (H0.out.bw.blk.regrown d os).c 2 _ rfl
  have g3 := fun d os => (H0.out.bw.blk.regrown d os).c 3 _ rfl
  have r0 := fun d os => (H0.out.br.blk.regrown d os).c 0 _ rfl
  have r1 := fun d os => (H0.out.br.blk.regrown d os).c 1 _ rfl
  go_cut [58] from 34 to 58 (fun s58 wx => s58 = .bool G /\ Hid (Below V.heap.size V wx))
  case first =>
   --Q(
   generalize x.told = tl at *
   cases tl with
   | false =>
    have RG : Hid (G = true) := Vd (GE.out false _ _ rfl rfl rfl)
    refine zn 24 [] [] (by kernel_rfl) (by kernel_rfl) (by kernel_rfl) (by intro t ht; cases ht) ?_
    simp only [Vg, Vh, Vi, Vj]
    repeat (refine ze (by rfl) (fun K hK => ?_); go_simp; first | (refine hK _ ?_; clear hK K) | (apply Exists.intro; refine ⟨fun _ => ?_, hK _ ?_⟩; (fail); clear hK K))
    refine zm ?_
    intro W8 vs8 hl hv
    have hb8 := Vd (zk.1 hl)
    clear hl hv
    simp only [zd]
    go_wp2_with fail
    go_meet
    exact ⟨by rw [RG.out], hb8⟩
   | true =>
    cases q1 : (F.LW != F.R.w) with
    | true =>
     have RG : Hid (G = true) := Vd (GE.out true _ _ rfl q1 rfl)
     refine zn 24 [] [] (by kernel_rfl) (by kernel_rfl) (by kernel_rfl) (by intro t ht; cases ht) ?_
     simp only [Vg, Vh, Vi, Vj]
     repeat (refine ze (by rfl) (fun K hK => ?_); go_simp; first | (refine hK _ ?_; clear hK K) | (apply Exists.intro; refine ⟨fun _ => ?_, hK _ ?_⟩; (fail); clear hK K))
     refine zm ?_
     intro W8 vs8 hl hv
     have hb8 := Vd (zk.1 hl)
     clear hl hv
     simp only [zd]
     go_wp2_with fail
     go_meet
     exact ⟨by rw [RG.out], hb8⟩
    | false =>
     cases q2 : (F.LH != F.R.h) with
     | true =>
      have RG : Hid (G = true) := Vd (GE.out true _ _ rfl q1 q2)
      refine zn 24 [] [] (by kernel_rfl) (by kernel_rfl) (by kernel_rfl) (by intro t ht; cases ht) ?_
      simp only [Vg, Vh, Vi, Vj]
      repeat (refine ze (by rfl) (fun K hK => ?_); go_simp; first | (refine hK _ ?_; clear hK K) | (apply Exists.intro; refine ⟨fun _ => ?_, hK _ ?_⟩; (fail); clear hK K))
      refine zm ?_
      intro W8 vs8 hl hv
      have hb8 := Vd (zk.1 hl)
      clear hl hv
      simp only [zd]
      go_wp2_with fail
      go_meet
      exact ⟨by rw [RG.out], hb8⟩
     | false =>
      have RG : Hid (G = false) := Vd (GE.out true _ _ rfl q1 q2)
      refine zn 24 [] [] (by kernel_rfl) (by kernel_rfl) (by kernel_rfl) (by intro t ht; cases ht) ?_
      simp only [Vg, Vh, Vi, Vj]
      repeat (refine ze (by rfl) (fun K hK => ?_); go_simp; first | (refine hK _ ?_; clear hK K) | (apply Exists.intro; refine ⟨fun _ => ?_, hK _ ?_⟩; (fail); clear hK K))
      refine zm ?_
      intro W8 vs8 hl hv
      have hb8 := Vd (zk.1 hl)
      clear hl hv
      simp only [zd]
      go_wp2_with fail
      go_meet
      exact ⟨by rw [RG.out], hb8⟩
   --)Q
  case rest =>
   obtain ⟨rfl, hbc⟩ := hcut
   obtain ⟨wa, hwa⟩ : ∃ wa, wa = wc := ⟨_, rfl⟩
   rw [<- hwa] at hbc ⊢
   have HA := Vd (H0.out.below hbc.out)
   have KA := Vd (KV.out.trans (KeepT.below hbc.out))
   clear hwa hbc gp g1 g2 g3 r0 r1 GE pc
   go_upto_if 58 with fail
   go_cut [11] from 12 to 91 (fun s11 wx => ∃ A1 M c1, s11 = .slice A1 M c1 /\ Hid (kO F x G F.w0 A1 M wx))
   case first =>
    cases G with
    | false =>
     have LS : Hid (kO F x false F.w0 F.LA F.Ln wa) := Vd (by
      have nw := HG.out
      unfold newB at nw
      simp only [Bool.false_eq, Bool.or_eq_false_iff, Bool.not_eq_false', decide_eq_false_iff_not, Decidable.not_not] at nw
      obtain ⟨⟨n1, n2⟩, n3⟩ := nw
      obtain ⟨l1, l2, _⟩ := LR.out
      obtain ⟨m1, m2⟩ := l2 n1
      have e1 := (z7 m1).2.1
      have e2 := (z7 RR.out.1).2.1
      have eR : F.R = R := by rw [EQ.out]
      rw [eR] at n2 n3
      rw [n2, n3] at e1
      refine ⟨?_, ?_, ?_, KA.out, HA.out.gr.size⟩
      ·have e3 : zM x false = ⟨x.tel.place, x.tel.x, x.tel.y, x.tel.st, x.tel.text, zB⟩ := rfl
       rw [e3, Bool.not_false, Bool.and_true]
       exact HA.out
      ·have eL : F.LA = LA := by rw [EQ.out]
       rw [eL]
       exact m2.keep KA.out HA.out.gr.size
      ·have eN : F.Ln = x.last.cells.length := by rw [EQ.out]
       rw [eN, eR]
       omega)
     go_wp2_with fail
     go_meet
     exact ⟨_, _, _, rfl, LS⟩
    | true =>
     have gs := HA.out.bs.blk.c 0 _ rfl
     go_wp2_with fail
     refine (xT F x.told _ x.shown wa HA.out z8 (by rw [X7]; show 0 + 22 <= _; omega)).mono ?_; rintro e w9 ⟨⟨v, rfl⟩, h9, k9⟩
     have pc := h9.bp.blk.c 0 _ rfl
     have b11 := h9.bw.blk.c 11 _ rfl
     have q11 := h9.bw.blk.f 11 _ rfl
     have b12 := h9.bw.blk.c 12 _ rfl
     have q12 := h9.bw.blk.f 12 _ rfl
     have b13 := h9.bw.blk.c 13 _ rfl
     have q13 := h9.bw.blk.f 13 _ rfl
     have b14 := h9.bw.blk.c 14 _ rfl
     have q14 := h9.bw.blk.f 14 _ rfl
     have b8 := h9.bw.blk.c 8 _ rfl
     have q8 := h9.bw.blk.f 8 _ rfl
     have b9 := h9.bw.blk.c 9 _ rfl
     have q9 := h9.bw.blk.f 9 _ rfl
     have b10 := h9.bw.blk.c 10 _ rfl
     have q10 := h9.bw.blk.f 10 _ rfl
     have H9 := Vd h9
     have K9 := Vd k9
     have PB2 : F.b ≠ F.p := fun e => PB e.symm
     clear h9 k9 gs HA
     go_upto_region 12 with fail
     go_region
     go_upto_region 13 with fail
     go_region
     go_upto_region 14 with fail
     obtain ⟨V3, hV3⟩ : ∃ V3, V3 = (((((((w9.setCell ⟨F.b, 11, none⟩ (.int .i32 0)).setCell ⟨F.b, 12, none⟩ (.int .i32 0)).setCell ⟨F.b, 13, none⟩ (.int .u8 0)).setCell ⟨F.b, 14, none⟩ (.bool false)).setCell ⟨F.b, 9, none⟩ (.int .i64 0)).setCell ⟨F.b, 10, none⟩ (.int .i64 0)).setCell ⟨F.b, 8, none⟩ (.bool true)).drew.drew := ⟨_, rfl⟩
     rw [<- hV3]
     have R3 : Hid (FrSt F x.told (zM x true) false V3 /\ KeepT F.w0 V3 /\ F.w0.heap.size <= V3.heap.size) := Vd (by
      obtain ⟨a1, k1⟩ := H9.out.setW (told' := x.told) (t' := ⟨x.tel.place, x.tel.x, x.tel.y, ⟨0, x.tel.st.bg, x.tel.st.at_⟩, zB, zB ++ z8⟩) (shn' := x.shown) 11 (.int .i32 0) rfl rfl
      obtain ⟨a2, k2⟩ := a1.setW (told' := x.told) (t' := ⟨x.tel.place, x.tel.x, x.tel.y, ⟨0, 0, x.tel.st.at_⟩, zB, zB ++ z8⟩) (shn' := x.shown) 12 (.int .i32 0) rfl rfl
      obtain ⟨a3, k3⟩ := a2.setW (told' := x.told) (t' := ⟨x.tel.place, x.tel.x, x.tel.y, qd, zB, zB ++ z8⟩) (shn' := x.shown) 13 (.int .u8 0) rfl rfl
      obtain ⟨a4, k4⟩ := a3.setW (told' := x.told) (t' := ⟨x.tel.place, x.tel.x, x.tel.y, qd, zB, zB ++ z8⟩) (shn' := false) 14 (.bool false) rfl rfl
      obtain ⟨a5, k5⟩ := a4.setW (told' := x.told) (t' := ⟨x.tel.place, 0, x.tel.y, qd, zB, zB ++ z8⟩) (shn' := false) 9 (.int .i64 0) rfl rfl
      obtain ⟨a6, k6⟩ := a5.setW (told' := x.told) (t' := ⟨x.tel.place, 0, 0, qd, zB, zB ++ z8⟩) (shn' := false) 10 (.int .i64 0) rfl rfl
      obtain ⟨a7, k7⟩ := a6.setW (told' := x.told) (t' := ⟨true, 0, 0, qd, zB, zB ++ z8⟩) (shn' := false) 8 (.bool true) rfl rfl
      have dr : ∀ X : World, Below X.heap.size X X.drew.drew := fun X => (Below.refl _ X).drew.drew
      have kk := ((((((((KA.out.trans K9.out).trans k1).trans k2).trans k3).trans k4).trans k5).trans k6).trans k7)
      rw [zB_app] at a7
      rw [hV3]
      exact ⟨a7.below (dr _), kk.trans (KeepT.below (dr _)), (a7.below (dr _)).gr.size⟩)
     clear hV3 pc b11 q11 b12 q12 b13 q13 b14 q14 b8 q8 b9 q9 b10 q10 H9 K9 KA PB2
     obtain ⟨i0, hi0, hz0, hz1, hz2⟩ := info_parts infoL
     have c2 := R3.out.1.br.blk.c 2 _ rfl
     have NB : F.R.cells.length <= 1048576 := by
      rw [EQ.out]
      obtain ⟨r1, r2, _⟩ := z7 RR.out.1
      have := (qZ r1).2.2.2.2
      show R.cells.length <= 1048576
      omega
     obtain ⟨M, hM⟩ : ∃ M, M = F.R.cells.length := ⟨_, rfl⟩
     have HM := Vd hM
     rw [<- hM] at c2 NB
     clear hM
     have hmk1 : i0.bytes * M <= 281474976710656 := by rw [hz2]; omega
     have hmk2 : M <= maxLen := by unfold maxLen; omega
     have lo3 : F.o + 3 <= V3.heap.size := R3.out.1.sz
     go_wp2_with (at_make; refine wpList_make_full _ rfl _ _ _ rfl (F.o + 3) 58 i0 (.agg #[.string ⟨#[]⟩, .int .i8 0, .int .i32 0, .int .i32 0, .int .u8 0]) 5 Tryz.underlying22 hi0 hz0 hz1 .i64 .i64 M M M rfl rfl rfl rfl hmk1 hmk2 lo3 ?_; intro w2 hown hg2)
     have F0 : Hid (∃ xs, FillSt F x.told (zM x true) false F.w0 (F.o + 3) V3.heap.size M xs w2 /\ xs.take (0 * 5) = zc (List.replicate 0 qB)) := Vd ⟨_, ⟨R3.out.1.below ((Below.refl _ V3).grown hg2 Vf (by simp)), hown, R3.out.2.1.trans (KeepT.below ((Below.refl _ V3).grown hg2 Vf (by simp))), Nat.le_trans R3.out.2.2 hg2.size, R3.out.2.2, lo3⟩, by simp [zc]⟩
     obtain ⟨g2, hg⟩ : ∃ g2, g2 = V3.heap.size := ⟨_, rfl⟩
     rw [<- hg] at F0 ⊢
     clear hown hg2 c2 R3 hg lo3
     go_loopw [83] (fun i wr => ∃ k : Nat, k <= M /\ i = .int .i64 k /\ Hid (∃ xs, FillSt F x.told (zM x true) false F.w0 (F.o + 3) g2 M xs wr /\ xs.take (k * 5) = zc (List.replicate k qB))) (fun i _ => M - (intOf i).toNat)
     case atStart => exact ⟨0, Nat.zero_le _, rfl, F0⟩
     case round =>
      obtain ⟨k, hk, rfl, hf⟩ := hrel
      clear F0
      by_cases lt : k < M
      ·obtain ⟨xs, fs, tk⟩ := hf.out
       have FS := Vd fs
       have TK := Vd tk
       clear fs tk hf
       go_wp2_with fail
       refine (d_Blank0 wr).mono ?_; rintro e w3 ⟨rfl, hb3⟩
       have O3 := FS.out.below hb3
       have xl : xs.length = M * 5 := O3.own.1
       have rc : ∀ j, j < 5 -> ∃ v, xs[k * 5 + j]? = some v := fun j hj => ⟨_, List.getElem?_eq_getElem (by omega)⟩
       obtain ⟨v0, hv0⟩ := rc 0 (by decide)
       obtain ⟨v1, hv1⟩ := rc 1 (by decide)
       obtain ⟨v2, hv2⟩ := rc 2 (by decide)
       obtain ⟨v3, hv3⟩ := rc 3 (by decide)
       obtain ⟨v4, hv4⟩ := rc 4 (by decide)
       have y0 : w3.cell? ⟨g2, k * 5, none⟩ = some v0 := (O3.own.cellAt (k * 5) (by omega)).trans hv0
       have y1 : w3.cell? ⟨g2, k * 5 + 1, none⟩ = some v1 := (O3.own.cellAt (k * 5 + 1) (by omega)).trans hv1
       have y2 : w3.cell? ⟨g2, k * 5 + 2, none⟩ = some v2 := (O3.own.cellAt (k * 5 + 2) (by omega)).trans hv2
       have y3 : w3.cell? ⟨g2, k * 5 + 3, none⟩ = some v3 := (O3.own.cellAt (k * 5 + 3) (by omega)).trans hv3
       have y4 : w3.cell? ⟨g2, k * 5 + 4, none⟩ = some v4 := (O3.own.cellAt (k * 5 + 4) (by omega)).trans hv4
       have p0 := O3.own.frozenAt (k * 5)
       have p1 := O3.own.frozenAt (k * 5 + 1)
       have p2 := O3.own.frozenAt (k * 5 + 2)
       have p3 := O3.own.frozenAt (k * 5 + 3)
       have p4 := O3.own.frozenAt (k * 5 + 4)
       have NO : Hid (∃ xs, FillSt F x.told (zM x true) false F.w0 (F.o + 3) g2 M xs (((((w3.setCell ⟨g2, k * 5, none⟩ (.string ⟨#[32]⟩)).setCell ⟨g2, k * 5 + 1, none⟩ (.int .i8 1)).setCell ⟨g2, k * 5 + 2, none⟩ (.int .i32 0)).setCell ⟨g2, k * 5 + 3, none⟩ (.int .i32 0)).setCell ⟨g2, k * 5 + 4, none⟩ (.int .u8 0)) /\ xs.take ((k + 1) * 5) = zc (List.replicate (k + 1) qB)) := Vd (by
        refine ⟨_, ((((O3.store (k * 5) (.string ⟨#[32]⟩)).store (k * 5 + 1) (.int .i8 1)).store (k * 5 + 2) (.int .i32 0)).store (k * 5 + 3) (.int .i32 0)).store (k * 5 + 4) (.int .u8 0), ?_⟩
        rw [show (k + 1) * 5 = k * 5 + 5 by omega, set5 _ _ _ _ _ _ _ (by omega), TK.out, rep_snoc])
       clear O3 rc hv0 hv1 hv2 hv3 hv4 hb3 xl
       go_wp2_with fail
       go_roundw
       case rel => exact ⟨k + 1, by omega, by go_num, NO⟩
       case measure => simp [intOf]; omega
      ·have e : k = M := by omega
       subst e
       obtain ⟨xs, fs, tk⟩ := hf.out
       have xl : xs.length = k * 5 := fs.own.1
       rw [List.take_of_length_le (by omega)] at tk
       subst tk
       have LS : Hid (kO F x true F.w0 (some ⟨g2, 0, none⟩) k wr) := Vd (by
        have ow := fs.own
        refine ⟨by rw [Bool.not_true, Bool.and_false]; exact fs.st, ?_, HM.out, fs.keep, fs.size⟩
        have : qS x true F.R = List.replicate k qB := by unfold qS; rw [if_pos rfl, <- HM.out]
        rw [this]
        exact TRow.of_own ow)
       clear fs hf xl
       go_wp2_with fail
       go_meet
       exact ⟨_, _, _, rfl, LS⟩
   case rest =>
    obtain ⟨A1, M, c1, rfl, hl⟩ := hcut
    obtain ⟨wb, hwb⟩ : ∃ wb, wb = wc := ⟨_, rfl⟩
    rw [<- hwb] at hl ⊢
    have eR : F.R = R := by rw [EQ.out]
    have eA : F.RA = some ⟨g, 0, none⟩ := by rw [EQ.out]
    have U := Vd (fr_units F x G HG.out A1 c1 wb (by rw [eR]; exact RR.out.1) (by rw [eR]; exact RR.out.2) (fun e => (LR.out.2.1 e).1) LR.out.2.2.1 LR.out.2.2.2.1 LR.out.2.2.2.2 (by rw [eR, eA]; exact LR.out.1) M hl.out)
    have HB1 := Vd hl.out.1
    have r2 := HB1.out.br.blk.c 2 _ rfl
    clear hwb hl HA KA eR eA
    go_wp2_with fail
    refine U.out.mono ?_; rintro e w7 ⟨⟨v0, rfl⟩, h7, k7⟩
    have H7 := Vd h7
    have K7 := Vd k7
    clear h7 k7 r2 U HB1
    go_upto_region 21 with fail
    obtain ⟨T, hT⟩ : ∃ T, T = midT x F.R := ⟨_, rfl⟩
    have HT := Vd hT
    rw [<- hT] at H7
    obtain ⟨C, hC⟩ : ∃ C, C = goC T F.R := ⟨_, rfl⟩
    have HC := Vd hC
    have TB : T.out.size <= 2000000000 /\ T.text.size <= 400000000000 /\ 0 <= T.x /\ T.x <= 5000 := by
     rw [hT]
     have eR : F.R = R := by rw [EQ.out]
     rw [eR]
     exact Q5 RR.out.1 (fun e => (LR.out.2.1 e).1) LR.out.2.2.2.2 LR.out.2.2.1 LR.out.2.2.2.1 RR.out.2
    clear hT hC
    have gp := fun d os => (H7.out.bp.blk.regrown d os).c 0 _ rfl
    have g8 := fun d os => (H7.out.bw.blk.regrown d os).c 8 _ rfl
    have g9 := fun d os => (H7.out.bw.blk.regrown d os).c 9 _ rfl
    have g10 := fun d os => (H7.out.bw.blk.regrown d os).c 10 _ rfl
    have r3 := fun d os => (H7.out.br.blk.regrown d os).c 3 _ rfl
    have r4 := fun d os => (H7.out.br.blk.regrown d os).c 4 _ rfl
    have r5 := fun d os => (H7.out.br.blk.regrown d os).c 5 _ rfl
    go_cut [123] from 97 to 123 (fun s wx => s = .bool C /\ Hid (Below w7.heap.size w7 wx))
    case first =>
     --Q(
     unfold goC at HC
     simp only [<- vQ] at HC
     cases q0 : F.R.shown with
     | false =>
      rw [q0] at r5
      have RG : Hid (C = false) := Vd (by rw [HC.out, q0]; rfl)
      clear q0
      refine zn 26 [] [] (by kernel_rfl) (by kernel_rfl) (by kernel_rfl) (by intro t ht; cases ht) ?_
      simp only [Vg, Vh, Vi, Vj]
      repeat (refine ze (by rfl) (fun K hK => ?_); go_simp; first | (refine hK _ ?_; clear hK K) | (apply Exists.intro; refine ⟨fun _ => ?_, hK _ ?_⟩; (fail); clear hK K))
      refine zm ?_
      intro W8 vs8 hl hv
      have hb8 := Vd (zk.1 hl)
      clear hl hv
      simp only [zd]
      go_wp2_with fail
      go_meet
      exact ⟨by rw [RG.out], hb8⟩
     | true =>
      rw [q0] at r5
      cases q1 : T.place with
      | false =>
       rw [q1] at g8
       have RG : Hid (C = true) := Vd (by rw [HC.out, q0, q1]; rfl)
       clear q0 q1
       refine zn 26 [] [] (by kernel_rfl) (by kernel_rfl) (by kernel_rfl) (by intro t ht; cases ht) ?_
       simp only [Vg, Vh, Vi, Vj]
       repeat (refine ze (by rfl) (fun K hK => ?_); go_simp; first | (refine hK _ ?_; clear hK K) | (apply Exists.intro; refine ⟨fun _ => ?_, hK _ ?_⟩; (fail); clear hK K))
       refine zm ?_
       intro W8 vs8 hl hv
       have hb8 := Vd (zk.1 hl)
       clear hl hv
       simp only [zd]
       go_wp2_with fail
       go_meet
       exact ⟨by rw [RG.out], hb8⟩
      | true =>
       rw [q1] at g8
       cases q2 : (T.x != F.R.x) with
       | true =>
        have RG : Hid (C = true) := Vd (by rw [HC.out, q0, q1, q2]; rfl)
        clear q0 q1
        refine zn 26 [] [] (by kernel_rfl) (by kernel_rfl) (by kernel_rfl) (by intro t ht; cases ht) ?_
        simp only [Vg, Vh, Vi, Vj]
        repeat (refine ze (by rfl) (fun K hK => ?_); go_simp; first | (refine hK _ ?_; clear hK K) | (apply Exists.intro; refine ⟨fun _ => ?_, hK _ ?_⟩; (fail); clear hK K))
        refine zm ?_
        intro W8 vs8 hl hv
        have hb8 := Vd (zk.1 hl)
        clear hl hv
        simp only [zd]
        go_wp2_with fail
        go_meet
        exact ⟨by rw [RG.out], hb8⟩
       | false =>
        cases q3 : (T.y != F.R.y) with
        | true =>
         have RG : Hid (C = true) := Vd (by rw [HC.out, q0, q1, q2, q3]; rfl)
         clear q0 q1
         refine zn 26 [] [] (by kernel_rfl) (by kernel_rfl) (by kernel_rfl) (by intro t ht; cases ht) ?_
         simp only [Vg, Vh, Vi, Vj]
         repeat (refine ze (by rfl) (fun K hK => ?_); go_simp; first | (refine hK _ ?_; clear hK K) | (apply Exists.intro; refine ⟨fun _ => ?_, hK _ ?_⟩; (fail); clear hK K))
         refine zm ?_
         intro W8 vs8 hl hv
         have hb8 := Vd (zk.1 hl)
         clear hl hv
         simp only [zd]
         go_wp2_with fail
         go_meet
         exact ⟨by rw [RG.out], hb8⟩
        | false =>
         have RG : Hid (C = false) := Vd (by rw [HC.out, q0, q1, q2, q3]; rfl)
         clear q0 q1
         refine zn 26 [] [] (by kernel_rfl) (by kernel_rfl) (by kernel_rfl) (by intro t ht; cases ht) ?_
         simp only [Vg, Vh, Vi, Vj]
         repeat (refine ze (by rfl) (fun K hK => ?_); go_simp; first | (refine hK _ ?_; clear hK K) | (apply Exists.intro; refine ⟨fun _ => ?_, hK _ ?_⟩; (fail); clear hK K))
         refine zm ?_
         intro W8 vs8 hl hv
         have hb8 := Vd (zk.1 hl)
         clear hl hv
         simp only [zd]
         go_wp2_with fail
         go_meet
         exact ⟨by rw [RG.out], hb8⟩
     --)Q
    case rest =>
     obtain ⟨rfl, hbc⟩ := hcut
     obtain ⟨wd, hwd⟩ : ∃ wd, wd = wc := ⟨_, rfl⟩
     rw [<- hwd] at hbc ⊢
     have HA := Vd (H7.out.below hbc.out)
     have KA := Vd (K7.out.trans (KeepT.below hbc.out))
     clear hwd hbc gp g8 g9 g10 r3 r4 r5 H7 K7
     obtain ⟨T2, hT2⟩ : ∃ T2, T2 = zy T F.R := ⟨_, rfl⟩
     have HT2 := Vd hT2
     have TB2 : T2.out.size <= 2000000100 /\ T2.text.size <= 400000000000 /\ 0 <= T2.x /\ T2.x <= 5000 := by
      rw [hT2]
      have eR : F.R = R := by rw [EQ.out]
      rw [eR]
      exact Q6 RR.out.1 TB.1 TB.2.1 TB.2.2.1 TB.2.2.2
     clear hT2
     go_upto_if 123 with fail
     go_cut [] from 97 to 129 (fun wx => Hid (FrSt F x.told T2 (x.shown && !G) wx /\ KeepT F.w0 wx))
     case first =>
      have r3 := HA.out.br.blk.c 3 _ rfl
      have r4 := HA.out.br.blk.c 4 _ rfl
      have bm := HA.out.bm.blk.c 0 _ rfl
      have TO := TB.1
      cases C with
      | false =>
       have R9 := Vd (show FrSt F x.told T2 (x.shown && !G) wd /\ KeepT F.w0 wd from ⟨by rw [HT2.out, show zy T F.R = T from if_neg (by rw [show (F.R.shown && (!T.place || decide (T.x ≠ F.R.x) || decide (T.y ≠ F.R.y))) = false from HC.out.symm]; decide)]; exact HA.out, KA.out⟩)
       clear HC HT2
       go_wp2_with fail
       go_meet
       exact R9
      | true =>
       have RB : 0 <= F.R.x /\ F.R.x <= 5000 /\ 0 <= F.R.y /\ F.R.y <= 5000 := by
        have eR : F.R = R := by rw [EQ.out]
        have g := HC.out.symm
        unfold goC at g
        simp only [Bool.and_eq_true] at g
        obtain ⟨r1, _, _, q4⟩ := z7 RR.out.1
        have sz := qZ r1
        rw [eR] at g ⊢
        unfold qN at q4
        rw [if_pos g.1] at q4
        simp only [Bool.and_eq_true, decide_eq_true_eq] at q4
        omega
       have MV : Hid (T2 = jz T F.R.x F.R.y) := Vd (by rw [HT2.out]; exact if_pos HC.out.symm)
       clear HC HT2
       go_wp2_with fail
       refine (f_move F x.told T (x.shown && !G) wd HA.out F.R.x F.R.y (by omega) (by omega) (by omega) (by omega) (by omega)).mono ?_; rintro e w9 ⟨⟨v, rfl⟩, h9, k9⟩
       rw [<- MV.out] at h9
       have R9 := Vd (show FrSt F x.told T2 (x.shown && !G) w9 /\ KeepT F.w0 w9 from ⟨h9, KA.out.trans k9⟩)
       clear h9 k9
       go_wp2_with fail
       go_meet
       exact R9
     case rest =>
      obtain ⟨we, hwe⟩ : ∃ we, we = wc := ⟨_, rfl⟩
      rw [<- hwe] at hcut ⊢
      have H2 := Vd hcut.out.1
      have K2 := Vd hcut.out.2
      clear hwe hcut HA KA
      obtain ⟨sh, hsh⟩ : ∃ sh, sh = (x.shown && !G) := ⟨_, rfl⟩
      have HSH := Vd hsh
      rw [<- hsh] at H2
      clear hsh
      obtain ⟨D, hD⟩ : ∃ D, D = (F.R.shown && !sh) := ⟨_, rfl⟩
      have HD := Vd hD
      have HD2 : Hid (∀ a b, F.R.shown = a -> sh = b -> D = (a && !b)) := Vd (by rintro _ _ rfl rfl; exact hD)
      clear hD
      have pc := H2.out.bp.blk.c 0 _ rfl
      have b14 := H2.out.bw.blk.c 14 _ rfl
      have r5 := H2.out.br.blk.c 5 _ rfl
      go_upto_region 23 with fail
      go_cut [138] from 130 to 138 (fun s wx => s = .bool D /\ wx = we)
      case first =>
       cases q0 : F.R.shown with
       | false =>
        rw [q0] at r5
        have RG : Hid (D = false) := Vd (HD2.out false _ q0 rfl)
        clear q0 HD2
        go_wp2_with fail
        go_meet
        exact ⟨by rw [RG.out], rfl⟩
       | true =>
        rw [q0] at r5
        cases q1 : sh with
        | false =>
         rw [q1] at b14
         have RG : Hid (D = true) := Vd (HD2.out true false q0 q1)
         clear q0 q1 HD2
         go_wp2_with fail
         go_meet
         exact ⟨by rw [RG.out], rfl⟩
        | true =>
         rw [q1] at b14
         have RG : Hid (D = false) := Vd (HD2.out true true q0 q1)
         clear q0 q1 HD2
         go_wp2_with fail
         go_meet
         exact ⟨by rw [RG.out], rfl⟩
      case rest =>
       obtain ⟨rfl, rfl⟩ := hcut
       clear HD2
       obtain ⟨T3, hT3⟩ : ∃ T3, T3 = if D = true then seqT T2 jj else T2 := ⟨_, rfl⟩
       have HT3 := Vd hT3
       have TB3 : T3.out.size <= 2000000200 /\ T3.text.size <= 400000000000 /\ T3.x = T2.x := by
        rw [hT3]
        split
        ·exact ⟨by show (T2.out ++ jj).size <= _; rw [ByteArray.size_append, vO]; omega, Nat.zero_le _, rfl⟩
        ·exact ⟨by omega, by omega, rfl⟩
       clear hT3
       go_upto_if 138 with fail
       go_cut [] from 130 to 140 (fun wx => Hid (FrSt F x.told T3 sh wx /\ KeepT F.w0 wx))
       case first =>
        have bs := H2.out.bs.blk.c 0 _ rfl
        have TO := TB2.1
        cases D with
        | false =>
         have R9 := Vd (show FrSt F x.told T3 sh wc /\ KeepT F.w0 wc from ⟨by rw [HT3.out]; exact H2.out, K2.out⟩)
         clear HD HT3
         go_wp2_with fail
         go_meet
         exact R9
        | true =>
         have MV : Hid (T3 = seqT T2 jj) := Vd (by rw [HT3.out]; rfl)
         clear HD HT3
         go_wp2_with fail
         refine (xT F x.told T2 sh wc H2.out jj (by rw [vO]; omega)).mono ?_; rintro e w9 ⟨⟨v, rfl⟩, h9, k9⟩
         rw [<- MV.out] at h9
         have R9 := Vd (show FrSt F x.told T3 sh w9 /\ KeepT F.w0 w9 from ⟨h9, K2.out.trans k9⟩)
         clear h9 k9
         go_wp2_with fail
         go_meet
         exact R9
       case rest =>
        obtain ⟨wf, hwf⟩ : ∃ wf, wf = wc := ⟨_, rfl⟩
        rw [<- hwf] at hcut ⊢
        have H3 := Vd hcut.out.1
        have K3 := Vd hcut.out.2
        clear hwf hcut H2 K2 pc b14 r5
        obtain ⟨D2, hD2⟩ : ∃ D2, D2 = (!F.R.shown && sh) := ⟨_, rfl⟩
        have HD2 := Vd hD2
        have HD3 : Hid (∀ a b, F.R.shown = a -> sh = b -> D2 = (!a && b)) := Vd (by rintro _ _ rfl rfl; exact hD2)
        clear hD2
        have pc := H3.out.bp.blk.c 0 _ rfl
        have b14 := H3.out.bw.blk.c 14 _ rfl
        have r5 := H3.out.br.blk.c 5 _ rfl
        go_upto_region 25 with fail
        go_cut [149] from 141 to 149 (fun s wx => s = .bool D2 /\ wx = wf)
        case first =>
         cases q0 : F.R.shown with
         | true =>
          rw [q0] at r5
          have RG : Hid (D2 = false) := Vd (HD3.out true _ q0 rfl)
          clear q0 HD3
          go_wp2_with fail
          go_meet
          exact ⟨by rw [RG.out], rfl⟩
         | false =>
          rw [q0] at r5
          cases q1 : sh with
          | false =>
           rw [q1] at b14
           have RG : Hid (D2 = false) := Vd (HD3.out false false q0 q1)
           clear q0 q1 HD3
           go_wp2_with fail
           go_meet
           exact ⟨by rw [RG.out], rfl⟩
          | true =>
           rw [q1] at b14
           have RG : Hid (D2 = true) := Vd (HD3.out false true q0 q1)
           clear q0 q1 HD3
           go_wp2_with fail
           go_meet
           exact ⟨by rw [RG.out], rfl⟩
        case rest =>
         obtain ⟨rfl, rfl⟩ := hcut
         clear HD3
         obtain ⟨T4, hT4⟩ : ∃ T4, T4 = if D2 = true then seqT T3 jy else T3 := ⟨_, rfl⟩
         have HT4 := Vd hT4
         have TB4 : T4.text.size <= 400000000000 /\ T4.x = T2.x := by
          rw [hT4]
          split
          ·exact ⟨Nat.zero_le _, TB3.2.2⟩
          ·exact ⟨TB3.2.1, TB3.2.2⟩
         clear hT4
         go_upto_if 149 with fail
         go_cut [] from 141 to 151 (fun wx => Hid (FrSt F x.told T4 sh wx /\ KeepT F.w0 wx))
         case first =>
          have bs := H3.out.bs.blk.c 0 _ rfl
          have TO := TB3.1
          cases D2 with
          | false =>
           have R9 := Vd (show FrSt F x.told T4 sh wc /\ KeepT F.w0 wc from ⟨by rw [HT4.out]; exact H3.out, K3.out⟩)
           clear HD2 HT4
           go_wp2_with fail
           go_meet
           exact R9
          | true =>
           have MV : Hid (T4 = seqT T3 jy) := Vd (by rw [HT4.out]; rfl)
           clear HD2 HT4
           go_wp2_with fail
           refine (xT F x.told T3 sh wc H3.out jy (by rw [QX]; omega)).mono ?_; rintro e w9 ⟨⟨v, rfl⟩, h9, k9⟩
           rw [<- MV.out] at h9
           have R9 := Vd (show FrSt F x.told T4 sh w9 /\ KeepT F.w0 w9 from ⟨h9, K3.out.trans k9⟩)
           clear h9 k9
           go_wp2_with fail
           go_meet
           exact R9
         case rest =>
          obtain ⟨wg, hwg⟩ : ∃ wg, wg = wc := ⟨_, rfl⟩
          rw [<- hwg] at hcut ⊢
          have H4 := Vd hcut.out.1
          have K4 := Vd hcut.out.2
          have FT : Hid (T4 = zJ x F.R) := Vd (by
           rw [HT4.out, HD2.out, HT3.out, HD.out, HT2.out, HT.out, HSH.out, HG.out]
           unfold zJ qD midT
           generalize zy (zV F.R.w F.R.cells (zM x (newB x F.R)) (zg 0 (qS x (newB x F.R) F.R) F.R.cells)) F.R = t
           cases F.R.shown <;> cases (x.shown && !newB x F.R) <;> rfl)
          clear hwg hcut H3 K3 pc b14 r5 HT4 HD2 HT3 HD HT2 HT HSH HC
          have pc := H4.out.bp.blk.c 0 _ rfl
          have b14 := H4.out.bw.blk.c 14 _ rfl
          have q14 := H4.out.bw.blk.f 14 _ rfl
          have b1 := H4.out.bw.blk.c 1 _ rfl
          have q1 := H4.out.bw.blk.f 1 _ rfl
          have b2 := H4.out.bw.blk.c 2 _ rfl
          have q2 := H4.out.bw.blk.f 2 _ rfl
          have b3 := H4.out.bw.blk.c 3 _ rfl
          have q3 := H4.out.bw.blk.f 3 _ rfl
          have b4 := H4.out.bw.blk.c 4 _ rfl
          have q4 := H4.out.bw.blk.f 4 _ rfl
          have b5 := H4.out.bw.blk.c 5 _ rfl
          have q5 := H4.out.bw.blk.f 5 _ rfl
          have b6 := H4.out.bw.blk.c 6 _ rfl
          have q6 := H4.out.bw.blk.f 6 _ rfl
          have b7 := H4.out.bw.blk.c 7 _ rfl
          have q7 := H4.out.bw.blk.f 7 _ rfl
          have r0 := H4.out.br.blk.c 0 _ rfl
          have r1 := H4.out.br.blk.c 1 _ rfl
          have r2 := H4.out.br.blk.c 2 _ rfl
          have r3 := H4.out.br.blk.c 3 _ rfl
          have r4 := H4.out.br.blk.c 4 _ rfl
          have r5 := H4.out.br.blk.c 5 _ rfl
          have PB2 : F.b ≠ F.p := fun e => PB e.symm
          have RB2 : F.b ≠ F.r := fun e => RB e.symm
          go_upto_region 27 with fail
          go_region
          go_upto_region 28 with fail
          obtain ⟨V9, hV9⟩ : ∃ V9, V9 = ((((((((wg.setCell ⟨F.b, 14, none⟩ (.bool F.R.shown)).setCell ⟨F.b, 1, none⟩ (.bool true)).setCell ⟨F.b, 2, none⟩ (.int .i64 F.R.w)).setCell ⟨F.b, 3, none⟩ (.int .i64 F.R.h)).setCell ⟨F.b, 4, none⟩ (.slice F.RA F.R.cells.length F.Rc)).setCell ⟨F.b, 5, none⟩ (.int .i64 F.R.x)).setCell ⟨F.b, 6, none⟩ (.int .i64 F.R.y)).setCell ⟨F.b, 7, none⟩ (.bool F.R.shown)).drew := ⟨_, rfl⟩
          rw [<- hV9]
          have dr : ∀ X : World, Below X.heap.size X X.drew := fun X => (Below.refl _ X).drew
          have OW : Hid (Own1 V9 F.b (wriV F.d true F.R.w F.R.h F.RA F.R.cells.length F.Rc F.R.x F.R.y F.R.shown T4 F.R.shown) 86) := Vd (by
           rw [hV9]
           exact ((((((((H4.out.bw.set 14 (.bool F.R.shown)).set 1 (.bool true)).set 2 (.int .i64 F.R.w)).set 3 (.int .i64 F.R.h)).set 4 (.slice F.RA F.R.cells.length F.Rc)).set 5 (.int .i64 F.R.x)).set 6 (.int .i64 F.R.y)).set 7 (.bool F.R.shown)).below (dr _))
          have GW : wg.grownBy V9 (some F.b) := by
           rw [hV9]
           have st : ∀ (X : World) (i : Nat) (y : Value), X.grownBy (X.setCell ⟨F.b, i, none⟩ y) (some F.b) := fun X i y => zA X ⟨F.b, i, none⟩ y
           exact qn (qn (qn (qn (qn (qn (qn (qn (st _ _ _) (st _ _ _)) (st _ _ _)) (st _ _ _)) (st _ _ _)) (st _ _ _)) (st _ _ _)) (st _ _ _)) (qU (dr _) _)
          have KW : Hid (KeepT F.w0 V9) := Vd (K4.out.trans (KeepT.grown GW (fun b' e arr fl hk => by
           cases e
           have h := H4.out.bw
           unfold Own1 at h
           rw [h] at hk
           cases hk)))
          have GA := Vd (qn H4.out.gr GW)
          obtain ⟨v, hv, hrow⟩ := H4.out.bo
          have lo := H4.out.ok.bo
          have so : F.o = F.w0.heap.size := rfl
          have hv9 := (hv.kept GW (by intro e; have := Option.some.inj e; omega)).cell
          have hr9 := hrow.kept GW (by
           rcases hrow.2 with ⟨rfl, _⟩ | ⟨g', cap, cur, rfl, hb, _⟩
           ·exact Or.inl rfl
           ·refine Or.inr (fun q => ?_)
            have := Option.some.inj q
            simp only at this
            omega)
          obtain ⟨A0, c0, rfl⟩ := qT hr9
          have hr9 := Vd hr9
          have PL : F.p < F.w0.heap.size := H4.out.ok.bp.lt
          have SO := Vd so
          clear so
          clear hV9 GW hv hrow dr pc b14 q14 b1 q1 b2 q2 b3 q3 b4 q4 b5 q5 b6 q6 b7 q7 r0 r1 r2 r3 r4 r5
          go_wp2_with fail
          go_ret2
          refine (FW.out _ _).2 ⟨_, F.RA, F.Rc, rfl, ?_, ?_, ?_, fun a ha => (by rw [EQ.out] at ha; injection ha with ha; rw [<- ha]; exact HGQ.out)⟩
          ·have eR : F.R = R := by rw [EQ.out]
           rw [<- eR, <- FT.out]
           exact jf hr9.out (by have := SO.out; rw [EP.out]; omega)
          ·have eR : F.R = R := by rw [EQ.out]
           have ed : F.d = x.depth := by rw [EQ.out]
           have eA : F.RA = some ⟨g, 0, none⟩ := by rw [EQ.out]
           rw [<- eR, <- FT.out, <- ed, SH.out, EB.out, <- eR]
           refine ⟨OW.out, fun _ => ⟨?_, ?_⟩, ?_, TB4.1⟩
           ·show zi F.R = true
            rw [eR]; exact RR.out.1
           ·show TRow V9 F.RA F.R.cells
            rw [eA, eR]; exact LR.out.1.stay KW.out
           ·show 0 <= T4.x /\ T4.x <= 5000
            omega
          ·rw [EB.out]
           exact qn (qU BW.out _) GA.out
theorem d_Frame (b : Nat) (x : Wri) (LA : Option Addr) (Lc : Nat) (s : Scr) (A : Option Addr) (c : Nat) (w : World) (E : EnvD w) (nb : b ≠ 1 /\ b ≠ 0 /\ b ≠ 2) (hx : WrAt w b x LA Lc) (hs : ScrAt w w.heap.size s A c) (hr : zi s = true) (ht : totS s.cells <= 1000000000) :
  Calls Tryz.prog 27 #[.pointer (some ⟨b, 0, none⟩), scrV s A c] w (FrRet b x s w) :=
 (Q7 b x LA Lc s A c w E nb hx hs hr ht).mono fun e w' ⟨v, A', c', h1, h2, h3, h4, _⟩ => ⟨v, A', c', h1, h2, h3, h4⟩
end
section
open Go Go.RowKit Go.Sort
section
theorem Ka (L : List Cel) : ∀ u ∈ zc L, u.oneCell' = true := fun u hu => by
 obtain ⟨x, _, hx⟩ := List.mem_flatMap.1 hu
 simp [celV] at hx
 rcases hx with rfl | rfl | rfl | rfl | rfl <;> rfl
theorem Q8 {w : World} {LO n c B m : Nat} {A A2 : Option Addr} {c2 : Nat} {xs : List Value} {L : List Cel} (o : w.ownsRow LO 58 5 (.slice A n c) n xs) (hm : m = L.length) (S : Sees w B A2 (zc L)) (hA : A2 = none -> c2 = 0) (cap : m <= c2) (hLO : LO <= w.heap.size) (len : n + m <= 1000000000000) :
  ∃ A' c' w3, (Builtin.append_ #[22, 22] 22 #[.slice A n c, .slice A2 m c2]).run Tryz.prog w = .ok (.slice A' (n + m) c') w3 /\
   w3.ownsRow LO 58 5 (.slice A' (n + m) c') (n + m) (xs ++ zc L) /\ w.grownBy w3 (Value.slice A n c).ownBlock := by
 obtain ⟨i0, hi0, hzz⟩ := Option.map_eq_some_iff.1 QN
 simp only [Prod.mk.injEq] at hzz
 obtain ⟨hz0, hz1, hz2⟩ := hzz
 obtain ⟨z0, hz3, hz4⟩ := Option.map_eq_some_iff.1 hz0
 cases A2 with
 | none =>
  have c0 : c2 = 0 := hA rfl
  have m0 : m = 0 := by omega
  subst c0
  subst m0
  have l0 : L = [] := List.eq_nil_of_length_eq_zero hm.symm
  subst l0
  refine ⟨A, c, w, ?_, by simpa [zc] using o, ⟨rfl, rfl, rfl, Vf, fun _ _ _ => rfl⟩⟩
  exact run_append_owned_none (P := Tryz.prog) (w := w) LO 22 22 58 i0 5 Tryz.underlying22 hi0 _ _ _ o
 | some ad =>
  have hn : ∀ j u, (zc L)[j]? = some u -> w.cell? (ad.add j) = some u := fun j u hj => by
   obtain ⟨a', e, _, k⟩ := S (fun z => by rw [z] at hj; simp at hj)
   cases e
   exact k j u hj
  obtain ⟨v', w3, r1, r2, r3, r4⟩ := run_append_own (P := Tryz.prog) w LO 22 22 58 i0 z0 5 32 Tryz.underlying22 hi0 hz3 hz1 hz2 (by rw [hz4]; rfl) (by decide) _ n xs o ad m c2 (zc L) (by rw [jo, hm]) hn (Ka L) (by unfold maxLen; omega) (by omega) hLO
  obtain ⟨A', c', e⟩ := QO r2
  subst e
  exact ⟨A', c', w3, r1, r2, r3⟩
def bhC : Cel := ⟨⟨#[98, 101, 104, 105, 110, 100]⟩, 0, qd⟩
def biC : Cel := ⟨⟨#[98, 101, 104, 105, 110, 100, 32, 105, 116]⟩, 0, qd⟩
def LentR (w : World) (s : Scr) (e : Ending) (w' : World) : Prop := ∃ g c', e = .returned (.tuple #[scrV s (some ⟨g, 0, none⟩) c', .slice (some ⟨g, 0, none⟩) (s.cells.length + 2) c']) /\ w'.ownsRow w.heap.size 58 5 (.slice (some ⟨g, 0, none⟩) (s.cells.length + 2) c') (s.cells.length + 2) (zc (s.cells ++ [bhC, biC])) /\ Below w.heap.size w w'
set_option maxHeartbeats 16000000 in
set_option maxRecDepth 100000 in
theorem law_lent (s : Scr) (A : Option Addr) (c : Nat) (hcp : s.cells.length <= c) (hA : A = none -> c = 0) (hl : s.cells.length <= 1000000000) (w : World) (S : Sees w w.heap.size A (zc s.cells)) :
  Calls Tryz.prog 8 #[scrV s A c] w (LentR w s) := by
 obtain ⟨Q0, hQ0⟩ : ∃ Q0, Q0 = w.alloc (.cells #[.int .i64 s.w, .int .i64 s.h, .slice A s.cells.length c, .int .i64 s.x, .int .i64 s.y, .bool s.shown] 24) := ⟨_, rfl⟩
 have B0 : Below w.heap.size w Q0 := by rw [hQ0]; exact (Below.refl _ w).alloc Vf _
 have K0 : Blk Q0 w.heap.size [.int .i64 s.w, .int .i64 s.h, .slice A s.cells.length c, .int .i64 s.x, .int .i64 s.y, .bool s.shown] := by rw [hQ0]; exact Blk.new w _ _
 have z0 : Q0.heap.size = w.heap.size + 1 := by rw [hQ0]; simp
 obtain ⟨Q, hQ⟩ : ∃ Q, Q = Q0.alloc (.cells #[.int .i64 0, .int .i64 0, .slice none 0 0, .int .i64 0, .int .i64 0, .bool false] 24) := ⟨_, rfl⟩
 have B1 : Below Q0.heap.size Q0 Q := by rw [hQ]; exact (Below.refl _ Q0).alloc Vf _
 have KA : Blk Q w.heap.size [.int .i64 s.w, .int .i64 s.h, .slice A s.cells.length c, .int .i64 s.x, .int .i64 s.y, .bool s.shown] := K0.keep B1 (by omega)
 have KB : Blk Q (w.heap.size + 1) [.int .i64 0, .int .i64 0, .slice none 0 0, .int .i64 0, .int .i64 0, .bool false] := by rw [hQ, <- z0]; exact Blk.new Q0 _ _
 have z1 : Q.heap.size = w.heap.size + 2 := by rw [hQ]; simp [z0]
 have BQ := B0.trans (B1.mono B0.size)
 have SQ := (S.below BQ Vf).more BQ.size
 obtain ⟨A1, c1, W1, R1, o1, g1⟩ := Q8 (World.ownsRow_nil Q Q.heap.size 58 5) rfl SQ hA hcp Vf (by omega)
 have b1 : Below Q.heap.size Q W1 := (Below.refl _ Q).grown g1 Vf (fun k hk => by simp [Value.ownBlock] at hk)
 have HQ := Vd (show Q = (w.alloc (.cells #[.int .i64 s.w, .int .i64 s.h, .slice A s.cells.length c, .int .i64 s.x, .int .i64 s.y, .bool s.shown] 24)).alloc (.cells #[.int .i64 0, .int .i64 0, .slice none 0 0, .int .i64 0, .int .i64 0, .bool false] 24) by rw [hQ, hQ0])
 have HBQ := Vd BQ
 have ZS := Vd z1
 rw [Nat.zero_add] at R1 o1
 rw [List.nil_append] at o1
 obtain ⟨V1, hV1⟩ : ∃ V1, V1 = W1.alloc (.cells (zc [bhC, biC]).toArray 58) := ⟨_, rfl⟩
 have bv : Below W1.heap.size W1 V1 := by rw [hV1]; exact (Below.refl _ W1).alloc Vf _
 have SB : Sees V1 V1.heap.size (some ⟨W1.heap.size, 0, none⟩) (zc [bhC, biC]) := by
  rw [hV1]
  exact fun _ => ⟨_, rfl, by simp, fun j u hj => qL W1 (zc [bhC, biC]) _ j u hj⟩
 obtain ⟨A2, c2, W2, R2, o2, g2⟩ := Q8 (m := 2) (c2 := 2) (jG o1 bv) rfl SB (fun z => by cases z) Vf (Nat.le_trans b1.size bv.size) (by omega)
 have b2 : Below Q.heap.size Q W2 := (b1.trans (bv.mono b1.size)).grown g2 (Nat.le_trans b1.size bv.size) (fun k hk => ((jG o1 bv).lt k hk).1)
 rw [<- xq] at o2
 obtain ⟨g, e2, hcap, hlo⟩ : ∃ g, A2 = some ⟨g, 0, none⟩ /\ s.cells.length + 2 <= c2 /\ Q.heap.size <= g := by
  rcases o2.2 with ⟨z, n0⟩ | ⟨g, cap, cur, z, hb, _, hn, _⟩
  ·omega
  ·injection z with z1 z2 z3; exact ⟨g, z1, by omega, hb⟩
 subst e2
 have KA1 := KA.keep b1 (by omega)
 have KA2 := KA.keep b2 (by omega)
 have KB2 := KB.keep b2 (by omega)
 have q2 := KA.c 2 _ rfl
 have HV1 := Vd hV1
 have HO2 := Vd o2
 have HB2 := Vd b2
 have HLO := Vd hlo
 have HA2 := Vd KA2
 have HB2K := Vd KB2
 obtain ⟨n, hn⟩ : ∃ n, n = s.cells.length := ⟨_, rfl⟩
 have HN := Vd hn
 simp only [scrV]
 unfold LentR
 simp only [scrV]
 rw [<- hn] at R1 R2 hcap q2 hl HA2 HQ HO2 ⊢
 clear hQ hQ0 B0 B1 K0 KA KB z0 z1 BQ SQ S hA hcp o1 g1 b1 hV1 bv SB o2 g2 b2 hlo KA1 KA2 KB2 hn
 have w2 : (Builtin.append_ #[22, 22] 22 #[.slice A1 n c1, .slice (some ⟨W1.heap.size, 0, none⟩) 2 2]).run Tryz.prog (W1.alloc (.cells #[.string bhC.text, .int .i8 0, .int .i32 0, .int .i32 0, .int .u8 0, .string biC.text, .int .i8 0, .int .i32 0, .int .i32 0, .int .u8 0] 58)) = .ok (.slice (some ⟨g, 0, none⟩) (n + 2) c2) W2 := by
  rw [HV1.out] at R2
  exact R2
 clear R2 HV1
 go_enter Tryz.func8, Tryz.ntmps8
 go_upto_region 1 with fail
 rw [<- HQ.out]
 clear HQ
 go_upto_region 3 with (first | (at_builtin; refine jr rfl (.tmp 5) (.tmp 7) 22 22 rfl _ _ _ _ rfl rfl R1 ?_) | fail)
 clear R1 q2
 go_upto_region 4 with (first | (at_builtin; refine jr rfl (.tmp 9) (.tmp 12) 22 22 rfl _ _ _ _ rfl rfl w2 ?_) | fail)
 clear w2
 have a2 := HA2.out.c 2 _ rfl
 have f2 := HA2.out.f 2 _ rfl
 have p0 : (0 : Int) <= (n : Int) := by omega
 have p1 : (n : Int) <= (c2 : Int) := by omega
 have p2 : (n : Int).toNat = n := by omega
 obtain ⟨V, hV⟩ : ∃ V, V = W2.setCell ⟨w.heap.size, 2, none⟩ (.slice (some ⟨g, 0, none⟩) n c2) := ⟨_, rfl⟩
 have KV : Blk V w.heap.size [.int .i64 s.w, .int .i64 s.h, .slice (some ⟨g, 0, none⟩) n c2, .int .i64 s.x, .int .i64 s.y, .bool s.shown] := by rw [hV]; exact HA2.out.set 2 _ _ rfl
 have KW : Blk V (w.heap.size + 1) [.int .i64 0, .int .i64 0, .slice none 0 0, .int .i64 0, .int .i64 0, .bool false] := by rw [hV]; exact HB2K.out.far (by omega)
 have BV : Below w.heap.size w V := by rw [hV]; exact (HBQ.out.trans (HB2.out.mono HBQ.out.size)).setCell (p := ⟨w.heap.size, 2, none⟩) Vf _
 have HOV : Hid (V.ownsRow Q.heap.size 58 5 (.slice (some ⟨g, 0, none⟩) (n + 2) c2) (n + 2) (zc (s.cells ++ [bhC, biC]))) := Vd (by rw [hV]; exact vI HO2.out (by show w.heap.size < _; rw [ZS.out]; omega) _)
 have HV := Vd hV
 have HBV := Vd BV
 have HZQ : Hid (w.heap.size + 1 < Q.heap.size) := Vd (by rw [ZS.out]; omega)
 have kv0 := KV.c 0 _ rfl
 have kv1 := KV.c 1 _ rfl
 have kv2 := KV.c 2 _ rfl
 have kv3 := KV.c 3 _ rfl
 have kv4 := KV.c 4 _ rfl
 have kv5 := KV.c 5 _ rfl
 have kw0 := KW.c 0 _ rfl
 have kw1 := KW.c 1 _ rfl
 have kw2 := KW.c 2 _ rfl
 have kw3 := KW.c 3 _ rfl
 have kw4 := KW.c 4 _ rfl
 have kw5 := KW.c 5 _ rfl
 have fw0 := KW.f 0 _ rfl
 have fw1 := KW.f 1 _ rfl
 have fw2 := KW.f 2 _ rfl
 have fw3 := KW.f 3 _ rfl
 have fw4 := KW.f 4 _ rfl
 have fw5 := KW.f 5 _ rfl
 clear hV KV KW BV HO2 HB2 HA2 HB2K
 go_upto_region 5 with fail
 rw [<- HV.out]
 clear HV a2 f2
 go_wp2_with fail
 refine bodyPost_ret (v := .tuple #[.agg #[.int .i64 s.w, .int .i64 s.h, .slice (some ⟨g, 0, none⟩) n c2, .int .i64 s.x, .int .i64 s.y, .bool s.shown], .slice (some ⟨g, 0, none⟩) (n + 2) c2]) (by simp [results, Tryz.results8, go_sem, *]) rfl ?_
 refine ⟨g, c2, rfl, ?_, ?_⟩
 ·refine je (base := Q.heap.size) ?_ (by have := HZQ.out; omega)
  repeat (refine vI ?_ HZQ.out _)
  exact HOV.out
 ·repeat (refine Below.setCell ?_ (p := ⟨w.heap.size + 1, _, none⟩) (Nat.le_succ _) _)
  exact HBV.out
end
end
end Go.Proofs.YtifoijbpbigaaaaGreatDoor
