/- The document's writer in memory: tell, unit (walk). -/
import Derived.Test.YtifoijbpbigaaaaGreatDoorFRcA
import Derived.Test.YtifoijbpbigaaaaGreatDoorFRcB
import Derived.Test.YtifoijbpbigaaaaGreatDoorDaFG
import Derived.Test.YtifoijbpbigaaaaGreatDoorDaFH
set_option linter.unusedVariables false
set_option linter.unusedSimpArgs false
namespace Go.Proofs.YtifoijbpbigaaaaGreatDoor
section
open Go Go.RowKit Go.Sort
section
structure Rfx where
 d : Int
 told : Bool
 LW : Int
 LH : Int
 LA : Option Addr
 Ln : Nat
 Lc : Nat
 LX : Int
 LY : Int
 Ls : Bool
def refV (P : Rfx) (t : Tel) (shn : Bool) : List Value :=
 [.int .i64 P.d, .bool P.told, .int .i64 P.LW, .int .i64 P.LH, .slice P.LA P.Ln P.Lc, .int .i64 P.LX, .int .i64 P.LY, .bool P.Ls, .bool t.place, .int .i64 t.x, .int .i64 t.y, .int .i32 t.st.fg, .int .i32 t.st.bg, .int .u8 (bI t.st.at_), .bool shn, .string t.text, .string t.out]
def qo (t : Tel) (s : ByteArray) : Tel := if s = zB then t else seqT t s
theorem str_eqz (s : ByteArray) (h : s = zB) : (s.toList == ([] : List UInt8)) = true := by rw [(vC s).2 h]; rfl
set_option maxHeartbeats 16000000 in
set_option maxRecDepth 100000 in
theorem Zb (P : Rfx) (t : Tel) (shn : Bool) (b : Nat) (s : ByteArray) (W : World) (h : Own1 W b (refV P t shn) 93) (hs : t.out.size + s.size <= 100000000000000) :
  Calls Tryz.prog 52 #[.pointer (some ⟨b, 0, none⟩), .string s] W fun e w' => (∃ v, e = .returned v) /\ Own1 w' b (refV P (qo t s) shn) 93 /\ W.grownBy w' (some b) := by
 have H := Vd h
 have b15 := h.blk.c 15 _ rfl
 have q15 := h.blk.f 15 _ rfl
 have b16 := h.blk.c 16 _ rfl
 have q16 := h.blk.f 16 _ rfl
 by_cases z : s = zB
 ·have T : Hid (qo t s = t) := Vd (by unfold qo; rw [if_pos z])
  have fu := jO z
  clear z h
  go_enter Tryz.func52, Tryz.ntmps52
  go_wp2_with fail
  go_end0
  exact ⟨⟨_, rfl⟩, by rw [T.out]; exact H.out, ⟨rfl, rfl, rfl, Vf, fun _ _ _ => rfl⟩⟩
 ·have T : Hid (qo t s = seqT t s) := Vd (by unfold qo; rw [if_neg z])
  have fu := jP z
  have nov : (9223372036854775807 < t.out.size + s.size) = False := eq_false (by omega)
  clear z h
  go_enter Tryz.func52, Tryz.ntmps52
  go_wp2_with fail
  go_end0
  refine ⟨⟨_, rfl⟩, ?_, (zA _ ⟨b, 16, none⟩ _).trans (zA _ ⟨b, 15, none⟩ _)⟩
  rw [T.out]
  exact (H.out.set 16 _).set 15 _
def goR (t : Tel) (x y : Int) (u tx : ByteArray) : Bool := !t.place || decide (t.x ≠ x) || decide (t.y ≠ y) || (decide (t.text ≠ zB) && decide (u = zB) && qK t.text tx)
def goT (t : Tel) (x y : Int) (u tx : ByteArray) : Tel := if goR t x y u tx = true then seqT t (zH x y) else t
def xZ (W : Int) (t : Tel) (x y : Int) (c : Cel) : Tel :=
 ⟨decide (x + c.wide < W), x + c.wide, y, c.st, c.text, (qo (goT t x y (zI t.st c.st) c.text) (zI t.st c.st)).out ++ c.text⟩
theorem go_same (t : Tel) (x y : Int) (s : Sty) (tx : ByteArray) : goR t x y (zI t.st s) tx = goB t x y s tx := by
 unfold goR goB
 rw [Bool.and_comm (decide (t.text ≠ zB))]
theorem Kz (W : Int) (t : Tel) (i n : Nat) (c : Cel) (x y : Int) (hx : (i : Int) % W = x) (hy : (i : Int) / W = y) (hn : (n : Int) = c.wide) : zN W t i n c = xZ W t x y c := by
 subst hx
 subst hy
 unfold zN xZ
 rw [<- hn]
 have g := go_same t ((i : Int) % W) ((i : Int) / W) c.st c.text
 unfold goT jc put1 jl qo
 rw [g]
 by_cases h : goB t ((i : Int) % W) ((i : Int) / W) c.st c.text = true
 ·rw [if_pos h, if_pos h]
  by_cases z : zI t.st c.st = zB
  ·simp only [if_pos z]; rfl
  ·simp only [if_neg z]; rfl
 ·rw [if_neg h, if_neg h]
  have e : t.x = (i : Int) % W /\ t.y = (i : Int) / W := by
   unfold goB at h
   simp at h
   exact ⟨h.1.1.2, h.1.2⟩
  by_cases z : zI t.st c.st = zB
  ·simp only [if_pos z, e.1, e.2]
  ·simp only [if_neg z, seqT, e.1, e.2]
set_option maxHeartbeats 32000000 in
set_option maxRecDepth 100000 in
theorem ref_unit (P : Rfx) (t : Tel) (shn : Bool) (b : Nat) (R : Scr) (A : Option Addr) (cp : Nat) (x y : Int) (i : Nat) (c : Cel) (W : World) (h : Own1 W b (refV P t shn) 93) (S : Sees W W.heap.size A (zc R.cells)) (hi : i < R.cells.length) (hc : R.cells[i] = c)
  (hxy : y * R.w + x = (i : Int)) (x0 : 0 <= x) (x1 : x <= 4096) (y0 : 0 <= y) (y1 : y <= 4096) (hN : R.cells.length <= 2000000) (r0 : 0 <= R.w) (r1 : R.w <= 4096) (ok : okR c) (c1 : zh t.st.fg) (c2 : zh t.st.bg) (hsz : t.text.size + c.text.size <= 800000000000) (ho : t.out.size <= 70000000000000) :
  Calls Tryz.prog 53 #[.pointer (some ⟨b, 0, none⟩), scrV R A cp, .int .i64 x, .int .i64 y] W fun e w' => (∃ v, e = .returned v) /\ Own1 w' b (refV P (xZ R.w t x y c) shn) 93 /\ W.grownBy w' (some b) := by
 obtain ⟨ad, hRA, ab, z0, z1, z2, z3, z4⟩ := ja S i hi
 rw [hc] at z0 z1 z2 z3 z4
 subst hRA
 have UT : Hid (xZ R.w t x y c = ⟨decide (x + c.wide < R.w), x + c.wide, y, c.st, c.text, (qo (goT t x y (zI t.st c.st) c.text) (zI t.st c.st)).out ++ c.text⟩) := Vd rfl
 have GO : Hid (goR t x y (zI t.st c.st) c.text = (!t.place || decide (t.x ≠ x) || decide (t.y ≠ y) || (decide (t.text ≠ zB) && decide (zI t.st c.st = zB) && qK t.text c.text))) := Vd rfl
 have GT : Hid (goT t x y (zI t.st c.st) c.text = if goR t x y (zI t.st c.st) c.text = true then seqT t (zH x y) else t) := Vd rfl
 have US := Vd (vJ t.st c.st)
 have JO := Vd (fun W' => Ky t.text c.text (by omega) W')
 have TU := Vd (fun W' => Kw t.st c.st c1 c2 ok.fg ok.bg W')
 have MV := Vd (fun W' => Jp x y x0 (by omega) y0 (by omega) W')
 have H := Vd h
 have ii : (i : Int) < (R.cells.length : Int) := by omega
 have hw := ok.w0
 have hw1 := ok.w1
 have ws : c.text.size <= 800000000000 := by omega
 clear h S hc c1 c2 ok
 obtain ⟨V1, hV1⟩ : ∃ V1, V1 = W.alloc (.cells #[.int .i64 R.w, .int .i64 R.h, .slice (some ad) R.cells.length cp, .int .i64 R.x, .int .i64 R.y, .bool R.shown] 24) := ⟨_, rfl⟩
 have B1 : Below W.heap.size W V1 := by rw [hV1]; exact (Below.refl _ W).alloc Vf _
 have Z1 : V1.heap.size = W.heap.size + 1 := by rw [hV1]; simp
 have K1 : Own1 V1 W.heap.size [.int .i64 R.w, .int .i64 R.h, .slice (some ad) R.cells.length cp, .int .i64 R.x, .int .i64 R.y, .bool R.shown] 24 := by rw [hV1]; exact World.alloc_heap_new W _
 obtain ⟨V, hV⟩ : ∃ V, V = V1.alloc (.cells #[.string c.text, .int .i8 c.wide, .int .i32 c.st.fg, .int .i32 c.st.bg, .int .u8 (bI c.st.at_)] 58) := ⟨_, rfl⟩
 have B2 : Below V1.heap.size V1 V := by rw [hV]; exact (Below.refl _ V1).alloc Vf _
 have OG : Own1 V (W.heap.size + 1) [.string c.text, .int .i8 c.wide, .int .i32 c.st.fg, .int .i32 c.st.bg, .int .u8 (bI c.st.at_)] 58 := by rw [hV, <- Z1]; exact World.alloc_heap_new V1 _
 have BV := B1.trans (B2.mono B1.size)
 have HBV := Vd BV
 have HV := Vd (H.out.below BV)
 have KS := Vd (K1.below B2)
 have OG := Vd OG
 have HV1 := Vd hV1
 have HHV := Vd hV
 have HZ1 := Vd Z1
 have z0 := (B1.cell (p := ad.add (i * 5)) (by simp only [zj]; exact ab)).trans z0
 have z1 := (B1.cell (p := ⟨(ad.add (i * 5)).block, (ad.add (i * 5)).off + 1, none⟩) (by simp only [zj]; exact ab)).trans z1
 have z2 := (B1.cell (p := ⟨(ad.add (i * 5)).block, (ad.add (i * 5)).off + 2, none⟩) (by simp only [zj]; exact ab)).trans z2
 have z3 := (B1.cell (p := ⟨(ad.add (i * 5)).block, (ad.add (i * 5)).off + 3, none⟩) (by simp only [zj]; exact ab)).trans z3
 have z4 := (B1.cell (p := ⟨(ad.add (i * 5)).block, (ad.add (i * 5)).off + 4, none⟩) (by simp only [zj]; exact ab)).trans z4
 have k0 := K1.blk.c 0 _ rfl
 have k2 := K1.blk.c 2 _ rfl
 have wm : IntKind.i64.wrap (y * R.w) = y * R.w := Ve _ (by have : y * R.w <= 4096 * 4096 := Int.mul_le_mul y1 r1 r0 (by omega); have : 0 <= y * R.w := Int.mul_nonneg y0 r0; omega)
 have q0 : (0 : Int) <= (i : Int) := by omega
 have tn : (i : Int).toNat = i := by omega
 clear hV1 hV B1 B2 BV Z1 K1
 simp only [scrV]
 go_enter Tryz.func53, Tryz.ntmps53
 go_upto_region 1 with fail
 rw [<- HV1.out]
 go_upto_region 2 with fail
 rw [<- HHV.out, HZ1.out]
 clear HV1 HHV HZ1 z0 z1 z2 z3 z4 k0 k2 wm
 have gb11 := fun d os => (HV.out.blk.regrown d os).c 11 _ rfl
 have gb12 := fun d os => (HV.out.blk.regrown d os).c 12 _ rfl
 have gb13 := fun d os => (HV.out.blk.regrown d os).c 13 _ rfl
 have gs2 := fun d os => (OG.out.blk.regrown d os).c 2 _ rfl
 have gs3 := fun d os => (OG.out.blk.regrown d os).c 3 _ rfl
 have gs4 := fun d os => (OG.out.blk.regrown d os).c 4 _ rfl
 have TU2 : Hid (∀ d os, Calls Tryz.prog 69 #[styV t.st.fg t.st.bg t.st.at_, styV c.st.fg c.st.bg c.st.at_] (grow (redrawn V d) os) fun e w' => e = .returned (.string (zI t.st c.st)) /\ qc (grow (redrawn V d) os) w') := Vd (fun d os => jB (TU.out _))
 refine zn 7 [] [] (by kernel_rfl) (by kernel_rfl) (by kernel_rfl) (by intro t ht; cases ht) ?_
 simp only [Vg, Vh, Vi, Vj]
 repeat (refine ze (by rfl) (fun K hK => ?_); go_simp; first | (refine hK _ ?_; clear hK K) | (apply Exists.intro; refine ⟨fun _ => ?_, hK _ ?_⟩; (with_reducible exact TU2.out _ _); clear hK K))
 refine zm ?_
 intro V2 vs2 hl hv
 have hb2 := zk.1 hl
 have HBV := Vd (HBV.out.trans (hb2.mono HBV.out.size))
 have HV := Vd (HV.out.below hb2)
 have KS := Vd (KS.out.below hb2)
 have OG := Vd (OG.out.below hb2)
 clear hl hv hb2 gb11 gb12 gb13 gs2 gs3 gs4 TU2 TU
 simp only [zd]
 go_upto_region 3 with fail
 generalize zI t.st c.st = u at *
 have JO2 : Hid (∀ d os, Calls Tryz.prog 70 #[.string t.text, .string c.text] (grow (redrawn V2 d) os) fun e w' => e = .returned (.bool (qK t.text c.text)) /\ qc (grow (redrawn V2 d) os) w') := Vd (fun d os => jB (JO.out _))
 generalize qK t.text c.text = j at *
 obtain ⟨GL, hGL⟩ : ∃ GL, GL = (decide (t.text ≠ zB) && decide (u = zB) && j) := ⟨_, rfl⟩
 rw [<- hGL] at GO
 have GLH := Vd hGL
 have gb15 := fun d os => (HV.out.blk.regrown d os).c 15 _ rfl
 have gs0 := fun d os => (OG.out.blk.regrown d os).c 0 _ rfl
 clear hGL
 go_cut [10] from 10 to 45 (fun s10 wx => s10 = .bool GL /\ Hid (Below V2.heap.size V2 wx))
 case first =>
  by_cases et : t.text = zB
  ·have ft := jO et
   have RG : Hid (GL = false) := Vd (by rw [GLH.out, et]; simp)
   have HT := Vd et
   clear et
   refine zn 18 [] [] (by kernel_rfl) (by kernel_rfl) (by kernel_rfl) (by intro t ht; cases ht) ?_
   simp only [Vg, Vh, Vi, Vj]
   repeat (refine ze (by rfl) (fun K hK => ?_); go_simp; first | (refine hK _ ?_; clear hK K) | (apply Exists.intro; refine ⟨fun _ => ?_, hK _ ?_⟩; (with_reducible exact JO2.out _ _); clear hK K))
   refine zm ?_
   intro W8 vs8 hl hv
   have hb8 := Vd (zk.1 hl)
   clear hl hv
   simp only [zd]
   go_wp2_with fail
   go_meet
   exact ⟨by rw [RG.out], hb8⟩
  ·have ft := jP et
   by_cases eu : u = zB
   ·have fu := jO eu
    have RG : Hid (GL = j) := Vd (by rw [GLH.out, eu]; simp [et])
    have HT := Vd et
    have HU := Vd eu
    clear et eu
    refine zn 18 [] [] (by kernel_rfl) (by kernel_rfl) (by kernel_rfl) (by intro t ht; cases ht) ?_
    simp only [Vg, Vh, Vi, Vj]
    repeat (refine ze (by rfl) (fun K hK => ?_); go_simp; first | (refine hK _ ?_; clear hK K) | (apply Exists.intro; refine ⟨fun _ => ?_, hK _ ?_⟩; (with_reducible exact JO2.out _ _); clear hK K))
    refine zm ?_
    intro W8 vs8 hl hv
    have hb8 := Vd (zk.1 hl)
    clear hl hv
    simp only [zd]
    go_wp2_with fail
    go_meet
    exact ⟨by rw [RG.out], hb8⟩
   ·have fu := jP eu
    have RG : Hid (GL = false) := Vd (by rw [GLH.out]; simp [eu])
    have HT := Vd et
    have HU := Vd eu
    clear et eu
    refine zn 18 [] [] (by kernel_rfl) (by kernel_rfl) (by kernel_rfl) (by intro t ht; cases ht) ?_
    simp only [Vg, Vh, Vi, Vj]
    repeat (refine ze (by rfl) (fun K hK => ?_); go_simp; first | (refine hK _ ?_; clear hK K) | (apply Exists.intro; refine ⟨fun _ => ?_, hK _ ?_⟩; (with_reducible exact JO2.out _ _); clear hK K))
    refine zm ?_
    intro W8 vs8 hl hv
    have hb8 := Vd (zk.1 hl)
    clear hl hv
    simp only [zd]
    go_wp2_with fail
    go_meet
    exact ⟨by rw [RG.out], hb8⟩
 case rest =>
  obtain ⟨rfl, hbc⟩ := hcut
  obtain ⟨wa, hwa⟩ : ∃ wa, wa = wc := ⟨_, rfl⟩
  rw [<- hwa] at hbc ⊢
  have HBC := Vd (HBV.out.trans (hbc.out.mono HBV.out.size))
  have HC := Vd (HV.out.below hbc.out)
  have KC := Vd (KS.out.below hbc.out)
  have OC := Vd (OG.out.below hbc.out)
  clear hbc HBV HV OG KS gb15 gs0 JO JO2 hwa
  obtain ⟨GG, hGG⟩ : ∃ GG, GG = (!t.place || decide (t.x ≠ x) || decide (t.y ≠ y) || GL) := ⟨_, rfl⟩
  have GO : Hid (goR t x y u c.text = GG) := Vd (by rw [GO.out, <- hGG])
  have HGG := Vd hGG
  have b8 := HC.out.blk.c 8 _ rfl
  have b9 := HC.out.blk.c 9 _ rfl
  have b10 := HC.out.blk.c 10 _ rfl
  clear hGG
  go_upto_region 4 with fail
  go_cut [69] from 46 to 69 (fun s69 wx => s69 = .bool GG /\ wx = wa)
  case first =>
   cases ep : t.place with
   | false =>
    have RG : Hid (GG = true) := Vd (by rw [HGG.out, ep]; rfl)
    rw [ep] at b8
    go_wp2_with fail
    go_meet
    exact ⟨by rw [RG.out], rfl⟩
   | true =>
    rw [ep] at b8
    by_cases ex : t.x = x
    ·have fx : (t.x != x) = false := by rw [ex]; simp
     by_cases ey : t.y = y
     ·have fy : (t.y != y) = false := by rw [ey]; simp
      have RG : Hid (GG = GL) := Vd (by rw [HGG.out, ep, ex, ey]; simp)
      clear ex ey
      go_wp2_with fail
      go_meet
      exact ⟨by rw [RG.out], rfl⟩
     ·have fy : (t.y != y) = true := by rw [bne_iff_ne]; exact ey
      have RG : Hid (GG = true) := Vd (by rw [HGG.out, ep]; simp [ey])
      clear ex ey
      go_wp2_with fail
      go_meet
      exact ⟨by rw [RG.out], rfl⟩
    ·have fx : (t.x != x) = true := by rw [bne_iff_ne]; exact ex
     have RG : Hid (GG = true) := Vd (by rw [HGG.out, ep]; simp [ex])
     clear ex
     go_wp2_with fail
     go_meet
     exact ⟨by rw [RG.out], rfl⟩
  case rest =>
   obtain ⟨rfl, hwc⟩ := hcut
   rw [hwc]
   clear hwc b8 b9 b10
   have BL := Vd H.out.lt
   have R0 := Vd (show Own1 wa b (refV P t shn) 93 /\ Own1 wa (W.heap.size + 1) [.string c.text, .int .i8 c.wide, .int .i32 c.st.fg, .int .i32 c.st.bg, .int .u8 (bI c.st.at_)] 58 /\ Own1 wa W.heap.size [.int .i64 R.w, .int .i64 R.h, .slice (some ad) R.cells.length cp, .int .i64 R.x, .int .i64 R.y, .bool R.shown] 24 /\ W.grownBy wa (some b) from ⟨HC.out, OC.out, KC.out, qU HBC.out _⟩)
   obtain ⟨t1, ht1⟩ : ∃ t1, t1 = goT t x y u c.text := ⟨_, rfl⟩
   rw [<- ht1] at GT UT
   rw [GO.out] at GT
   have MS := xv x y (by omega) (by omega) (by omega) (by omega)
   have us := US.out
   have o1 : t1.out.size <= t.out.size + 100 := by
    rw [GT.out]
    split
    ·show (t.out ++ zH x y).size <= _
     rw [ByteArray.size_append]
     omega
    ·omega
   clear ht1 HBC HC OC KC
   go_upto_if 69 with fail
   go_cut [] from 70 to 74 (fun wx => Hid (Own1 wx b (refV P t1 shn) 93 /\ Own1 wx (W.heap.size + 1) [.string c.text, .int .i8 c.wide, .int .i32 c.st.fg, .int .i32 c.st.bg, .int .u8 (bI c.st.at_)] 58 /\ Own1 wx W.heap.size [.int .i64 R.w, .int .i64 R.h, .slice (some ad) R.cells.length cp, .int .i64 R.x, .int .i64 R.y, .bool R.shown] 24 /\ W.grownBy wx (some b)))
   case first =>
    cases GG with
    | true =>
     have M2 : Hid (t1 = seqT t (zH x y)) := Vd (by rw [GT.out, if_pos rfl])
     have MN : Hid (qo t (zH x y) = t1) := Vd (by
      rw [M2.out]
      unfold qo
      rw [if_neg (fun z => ?_)]
      have := congrArg ByteArray.size z
      unfold zH at this
      simp only [ByteArray.size_append] at this
      have e1 : (⟨#[27, 91]⟩ : ByteArray).size = 2 := rfl
      have e2 : (zB : ByteArray).size = 0 := rfl
      omega)
     generalize zH x y = m at *
     go_wp2_with fail
     refine (MV.out _).mono ?_; rintro e w8 ⟨rfl, b8⟩
     have HT := Vd (Zb P t shn b m w8 (R0.out.1.below b8) (by omega))
     rw [MN.out] at HT
     have HB8 := Vd b8
     clear b8
     go_wp2_with fail
     refine HT.out.mono ?_; rintro e w9 ⟨⟨v, rfl⟩, h9, g9⟩
     have R9 := Vd (show Own1 w9 b (refV P t1 shn) 93 /\ Own1 w9 (W.heap.size + 1) [.string c.text, .int .i8 c.wide, .int .i32 c.st.fg, .int .i32 c.st.bg, .int .u8 (bI c.st.at_)] 58 /\ Own1 w9 W.heap.size [.int .i64 R.w, .int .i64 R.h, .slice (some ad) R.cells.length cp, .int .i64 R.x, .int .i64 R.y, .bool R.shown] 24 /\ W.grownBy w9 (some b) from ⟨h9, (R0.out.2.1.below HB8.out).of_grown g9 (fun e => by injection e with e; have := BL.out; omega), (R0.out.2.2.1.below HB8.out).of_grown g9 (fun e => by injection e with e; have := BL.out; omega), qn R0.out.2.2.2 (qn (qU HB8.out _) g9)⟩)
     clear h9 g9
     go_wp2_with fail
     go_meet
     exact R9
    | false =>
     have M2 : Hid (t1 = t) := Vd (by rw [GT.out, if_neg (by decide)])
     go_wp2_with fail
     go_meet
     rw [M2.out]
     exact R0
   case rest =>
    obtain ⟨wb, hwb⟩ : ∃ wb, wb = wc := ⟨_, rfl⟩
    rw [<- hwb] at hcut ⊢
    have R1 := hcut
    obtain ⟨t2, ht2⟩ : ∃ t2, t2 = qo t1 u := ⟨_, rfl⟩
    rw [<- ht2] at UT
    have TL := Vd (Zb P t1 shn b u wb R1.out.1 (by omega))
    rw [<- ht2] at TL
    have o2 : t2.out.size <= t.out.size + 700 := by
     rw [ht2]
     unfold qo
     split
     ·omega
     ·show (t1.out ++ u).size <= _
      rw [ByteArray.size_append]
      omega
    clear hcut hwb R0 GT MV ht2 MS us
    go_wp2_with fail
    refine TL.out.mono ?_; rintro e w2 ⟨⟨v, rfl⟩, h2, g2⟩
    have R2 := Vd (show Own1 w2 b (refV P t2 shn) 93 /\ Own1 w2 (W.heap.size + 1) [.string c.text, .int .i8 c.wide, .int .i32 c.st.fg, .int .i32 c.st.bg, .int .u8 (bI c.st.at_)] 58 /\ Own1 w2 W.heap.size [.int .i64 R.w, .int .i64 R.h, .slice (some ad) R.cells.length cp, .int .i64 R.x, .int .i64 R.y, .bool R.shown] 24 /\ W.grownBy w2 (some b) from ⟨h2, R1.out.2.1.of_grown g2 (fun e => by injection e with e; have := BL.out; omega), R1.out.2.2.1.of_grown g2 (fun e => by injection e with e; have := BL.out; omega), qn R1.out.2.2.2 g2⟩)
    clear h2 g2 TL R1
    have BL1 : b ≠ W.heap.size := by have := BL.out; omega
    have BL2 : b ≠ W.heap.size + 1 := by have := BL.out; omega
    have BL3 : W.heap.size ≠ b := by have := BL.out; omega
    have BL4 : W.heap.size + 1 ≠ b := by have := BL.out; omega
    have step : ∀ (w : World) (T T' : Tel) (k : Nat) (v : Value), (Own1 w b (refV P T shn) 93 /\ Own1 w (W.heap.size + 1) [.string c.text, .int .i8 c.wide, .int .i32 c.st.fg, .int .i32 c.st.bg, .int .u8 (bI c.st.at_)] 58 /\ Own1 w W.heap.size [.int .i64 R.w, .int .i64 R.h, .slice (some ad) R.cells.length cp, .int .i64 R.x, .int .i64 R.y, .bool R.shown] 24 /\ W.grownBy w (some b)) -> (refV P T shn).set k v = refV P T' shn -> (Own1 (w.setCell ⟨b, k, none⟩ v) b (refV P T' shn) 93 /\ Own1 (w.setCell ⟨b, k, none⟩ v) (W.heap.size + 1) [.string c.text, .int .i8 c.wide, .int .i32 c.st.fg, .int .i32 c.st.bg, .int .u8 (bI c.st.at_)] 58 /\ Own1 (w.setCell ⟨b, k, none⟩ v) W.heap.size [.int .i64 R.w, .int .i64 R.h, .slice (some ad) R.cells.length cp, .int .i64 R.x, .int .i64 R.y, .bool R.shown] 24 /\ W.grownBy (w.setCell ⟨b, k, none⟩ v) (some b)) := fun w T T' k v h e => ⟨by rw [<- e]; exact h.1.set k v, h.2.1.of_grown (zA w ⟨b, k, none⟩ v) (fun e => by injection e with e; exact BL4 e), h.2.2.1.of_grown (zA w ⟨b, k, none⟩ v) (fun e => by injection e with e; exact BL3 e), qn h.2.2.2 (zA w ⟨b, k, none⟩ v)⟩
    have drw : ∀ (w : World) (T : Tel), (Own1 w b (refV P T shn) 93 /\ Own1 w (W.heap.size + 1) [.string c.text, .int .i8 c.wide, .int .i32 c.st.fg, .int .i32 c.st.bg, .int .u8 (bI c.st.at_)] 58 /\ Own1 w W.heap.size [.int .i64 R.w, .int .i64 R.h, .slice (some ad) R.cells.length cp, .int .i64 R.x, .int .i64 R.y, .bool R.shown] 24 /\ W.grownBy w (some b)) -> (Own1 w.drew b (refV P T shn) 93 /\ Own1 w.drew (W.heap.size + 1) [.string c.text, .int .i8 c.wide, .int .i32 c.st.fg, .int .i32 c.st.bg, .int .u8 (bI c.st.at_)] 58 /\ Own1 w.drew W.heap.size [.int .i64 R.w, .int .i64 R.h, .slice (some ad) R.cells.length cp, .int .i64 R.x, .int .i64 R.y, .bool R.shown] 24 /\ W.grownBy w.drew (some b)) := fun w T h => by
     have d : Below w.heap.size w w.drew := (Below.refl _ w).drew
     exact ⟨h.1.below d, h.2.1.below d, h.2.2.1.below d, qn h.2.2.2 (qU d _)⟩
    have step := Vd step
    have drw := Vd drw
    have b11 := R2.out.1.blk.c 11 _ rfl
    have q11 := R2.out.1.blk.f 11 _ rfl
    have b12 := R2.out.1.blk.c 12 _ rfl
    have q12 := R2.out.1.blk.f 12 _ rfl
    have b13 := R2.out.1.blk.c 13 _ rfl
    have q13 := R2.out.1.blk.f 13 _ rfl
    have s2 := R2.out.2.1.blk.c 2 _ rfl
    have s3 := R2.out.2.1.blk.c 3 _ rfl
    have s4 := R2.out.2.1.blk.c 4 _ rfl
    go_upto_region 8 with fail
    obtain ⟨V3, hV3⟩ : ∃ V3, V3 = ((w2.setCell ⟨b, 11, none⟩ (.int .i32 c.st.fg)).setCell ⟨b, 12, none⟩ (.int .i32 c.st.bg)).setCell ⟨b, 13, none⟩ (.int .u8 (bI c.st.at_)) := ⟨_, rfl⟩
    rw [<- hV3]
    have R3 := Vd (show Own1 V3 b (refV P ⟨t2.place, t2.x, t2.y, c.st, t2.text, t2.out⟩ shn) 93 /\ Own1 V3 (W.heap.size + 1) [.string c.text, .int .i8 c.wide, .int .i32 c.st.fg, .int .i32 c.st.bg, .int .u8 (bI c.st.at_)] 58 /\ Own1 V3 W.heap.size [.int .i64 R.w, .int .i64 R.h, .slice (some ad) R.cells.length cp, .int .i64 R.x, .int .i64 R.y, .bool R.shown] 24 /\ W.grownBy V3 (some b) by
     rw [hV3]
     exact step.out _ _ _ 13 _ (step.out _ _ _ 12 _ (step.out _ _ ⟨t2.place, t2.x, t2.y, ⟨c.st.fg, t2.st.bg, t2.st.at_⟩, t2.text, t2.out⟩ 11 _ R2.out rfl) (show _ = refV P ⟨t2.place, t2.x, t2.y, ⟨c.st.fg, c.st.bg, t2.st.at_⟩, t2.text, t2.out⟩ shn from rfl)) rfl)
    clear hV3 R2 b11 q11 b12 q12 b13 q13 s2 s3 s4
    have b16 := R3.out.1.blk.c 16 _ rfl
    have q16 := R3.out.1.blk.f 16 _ rfl
    have s0 := R3.out.2.1.blk.c 0 _ rfl
    have d16 := (drw.out _ _ R3.out).1.blk.c 16 _ rfl
    have e16 := (drw.out _ _ R3.out).1.blk.f 16 _ rfl
    have s0d := (drw.out _ _ R3.out).2.1.blk.c 0 _ rfl
    have nov : (9223372036854775807 < t2.out.size + c.text.size) = False := eq_false (by omega)
    go_region
    obtain ⟨V4, hV4⟩ : ∃ V4, V4 = (V3.setCell ⟨b, 16, none⟩ (.string (t2.out ++ c.text))).drew := ⟨_, rfl⟩
    rw [<- hV4]
    have R4 := Vd (show Own1 V4 b (refV P ⟨t2.place, t2.x, t2.y, c.st, t2.text, t2.out ++ c.text⟩ shn) 93 /\ Own1 V4 (W.heap.size + 1) [.string c.text, .int .i8 c.wide, .int .i32 c.st.fg, .int .i32 c.st.bg, .int .u8 (bI c.st.at_)] 58 /\ Own1 V4 W.heap.size [.int .i64 R.w, .int .i64 R.h, .slice (some ad) R.cells.length cp, .int .i64 R.x, .int .i64 R.y, .bool R.shown] 24 /\ W.grownBy V4 (some b) by
     rw [hV4]
     exact drw.out _ _ (step.out _ _ _ 16 _ R3.out rfl))
    clear hV4 R3 b16 q16 s0 d16 e16 s0d nov
    have b15 := R4.out.1.blk.c 15 _ rfl
    have q15 := R4.out.1.blk.f 15 _ rfl
    have b9 := R4.out.1.blk.c 9 _ rfl
    have q9 := R4.out.1.blk.f 9 _ rfl
    have b10 := R4.out.1.blk.c 10 _ rfl
    have q10 := R4.out.1.blk.f 10 _ rfl
    have s0 := R4.out.2.1.blk.c 0 _ rfl
    have s1 := R4.out.2.1.blk.c 1 _ rfl
    have wx := Ve (x + c.wide) (by omega)
    have wi : IntKind.i64.wrap c.wide = c.wide := Ve _ (by omega)
    go_upto_region 12 with fail
    obtain ⟨V5, hV5⟩ : ∃ V5, V5 = ((V4.setCell ⟨b, 15, none⟩ (.string c.text)).setCell ⟨b, 9, none⟩ (.int .i64 (x + c.wide))).setCell ⟨b, 10, none⟩ (.int .i64 y) := ⟨_, rfl⟩
    rw [<- hV5]
    have R5 := Vd (show Own1 V5 b (refV P ⟨t2.place, x + c.wide, y, c.st, c.text, t2.out ++ c.text⟩ shn) 93 /\ Own1 V5 (W.heap.size + 1) [.string c.text, .int .i8 c.wide, .int .i32 c.st.fg, .int .i32 c.st.bg, .int .u8 (bI c.st.at_)] 58 /\ Own1 V5 W.heap.size [.int .i64 R.w, .int .i64 R.h, .slice (some ad) R.cells.length cp, .int .i64 R.x, .int .i64 R.y, .bool R.shown] 24 /\ W.grownBy V5 (some b) by
     rw [hV5]
     exact step.out _ _ _ 10 _ (step.out _ _ _ 9 _ (step.out _ _ ⟨t2.place, t2.x, t2.y, c.st, c.text, t2.out ++ c.text⟩ 15 _ R4.out rfl) (show _ = refV P ⟨t2.place, x + c.wide, t2.y, c.st, c.text, t2.out ++ c.text⟩ shn from rfl)) rfl)
    clear hV5 R4 b15 q15 b9 q9 b10 q10 s0 s1
    have b9 := R5.out.1.blk.c 9 _ rfl
    have q9 := R5.out.1.blk.f 9 _ rfl
    have b8 := R5.out.1.blk.c 8 _ rfl
    have q8 := R5.out.1.blk.f 8 _ rfl
    have d9 := (drw.out _ _ R5.out).1.blk.c 9 _ rfl
    have e9 := (drw.out _ _ R5.out).1.blk.f 9 _ rfl
    have d8 := (drw.out _ _ R5.out).1.blk.c 8 _ rfl
    have e8 := (drw.out _ _ R5.out).1.blk.f 8 _ rfl
    have r0' := R5.out.2.2.1.blk.c 0 _ rfl
    have r0d := (drw.out _ _ R5.out).2.2.1.blk.c 0 _ rfl
    go_region
    go_wp2_with fail
    go_end0
    have R6 := drw.out _ _ (step.out _ _ ⟨decide (x + c.wide < R.w), x + c.wide, y, c.st, c.text, t2.out ++ c.text⟩ 8 (.bool (decide (x + c.wide < R.w))) R5.out rfl)
    exact ⟨⟨_, rfl⟩, by rw [UT.out]; exact R6.1, R6.2.2.2⟩
end
end
end Go.Proofs.YtifoijbpbigaaaaGreatDoor
