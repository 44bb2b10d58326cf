/- What lies below tapes (kept of earlier texts: VxPa). -/
import Derived.Test.YtmaofighbpnbiaaGreatDoorTaEK
import Derived.Laws.Runes
import Derived.Lib.AppendStr
import Derived.Lib.ItoaLen
import Derived.Shelf.Bytes.SlSmallAll
set_option linter.unusedVariables false
set_option linter.unusedSimpArgs false
namespace Go.Proofs
open Go.Shelf
def Tryz.laysM171_ren : Go.Shelf.Ren := ⟨fun | 171 => 107 | 243 => 139 | 246 => 146 | 283 => 150 | 284 => 151 | 285 => 152 | 286 => 153 | 129 => 157 | 317 => 156 | 318 => 158 | 319 => 159 | 320 => 160 | 337 => 162 | 338 => 163 | n => n, fun | 3 => 3 | 9 => 9 | 2 => 2 | 4 => 4 | 171 => 179 | 0 => 0 | 53 => 180 | 37 => 27 | 5 => 5 | 173 => 183 | 212 => 189 | 51 => 70 | 20 => 20 | 213 => 190 | 46 => 73 | 232 => 194 | 233 => 195 | n => n, fun | 17 => 2 | 18 => 3 | 19 => 4 | n => n⟩
theorem Tryz.laysM171 : Go.Proofs.LaysM.n171 Tryz.prog Tryz.laysM171_ren := {
  mixed := by kernel_rfl
  f129 := Tryz.func157.trans (congrArg some (by kernel_rfl))
  f171 := Tryz.func107.trans (congrArg some (by kernel_rfl))
  f243 := Tryz.func139.trans (congrArg some (by kernel_rfl))
  f246 := Tryz.func146.trans (congrArg some (by kernel_rfl))
  f283 := Tryz.func150.trans (congrArg some (by kernel_rfl))
  f284 := Tryz.func151.trans (congrArg some (by kernel_rfl))
  f285 := Tryz.func152.trans (congrArg some (by kernel_rfl))
  f286 := Tryz.func153.trans (congrArg some (by kernel_rfl))
  f317 := Tryz.func156.trans (congrArg some (by kernel_rfl))
  f318 := Tryz.func158.trans (congrArg some (by kernel_rfl))
  f319 := Tryz.func159.trans (congrArg some (by kernel_rfl))
  f320 := Tryz.func160.trans (congrArg some (by kernel_rfl))
  f337 := Tryz.func162.trans (congrArg some (by kernel_rfl))
  f338 := Tryz.func163.trans (congrArg some (by kernel_rfl))
  t0 := Tryz.underlying0
  a0 := Tryz.isAgg0
  z0 := Tryz.sizeOf0
  v0 := Tryz.zeroValue0
  t2 := Tryz.underlying2
  a2 := Tryz.isAgg2
  z2 := Tryz.sizeOf2
  v2 := Tryz.zeroValue2
  t3 := Tryz.underlying3
  a3 := Tryz.isAgg3
  z3 := Tryz.sizeOf3
  v3 := Tryz.zeroValue3
  t4 := Tryz.underlying4
  a4 := Tryz.isAgg4
  z4 := Tryz.sizeOf4
  v4 := Tryz.zeroValue4
  t5 := Tryz.underlying5
  a5 := Tryz.isAgg5
  z5 := Tryz.sizeOf5
  v5 := Tryz.zeroValue5
  t9 := Tryz.underlying9
  a9 := Tryz.isAgg9
  z9 := Tryz.sizeOf9
  v9 := Tryz.zeroValue9
  t20 := Tryz.underlying20
  a20 := Tryz.isAgg20
  z20 := Tryz.sizeOf20
  v20 := Tryz.zeroValue20
  t37 := Tryz.underlying27
  a37 := Tryz.isAgg27
  z37 := Tryz.sizeOf27
  v37 := Tryz.zeroValue27
  t46 := Tryz.underlying73
  a46 := Tryz.isAgg73
  z46 := Tryz.sizeOf73
  v46 := Tryz.zeroValue73
  t51 := Tryz.underlying70
  a51 := Tryz.isAgg70
  z51 := Tryz.sizeOf70
  v51 := Tryz.zeroValue70
  t53 := Tryz.underlying180
  a53 := Tryz.isAgg180
  z53 := Tryz.sizeOf180
  v53 := Tryz.zeroValue180
  t171 := Tryz.underlying179
  a171 := Tryz.isAgg179
  z171 := Tryz.sizeOf179
  v171 := Tryz.zeroValue179
  t173 := Tryz.underlying183
  a173 := Tryz.isAgg183
  z173 := Tryz.sizeOf183
  v173 := Tryz.zeroValue183
  t212 := Tryz.underlying189
  a212 := Tryz.isAgg189
  z212 := Tryz.sizeOf189
  v212 := Tryz.zeroValue189
  t213 := Tryz.underlying190
  a213 := Tryz.isAgg190
  z213 := Tryz.sizeOf190
  t232 := Tryz.underlying194
  a232 := Tryz.isAgg194
  z232 := Tryz.sizeOf194
  v232 := Tryz.zeroValue194
  t233 := Tryz.underlying195
  a233 := Tryz.isAgg195
  z233 := Tryz.sizeOf195
  v233 := Tryz.zeroValue195
  g17 := by kernel_rfl
  g18 := by kernel_rfl
  g19 := by kernel_rfl
  i0 := by kernel_rfl
  i2 := by kernel_rfl
  i3 := by kernel_rfl
  i4 := by kernel_rfl
  i5 := by kernel_rfl
  i9 := by kernel_rfl
  i20 := by kernel_rfl
  i37 := by kernel_rfl
  i46 := by kernel_rfl
  i51 := by kernel_rfl
  i53 := by kernel_rfl
  i171 := by kernel_rfl
  i173 := by kernel_rfl
  i212 := by kernel_rfl
  i232 := by kernel_rfl
  i233 := by kernel_rfl
  m17 := by kernel_rfl
  m18 := by kernel_rfl
  m19 := by kernel_rfl }
open Go.RowKit Go.Sort Go.Lib in
theorem Tryz.strconv_Itoa (n : Int) (h0 : -9223372036854775808 <= n) (h1 : n <= 9223372036854775807) (w : World) (htab : Lib.TabIs Tryz.prog w "internal/strconv.uint64pow10" .u64 Lib.pow10Tab) :
  Calls Tryz.prog 107 #[.int .i64 n] w fun e w' => e = .returned (.string ⟨(Lib.itoa n).toArray⟩) /\ ∃ k os, w' = grow (w.drewN k) os := Any.strconv_Itoa Tryz.laysM171 n h0 h1 w htab
end Go.Proofs
namespace Go.Proofs.YtmaofighbpnbiaaGreatDoor
section
open Go Go.RowKit Go.Sort
section
variable {w0 : World} {F0 : List Nat} {tb : Nat} {t t' : Trm} {W W' : World} {L : Lay}
def jg (t : Trm) : Trm := if t.pend = true then zA t else t
def jG (t : Trm) (n : Int) : Trm := if t.w < t.cur.x + n then zA t else t
def insT (t : Trm) (n : Int) : Trm := if t.ins = true then zJ t n else t
def openT (t : Trm) : Trm := { t with opn := t.cur.y * t.w + t.cur.x }
theorem VG (t : Trm) (s : ByteArray) (n : Int) (hn : n = zn s) : zU t s = if n = 0 \/ t.w < n then { t with opn := -1 } else if (jg { t with opn := -1 }).w < (jg { t with opn := -1 }).cur.x + n /\ (jg { t with opn := -1 }).wrap = false then jg { t with opn := -1 }
  else qe (zI (openT (insT (jG (jg { t with opn := -1 }) n) n)) (insT (jG (jg { t with opn := -1 }) n) n).cur.x (insT (jG (jg { t with opn := -1 }) n) n).cur.y s n (insT (jG (jg { t with opn := -1 }) n) n).cur.st) ((insT (jG (jg { t with opn := -1 }) n) n).cur.x + n) := by subst hn; rfl
theorem VH (f : Fine t) (p : zk t) : Fine (jg t) /\ zk (jg t) /\ (jg t).w = t.w := by
 unfold jg
 split
 ·exact ⟨kB f p, xD (xj t) p, (xj t).1⟩
 ·exact ⟨f, p, rfl⟩
theorem VI (f : Fine t) (p : zk t) (n : Int) (hn : n <= t.w) : Fine (jG t n) /\ zk (jG t n) /\ (jG t n).w = t.w /\ (jG t n).cur.x + n <= (jG t n).w := by
 unfold jG
 split
 ·refine ⟨kB f p, xD (xj t) p, (xj t).1, ?_⟩
  have ex : (zA t).cur.x = 0 := by
   unfold zA zF
   split
   ·rw [(jY _ _ _ _).cur]; rfl
   ·rfl
  rw [ex, (xj t).1]
  omega
 ·exact ⟨f, p, rfl, by omega⟩
theorem ins_ok (f : Fine t) (p : zk t) (n : Int) : Fine (insT t n) /\ zk (insT t n) /\ (insT t n).w = t.w /\ (insT t n).cur = t.cur := by
 unfold insT
 split
 ·have c := vg t n f p
  exact ⟨f.cw c, c.some p, c.w, c.cur⟩
 ·exact ⟨f, p, rfl, rfl⟩
set_option maxHeartbeats 16000000 in
set_option maxRecDepth 100000 in
theorem zcL (h : St w0 F0 tb t W) (f : Fine t) (p : zk t) (o : t.opn < 0) (s : ByteArray) (hs : s.size <= 64) (n2 : zn s = 0 \/ zn s = 1 \/ zn s = 2) : Calls Tryz.prog 77 #[.pointer (some ⟨tb, 0, none⟩), .string s] W (Vd w0 F0 tb (qf t s)) := by
 obtain ⟨n, EN⟩ : ∃ n, Hid (n = zn s) := ⟨_, zdy rfl⟩
 have FE := zdy (VG t s n EN.out)
 have N2 : Hid (n = 0 \/ n = 1 \/ n = 2) := zdy (by rw [EN.out]; exact n2)
 have nb : 0 <= n /\ n <= 2 := by have := N2.out; omega
 obtain ⟨nb0, nb1⟩ := nb
 have PE : qf t s = zU t s := by unfold qf; rw [if_neg (by omega)]
 have UP : Hid (∀ W', St w0 F0 tb (zU t s) W' -> St w0 F0 tb (qf t s) W') := zdy (fun _ k => by rw [PE]; exact k)
 have H := zdy h
 clear h PE n2
 obtain ⟨L1, B1⟩ := H.out.bk
 dsimp only [trmV, setX, setY] at B1
 have k24 := B1.c 24 _ rfl
 have kf24 := B1.f 24
 clear B1
 go_enter Tryz.func77, Tryz.ntmps77
 go_upto_region 10 with fail
 clear k24 kf24
 obtain ⟨u1, hu1⟩ : ∃ u, u = ({ t with opn := -1 } : Trm) := ⟨_, rfl⟩
 have f1 : Fine u1 := by rw [hu1]; exact jc f _
 have p1 : zk u1 := by rw [hu1]; exact p
 have ew1 : u1.w = t.w := by rw [hu1]
 have H1 := zdy (H.out.setOpn (-1))
 rw [<- hu1] at H1 FE
 obtain ⟨L1, B1⟩ := H.out.bk
 dsimp only [trmV, setX, setY] at B1
 have k24 := B1.c 24 _ rfl
 have kf24 := B1.f 24
 clear B1
 clear H hu1
 go_upto_region 11 with fail
 obtain ⟨V1, hV⟩ : ∃ V, V = W.setCell ⟨tb, 24, none⟩ (.int .i64 (-1)) := ⟨_, rfl⟩
 rw [<- hV] at H1 ⊢
 clear hV k24 kf24
 have WD := zdy (VA s (by omega) V1)
 rw [<- EN.out] at WD
 go_wp2_with fail
 refine WD.out.mono ?_; rintro e V2 ⟨rfl, hb⟩
 have H1 := zdy (H1.out.below hb)
 clear WD hb
 by_cases c1 : n = 0
 ·have FE : Hid (zU t s = u1) := zdy (by rw [FE.out, if_pos (Or.inl c1)])
  have cz : (n == 0) = true := by simpa using c1
  go_wp2_with fail
  go_end0
  exact ⟨⟨_, rfl⟩, UP.out _ (by rw [FE.out]; exact H1.out)⟩
 have cz : (n == 0) = false := by simpa using c1
 by_cases c2 : t.w < n
 ·have FE : Hid (zU t s = u1) := zdy (by rw [FE.out, if_pos (Or.inr c2)])
  obtain ⟨L1, B1⟩ := H1.out.bk
  dsimp only [trmV, setX, setY] at B1
  have k0 := B1.c 0 _ rfl
  have kf0 := B1.f 0
  clear B1
  rw [ew1] at k0
  go_wp2_with fail
  go_end0
  exact ⟨⟨_, rfl⟩, UP.out _ (by rw [FE.out]; exact H1.out)⟩
 have FE := zdy (show zU t s = _ by rw [FE.out, if_neg (fun z => z.elim c1 c2)])
 obtain ⟨f2, p2, ew2⟩ := VH f1 p1
 obtain ⟨L1, B1⟩ := H1.out.bk
 dsimp only [trmV, setX, setY] at B1
 have k0 := B1.c 0 _ rfl
 have kf0 := B1.f 0
 have k16 := B1.c 16 _ rfl
 have kf16 := B1.f 16
 clear B1
 rw [ew1] at k0
 obtain ⟨u2, hu2⟩ : ∃ u, u = jg u1 := ⟨_, rfl⟩
 have PE := zdy (show u2 = if u1.pend = true then zA u1 else u1 from hu2)
 have NX := zdy (Zz H1.out f1 p1)
 rw [<- hu2] at f2 p2 ew2 FE
 clear hu2
 go_upto_if 106 with fail
 clear k0 kf0 k16 kf16
 have q1 : 0 < n := by omega
 go_cut [] from 103 to 108 (fun wx => Hid (St w0 F0 tb u2 wx))
 case first =>
  cases ep : u1.pend with
  | true =>
   have E2 : Hid (u2 = zA u1) := zdy (by rw [PE.out, if_pos ep])
   go_wp2_with fail
   refine NX.out.mono ?_; rintro e v2 ⟨⟨v, rfl⟩, h1⟩
   have H2 := zdy h1
   clear h1
   clear NX
   go_wp2_with fail
   go_meet
   exact zdy (by rw [E2.out]; exact H2.out)
  | false =>
   have E2 : Hid (u2 = u1) := zdy (by rw [PE.out, if_neg (by rw [ep]; decide)])
   go_wp2_with fail
   go_meet
   exact zdy (by rw [E2.out]; exact H1.out)
 case rest =>
  obtain ⟨W2, hW2⟩ : ∃ W2, W2 = wc := ⟨_, rfl⟩
  rw [<- hW2] at hcut ⊢
  have H2 := hcut
  clear hcut hW2 NX PE H1
  have w2b := f2.w1
  have x2b := f2.x0
  have x2c : u2.cur.x < u2.w := by have := f2.cx; have := p2.1; omega
  have mx := zdz (u2.cur.x + n) (by omega)
  obtain ⟨f3, p3, ew3, fit⟩ := VI f2 p2 n (by omega)
  have NX := zdy (fun W' (hs : St w0 F0 tb u2 W') => Zz hs f2 p2)
  go_upto_region 15 with fail
  obtain ⟨L1, B1⟩ := H2.out.bk
  dsimp only [trmV, setX, setY] at B1
  have k3 := fun d os => (B1.regrown d os).c 3 _ rfl
  have k0 := fun d os => (B1.regrown d os).c 0 _ rfl
  clear B1
  refine zf 12 (by kernel_rfl) (by kernel_rfl) ?_
  simp only [zdB, zdC, zdD, zdE]
  repeat (first | go_big_quiet_step (fail) | quiet_step (fail))
  refine wpQuiet_nil ?_
  intro _ hw'
  obtain ⟨⟨dq, osq⟩, hw''⟩ := hw'
  subst hw''
  have H2 := zdy (H2.out.below (below_regrown W2 dq osq))
  clear k3 k0
  generalize grow (redrawn W2 dq) osq = W3 at *
  go_upto_if 121 with fail
  by_cases ov : u2.w < u2.cur.x + n /\ u2.wrap = false
  ·have FE : Hid (zU t s = u2) := zdy (by rw [FE.out, if_pos ov])
   obtain ⟨o1, o2⟩ := ov
   obtain ⟨L1, B1⟩ := H2.out.bk
   dsimp only [trmV, setX, setY] at B1
   have k17 := B1.c 17 _ rfl
   have kf17 := B1.f 17
   clear B1
   rw [o2] at k17
   go_wp2_with fail
   go_end0
   exact ⟨⟨_, rfl⟩, UP.out _ (by rw [FE.out]; exact H2.out)⟩
  have FE := zdy (show zU t s = _ by rw [FE.out, if_neg ov])
  obtain ⟨u3, hu3⟩ : ∃ u, u = jG u2 n := ⟨_, rfl⟩
  have OE := zdy (show u3 = if u2.w < u2.cur.x + n then zA u2 else u2 from hu3)
  rw [<- hu3] at f3 p3 ew3 fit FE
  clear hu3
  have OV := zdy ov
  clear ov
  go_cut [] from 121 to 128 (fun wx => Hid (St w0 F0 tb u3 wx))
  case first =>
   by_cases o1 : u2.w < u2.cur.x + n
   ·have E3 : Hid (u3 = zA u2) := zdy (by rw [OE.out, if_pos o1])
    have o2 : u2.wrap = true := by
     cases q : u2.wrap with
     | true => rfl
     | false => exact absurd ⟨o1, q⟩ OV.out
    have NX := zdy (NX.out W3 H2.out)
    obtain ⟨L1, B1⟩ := H2.out.bk
    dsimp only [trmV, setX, setY] at B1
    have k17 := B1.c 17 _ rfl
    have kf17 := B1.f 17
    clear B1
    rw [o2] at k17
    clear o2
    go_wp2_with fail
    refine NX.out.mono ?_; rintro e v3 ⟨⟨v, rfl⟩, h1⟩
    have H3 := zdy h1
    clear h1
    clear NX
    go_wp2_with fail
    go_meet
    exact zdy (by rw [E3.out]; exact H3.out)
   ·have E3 : Hid (u3 = u2) := zdy (by rw [OE.out, if_neg o1])
    go_wp2_with fail
    go_meet
    exact zdy (by rw [E3.out]; exact H2.out)
  case rest =>
   obtain ⟨W4, hW4⟩ : ∃ W4, W4 = wc := ⟨_, rfl⟩
   rw [<- hW4] at hcut ⊢
   have H3 := hcut
   clear hcut hW4 NX OE OV H2 mx
   obtain ⟨f4, p4, ew4, ec4⟩ := ins_ok f3 p3 n
   have SH := zdy (Zx H3.out f3 p3 n (by omega) (by omega))
   obtain ⟨u4, hu4⟩ : ∃ u, u = insT u3 n := ⟨_, rfl⟩
   have IE := zdy (show u4 = if u3.ins = true then zJ u3 n else u3 from hu4)
   rw [<- hu4] at f4 p4 ew4 ec4 FE
   clear hu4
   obtain ⟨L1, B1⟩ := H3.out.bk
   dsimp only [trmV, setX, setY] at B1
   have k18 := B1.c 18 _ rfl
   have kf18 := B1.f 18
   clear B1
   go_upto_if 132 with fail
   clear k18 kf18
   go_cut [] from 129 to 135 (fun wx => Hid (St w0 F0 tb u4 wx))
   case first =>
    cases ei : u3.ins with
    | true =>
     have E4 : Hid (u4 = zJ u3 n) := zdy (by rw [IE.out, if_pos ei])
     go_wp2_with fail
     refine SH.out.mono ?_; rintro e v4 ⟨⟨v, rfl⟩, h1⟩
     have H4 := zdy h1
     clear h1
     clear SH
     go_wp2_with fail
     go_meet
     exact zdy (by rw [E4.out]; exact H4.out)
    | false =>
     have E4 : Hid (u4 = u3) := zdy (by rw [IE.out, if_neg (by rw [ei]; decide)])
     go_wp2_with fail
     go_meet
     exact zdy (by rw [E4.out]; exact H3.out)
   case rest =>
    obtain ⟨W5, hW5⟩ : ∃ W5, W5 = wc := ⟨_, rfl⟩
    rw [<- hW5] at hcut ⊢
    have H4 := hcut
    clear hcut hW5 SH IE H3
    have fit4 : u4.cur.x + n <= u4.w := by rw [ec4, ew4]; exact fit
    have w4b := f4.w1
    have x4b := f4.x0
    have y4b := f4.y0
    have y4c : u4.cur.y < u4.h := by have := f4.cy; have := p4.2; omega
    have x4c : u4.cur.x < u4.w := by have := f4.cx; have := p4.1; omega
    have r4 := f4.row y4b y4c
    have ar4 := f4.ar
    have m1 := zdz (u4.cur.y * u4.w) (by omega)
    have m2 := zdz (u4.cur.y * u4.w + u4.cur.x) (by omega)
    have m3 := zdz (u4.cur.x + n) (by omega)
    obtain ⟨u5, hu5⟩ : ∃ u, u = openT u4 := ⟨_, rfl⟩
    have f5 : Fine u5 := by rw [hu5]; exact jc f4 _
    have e5 : u5.w = u4.w /\ u5.h = u4.h /\ u5.cur = u4.cur := by rw [hu5]; exact ⟨rfl, rfl, rfl⟩
    have WR : Hid (∀ W', St w0 F0 tb u5 W' -> Calls Tryz.prog 95 #[.pointer (some ⟨tb, 0, none⟩), .int .i64 u4.cur.x, .int .i64 u4.cur.y, .agg #[.string s, .int .i64 n], styV u4.cur.st.fg u4.cur.st.bg u4.cur.st.at_] W' (Vd w0 F0 tb (zI u5 u4.cur.x u4.cur.y s n u4.cur.st))) := zdy (fun W' hs => Zu hs f5 _ _ s n _ x4b (by rw [e5.1]; exact x4c) (by rw [e5.1]; exact fit4) y4b (by rw [e5.2.1]; exact y4c) N2.out)
    have cw5 := jR u5 u4.cur.x u4.cur.y s n u4.cur.st
    have SD : Hid (∀ W', St w0 F0 tb (zI u5 u4.cur.x u4.cur.y s n u4.cur.st) W' -> Calls Tryz.prog 96 #[.pointer (some ⟨tb, 0, none⟩), .int .i64 (u4.cur.x + n)] W' (Vd w0 F0 tb (qe (zI u5 u4.cur.x u4.cur.y s n u4.cur.st) (u4.cur.x + n)))) := zdy (fun W' hs => QI hs (by rw [cw5.w]; exact f5.w0) (by rw [cw5.w]; exact f5.w1) _)
    have CX := zdy (show (zI u5 u4.cur.x u4.cur.y s n u4.cur.st).cur = u4.cur by rw [cw5.cur, e5.2.2])
    have FE : Hid (zU t s = qe (zI u5 u4.cur.x u4.cur.y s n u4.cur.st) (u4.cur.x + n)) := zdy (by rw [hu5]; exact FE.out)
    have OP : Hid (∀ W', St w0 F0 tb u4 W' -> St w0 F0 tb u5 (W'.setCell ⟨tb, 24, none⟩ (.int .i64 (u4.cur.y * u4.w + u4.cur.x)))) := zdy (fun W' hs => by rw [hu5]; exact hs.setOpn _)
    have C5 := zdy e5.2.2
    unfold styV at WR
    clear hu5 f5 e5 cw5 r4 ar4 f4 p4 f3 p3 f2 p2 f1 p1 fit c1 c2 ec4 ew1 ew2 ew3 ew4
    go_wp2_with fail
    obtain ⟨L1, B1⟩ := H4.out.bk
    dsimp only [trmV, setX, setY] at B1
    have k4 := fun d os => (B1.regrown d os).c 4 _ rfl
    have k0 := fun d os => (B1.regrown d os).c 0 _ rfl
    have k3 := fun d os => (B1.regrown d os).c 3 _ rfl
    clear B1
    refine zf 20 (by kernel_rfl) (by kernel_rfl) ?_
    simp only [zdB, zdC, zdD, zdE]
    repeat (first | go_big_quiet_step (fail) | quiet_step (fail))
    refine wpQuiet_nil ?_
    intro _ hw'
    obtain ⟨⟨dq, osq⟩, hw''⟩ := hw'
    subst hw''
    have H4 := zdy (H4.out.below (below_regrown W5 dq osq))
    clear k4 k0 k3
    generalize grow (redrawn W5 dq) osq = W6 at *
    obtain ⟨L1, B1⟩ := H4.out.bk
    dsimp only [trmV, setX, setY] at B1
    have k24 := B1.c 24 _ rfl
    have kf24 := B1.f 24
    clear B1
    have H5 := zdy (OP.out W6 H4.out)
    clear H4
    go_upto_region 21 with fail
    obtain ⟨V7, hV⟩ : ∃ V, V = W6.setCell ⟨tb, 24, none⟩ (.int .i64 (u4.cur.y * u4.w + u4.cur.x)) := ⟨_, rfl⟩
    rw [<- hV] at H5 ⊢
    clear hV k24 kf24
    obtain ⟨L1, B1⟩ := H5.out.bk
    dsimp only [trmV, setX, setY] at B1
    have k3 := fun d os => (B1.regrown d os).c 3 _ rfl
    have k4 := fun d os => (B1.regrown d os).c 4 _ rfl
    have k5 := fun d os => (B1.regrown d os).c 5 _ rfl
    have k6 := fun d os => (B1.regrown d os).c 6 _ rfl
    have k7 := fun d os => (B1.regrown d os).c 7 _ rfl
    clear B1
    rw [C5.out] at k3 k4 k5 k6 k7
    refine zf 19 (by kernel_rfl) (by kernel_rfl) ?_
    simp only [zdB, zdC, zdD, zdE]
    repeat (first | go_big_quiet_step (fail) | quiet_step (fail))
    refine wpQuiet_nil ?_
    intro _ hw'
    obtain ⟨⟨dq, osq⟩, hw''⟩ := hw'
    subst hw''
    have H5 := zdy (H5.out.below (below_regrown V7 dq osq))
    clear k3 k4 k5 k6 k7
    generalize grow (redrawn V7 dq) osq = W7 at *
    have WR := zdy (WR.out W7 H5.out)
    go_wp2_with fail
    refine WR.out.mono ?_; rintro e w8 ⟨⟨v, rfl⟩, h1⟩
    have H6 := zdy h1
    clear h1
    clear WR H5
    have SD := zdy (SD.out w8 H6.out)
    obtain ⟨L1, B1⟩ := H6.out.bk
    dsimp only [trmV, setX, setY] at B1
    have k3 := B1.c 3 _ rfl
    have kf3 := B1.f 3
    clear B1
    rw [CX.out] at k3
    clear H6
    go_wp2_with fail
    refine SD.out.mono ?_; rintro e w9 ⟨⟨v, rfl⟩, h1⟩
    have H7 := zdy h1
    clear h1
    clear SD
    go_wp2_with fail
    go_end0
    exact ⟨⟨_, rfl⟩, UP.out _ (by rw [FE.out]; exact H7.out)⟩
end
end
section
open Go Go.RowKit Go.Sort
section
variable {w0 : World} {F0 : List Nat} {tb : Nat} {t t' : Trm} {W W' : World} {L : Lay}
def cellS (B : Nat) : Spec := ⟨fun v w => ∃ g, v = .pointer (some ⟨g, 0, none⟩) /\ B <= g /\ Bk w g [.string ⟨#[]⟩, .int .i8 0, .int .i32 0, .int .i32 0, .int .u8 0] 79, fun v w w' hb ⟨g, e, h1, h2⟩ => ⟨g, e, h1, h2.of_eq (hb.block g h2.lt)⟩⟩
theorem print_eq (t : Trm) (s : ByteArray) (c : Cel) (x y : Int) (o : 0 <= t.opn) (hc : c = t.cell t.opn.toNat) (hx : x = t.opn % t.w) (hy : y = t.opn / t.w) : qf t s = match oneB (c.text ++ s) with
  | some m => if m = c.wide then zI t x y (c.text ++ s) m c.st else if x < t.w - 1 then qe (zI t x y (c.text ++ s) m c.st) (x + 2) else t
  | none => zU t s := by
 subst hc hx hy
 unfold qf
 rw [if_pos o]
 cases oneB ((t.cell t.opn.toNat).text ++ s) <;> rfl
set_option maxHeartbeats 16000000 in
set_option maxRecDepth 100000 in
theorem zcM (h : St w0 F0 tb t W) (f : Fine t) (p : zk t) (oa : OpnAt t) (s : ByteArray) (hs : s.size <= 64) (n2 : zn s = 0 \/ zn s = 1 \/ zn s = 2) : Calls Tryz.prog 77 #[.pointer (some ⟨tb, 0, none⟩), .string s] W (Vd w0 F0 tb (qf t s)) := by
 obtain ⟨n, EN⟩ : ∃ n, Hid (n = zn s) := ⟨_, zdy rfl⟩
 have FE := zdy (VG t s n EN.out)
 have N2 : Hid (n = 0 \/ n = 1 \/ n = 2) := zdy (by rw [EN.out]; exact n2)
 have nb : 0 <= n /\ n <= 2 := by have := N2.out; omega
 obtain ⟨nb0, nb1⟩ := nb
 obtain ⟨px0, px1, py0, py1, pe⟩ := Xk f p oa
 have lo := oa.lo
 have ohi := oa.hi
 have wid := oa.wide
 have fits := oa.fits
 have ctx := oa.text
 have cl := f.cl
 have ar := f.ar
 have w1 := f.w1
 have w0' := p.1
 have hh := f.h1
 obtain ⟨I, eI⟩ := Int.eq_ofNat_of_zero_le lo
 have hI : t.opn.toNat = I := by omega
 have hIl : I < t.cells.length := by omega
 obtain ⟨x, hx⟩ : ∃ x, x = t.opn % t.w := ⟨_, rfl⟩
 obtain ⟨y, hy⟩ : ∃ y, y = t.opn / t.w := ⟨_, rfl⟩
 obtain ⟨c, hc⟩ : ∃ c, c = t.cell t.opn.toNat := ⟨_, rfl⟩
 have PE := zdy (print_eq t s c x y lo hc hx hy)
 obtain ⟨L1, g, cap, B1, ec, hcp, fs⟩ := h.cellC I hIl
 rw [<- hI, <- hc] at fs
 rw [<- hc] at wid fits ctx
 rw [<- hx] at px0 px1 fits
 rw [<- hy] at py0 py1
 rw [hI] at fs
 have k24 := fun d os => (B1.regrown d os).c 24 _ rfl
 have k2 : ∀ d os, (grow (redrawn W d) os).cell? ⟨tb, 2, none⟩ = some (.slice (some ⟨g, 0, none⟩) t.cells.length cap) := fun d os => by rw [<- ec]; exact (B1.regrown d os).c 2 _ rfl
 rw [eI] at k24
 have z0 := fun d os => (fs _ (below_regrown W d os)).1
 have z1 := fun d os => (fs _ (below_regrown W d os)).2.1
 have z2 := fun d os => (fs _ (below_regrown W d os)).2.2.1
 have z3 := fun d os => (fs _ (below_regrown W d os)).2.2.2.1
 have z4 := fun d os => (fs _ (below_regrown W d os)).2.2.2.2
 have i0 : (0 : Int) <= (I : Int) := by omega
 have i1 : (I : Int) < (t.cells.length : Int) := by omega
 have j24 := B1.c 24 _ rfl
 rw [eI] at j24
 have d1 : (I : Int).tmod t.w = x := by rw [Int.tmod_eq_emod_of_nonneg (by omega), <- eI]; exact hx.symm
 have d2 : (I : Int).tdiv t.w = y := by rw [Int.tdiv_eq_ediv_of_nonneg (by omega), <- eI]; exact hy.symm
 have d3 : IntKind.i64.wrap x = x := zdz _ (by omega)
 have d4 : IntKind.i64.wrap y = y := zdz _ (by omega)
 have d5 := zdz (x + 2) (by omega)
 have d6 := zdz (t.w - 1) (by omega)
 have d7 : IntKind.i64.wrap c.wide = c.wide := zdz _ (by omega)
 have wz : (t.w == 0) = false := by simpa using (show t.w ≠ 0 by omega)
 have sb : (9223372036854775807 < c.text.size + s.size) = False := by simp; omega
 have ON := zdy (d_One (c.text ++ s) (by rw [ByteArray.size_append]; omega))
 have OF := zdy (fun m (e : oneB (c.text ++ s) = some m) => Xb e)
 have EI := zdy eI
 have H := zdy h
 clear h oa B1 ec hcp fs cl ar hI hIl hx hy hc pe lo ohi n2 eI
 go_enter Tryz.func77, Tryz.ntmps77
 go_upto_region 1 with fail
 clear j24
 refine xF 12 [(4, cellS W.heap.size)] [4] (by kernel_rfl) (by kernel_rfl) (by kernel_rfl) (by intro t ht; simp at ht; subst ht; intro h; cases h) ?_
 simp only [zdB, zdC, zdD, zdE]
 repeat (refine xk (by rfl) (fun K hK => ?_); go_simp; first | (refine hK _ ?_; clear hK K) | (apply Exists.intro; refine ⟨fun _ => ?_, hK _ ?_⟩; (fail); clear hK K))
 refine jS 4 rfl (by simp) (by first | (simp; done) | simp [zQ]) (by rfl) (by rfl) (by intro _ _ h; cases h) (fun x => ?_) ?_
 ·go_simp
  exact ⟨(Below.refl _ _).alloc zdA _, ⟨_, rfl, by simp [redrawn], by rw [show (redrawn W x.d).heap.size + x.os.size = (grow (redrawn W x.d) x.os).heap.size by simp [grow]]; exact Bk.new _ _ _⟩⟩
 repeat (refine xk (by rfl) (fun K hK => ?_); go_simp; first | (refine hK _ ?_; clear hK K) | (apply Exists.intro; refine ⟨fun _ => ?_, hK _ ?_⟩; (fail); clear hK K))
 refine xE ?_
 intro W1 vs1 hl hv
 obtain ⟨g4, e4, lg, og⟩ := hv 4 (by simp) rfl
 have hb1 := jC.1 hl
 simp only [zR, e4]
 have s0 := og.c 0 _ rfl
 have s1 := og.c 1 _ rfl
 have s2 := og.c 2 _ rfl
 have s3 := og.c 3 _ rfl
 have s4 := og.c 4 _ rfl
 have q0 := og.f 0
 have q1 := og.f 1
 have q2 := og.f 2
 have q3 := og.f 3
 have q4 := og.f 4
 have OG := zdy (((((og.set 0 (.string c.text)).set 1 (.int .i8 c.wide)).set 2 (.int .i32 c.st.fg)).set 3 (.int .i32 c.st.bg)).set 4 (.int .u8 (bI c.st.at_)))
 have HG := zdy hb1
 clear hl hv hb1 og z0 z1 z2 z3 z4 k2 k24 e4
 go_upto_region 2 with fail
 obtain ⟨V, hV⟩ : ∃ V, V = ((((W1.setCell ⟨g4, 0, none⟩ (.string c.text)).setCell ⟨g4, 1, none⟩ (.int .i8 c.wide)).setCell ⟨g4, 2, none⟩ (.int .i32 c.st.fg)).setCell ⟨g4, 3, none⟩ (.int .i32 c.st.bg)).setCell ⟨g4, 4, none⟩ (.int .u8 (bI c.st.at_)) := ⟨_, rfl⟩
 rw [<- hV] at OG ⊢
 have BV : Below W.heap.size W V := by rw [hV]; exact ((((HG.out.setCell (p := ⟨g4, 0, none⟩) lg _).setCell (p := ⟨g4, 1, none⟩) lg _).setCell (p := ⟨g4, 2, none⟩) lg _).setCell (p := ⟨g4, 3, none⟩) lg _).setCell (p := ⟨g4, 4, none⟩) lg _
 have H := zdy (H.out.below BV)
 clear hV BV HG s0 s1 s2 s3 s4 q0 q1 q2 q3 q4
 have OG : Hid (Bk V g4 [.string c.text, .int .i8 c.wide, .int .i32 c.st.fg, .int .i32 c.st.bg, .int .u8 (bI c.st.at_)] 79) := OG
 have r0 := OG.out.c 0 _ rfl
 go_wp2_with fail
 refine (ON.out V).mono ?_; rintro e W2 ⟨rfl, hb⟩
 have H := zdy (H.out.below hb)
 have OG := zdy (OG.out.of_eq (hb.block g4 OG.out.lt))
 clear ON hb r0 sb
 cases eo : oneB (c.text ++ s) with
 | none =>
  unfold oneV
  have PE : Hid (qf t s = zU t s) := zdy (by rw [PE.out, eo])
  have UP : Hid (∀ W', St w0 F0 tb (zU t s) W' -> St w0 F0 tb (qf t s) W') := zdy (fun _ k => by rw [PE.out]; exact k)
  have H := zdy (H.out.below ((Below.refl _ _).alloc zdA (.cells #[.string ⟨#[]⟩, .int .i64 0] 142)))
  clear OF OG eo d1 d2 d3 d4 d5 d6 d7 wz wid fits ctx px0 px1 py0 py1 w1 w0' hh i0 i1
  go_upto_region 10 with fail
  obtain ⟨Wf, hWf⟩ : ∃ Wf, Wf = W2.alloc (.cells #[.string ⟨#[]⟩, .int .i64 0] 142) := ⟨_, rfl⟩
  rw [<- hWf] at H ⊢
  clear hWf
  obtain ⟨u1, hu1⟩ : ∃ u, u = ({ t with opn := -1 } : Trm) := ⟨_, rfl⟩
  have f1 : Fine u1 := by rw [hu1]; exact jc f _
  have p1 : zk u1 := by rw [hu1]; exact p
  have ew1 : u1.w = t.w := by rw [hu1]
  have H1 := zdy (H.out.setOpn (-1))
  rw [<- hu1] at H1 FE
  obtain ⟨L1, B1⟩ := H.out.bk
  dsimp only [trmV, setX, setY] at B1
  have k24 := B1.c 24 _ rfl
  have kf24 := B1.f 24
  clear B1
  clear H hu1
  go_upto_region 11 with fail
  obtain ⟨V1, hV⟩ : ∃ V, V = Wf.setCell ⟨tb, 24, none⟩ (.int .i64 (-1)) := ⟨_, rfl⟩
  rw [<- hV] at H1 ⊢
  clear hV k24 kf24
  have WD := zdy (VA s (by omega) V1)
  rw [<- EN.out] at WD
  go_wp2_with fail
  refine WD.out.mono ?_; rintro e V2 ⟨rfl, hb⟩
  have H1 := zdy (H1.out.below hb)
  clear WD hb
  by_cases c1 : n = 0
  ·have FE : Hid (zU t s = u1) := zdy (by rw [FE.out, if_pos (Or.inl c1)])
   have cz : (n == 0) = true := by simpa using c1
   go_wp2_with fail
   go_end0
   exact ⟨⟨_, rfl⟩, UP.out _ (by rw [FE.out]; exact H1.out)⟩
  have cz : (n == 0) = false := by simpa using c1
  by_cases c2 : t.w < n
  ·have FE : Hid (zU t s = u1) := zdy (by rw [FE.out, if_pos (Or.inr c2)])
   obtain ⟨L1, B1⟩ := H1.out.bk
   dsimp only [trmV, setX, setY] at B1
   have k0 := B1.c 0 _ rfl
   have kf0 := B1.f 0
   clear B1
   rw [ew1] at k0
   go_wp2_with fail
   go_end0
   exact ⟨⟨_, rfl⟩, UP.out _ (by rw [FE.out]; exact H1.out)⟩
  have FE := zdy (show zU t s = _ by rw [FE.out, if_neg (fun z => z.elim c1 c2)])
  obtain ⟨f2, p2, ew2⟩ := VH f1 p1
  obtain ⟨L1, B1⟩ := H1.out.bk
  dsimp only [trmV, setX, setY] at B1
  have k0 := B1.c 0 _ rfl
  have kf0 := B1.f 0
  have k16 := B1.c 16 _ rfl
  have kf16 := B1.f 16
  clear B1
  rw [ew1] at k0
  obtain ⟨u2, hu2⟩ : ∃ u, u = jg u1 := ⟨_, rfl⟩
  have PE := zdy (show u2 = if u1.pend = true then zA u1 else u1 from hu2)
  have NX := zdy (Zz H1.out f1 p1)
  rw [<- hu2] at f2 p2 ew2 FE
  clear hu2
  go_upto_if 106 with fail
  clear k0 kf0 k16 kf16
  have q1 : 0 < n := by omega
  go_cut [] from 103 to 108 (fun wx => Hid (St w0 F0 tb u2 wx))
  case first =>
   cases ep : u1.pend with
   | true =>
    have E2 : Hid (u2 = zA u1) := zdy (by rw [PE.out, if_pos ep])
    go_wp2_with fail
    refine NX.out.mono ?_; rintro e v2 ⟨⟨v, rfl⟩, h1⟩
    have H2 := zdy h1
    clear h1
    clear NX
    go_wp2_with fail
    go_meet
    exact zdy (by rw [E2.out]; exact H2.out)
   | false =>
    have E2 : Hid (u2 = u1) := zdy (by rw [PE.out, if_neg (by rw [ep]; decide)])
    go_wp2_with fail
    go_meet
    exact zdy (by rw [E2.out]; exact H1.out)
  case rest =>
   obtain ⟨W2, hW2⟩ : ∃ W2, W2 = wc := ⟨_, rfl⟩
   rw [<- hW2] at hcut ⊢
   have H2 := hcut
   clear hcut hW2 NX PE H1
   have w2b := f2.w1
   have x2b := f2.x0
   have x2c : u2.cur.x < u2.w := by have := f2.cx; have := p2.1; omega
   have mx := zdz (u2.cur.x + n) (by omega)
   obtain ⟨f3, p3, ew3, fit⟩ := VI f2 p2 n (by omega)
   have NX := zdy (fun W' (hs : St w0 F0 tb u2 W') => Zz hs f2 p2)
   go_upto_region 15 with fail
   obtain ⟨L1, B1⟩ := H2.out.bk
   dsimp only [trmV, setX, setY] at B1
   have k3 := fun d os => (B1.regrown d os).c 3 _ rfl
   have k0 := fun d os => (B1.regrown d os).c 0 _ rfl
   clear B1
   refine zf 12 (by kernel_rfl) (by kernel_rfl) ?_
   simp only [zdB, zdC, zdD, zdE]
   repeat (first | go_big_quiet_step (fail) | quiet_step (fail))
   refine wpQuiet_nil ?_
   intro _ hw'
   obtain ⟨⟨dq, osq⟩, hw''⟩ := hw'
   subst hw''
   have H2 := zdy (H2.out.below (below_regrown W2 dq osq))
   clear k3 k0
   generalize grow (redrawn W2 dq) osq = W3 at *
   go_upto_if 121 with fail
   by_cases ov : u2.w < u2.cur.x + n /\ u2.wrap = false
   ·have FE : Hid (zU t s = u2) := zdy (by rw [FE.out, if_pos ov])
    obtain ⟨o1, o2⟩ := ov
    obtain ⟨L1, B1⟩ := H2.out.bk
    dsimp only [trmV, setX, setY] at B1
    have k17 := B1.c 17 _ rfl
    have kf17 := B1.f 17
    clear B1
    rw [o2] at k17
    go_wp2_with fail
    go_end0
    exact ⟨⟨_, rfl⟩, UP.out _ (by rw [FE.out]; exact H2.out)⟩
   have FE := zdy (show zU t s = _ by rw [FE.out, if_neg ov])
   obtain ⟨u3, hu3⟩ : ∃ u, u = jG u2 n := ⟨_, rfl⟩
   have OE := zdy (show u3 = if u2.w < u2.cur.x + n then zA u2 else u2 from hu3)
   rw [<- hu3] at f3 p3 ew3 fit FE
   clear hu3
   have OV := zdy ov
   clear ov
   go_cut [] from 121 to 128 (fun wx => Hid (St w0 F0 tb u3 wx))
   case first =>
    by_cases o1 : u2.w < u2.cur.x + n
    ·have E3 : Hid (u3 = zA u2) := zdy (by rw [OE.out, if_pos o1])
     have o2 : u2.wrap = true := by
      cases q : u2.wrap with
      | true => rfl
      | false => exact absurd ⟨o1, q⟩ OV.out
     have NX := zdy (NX.out W3 H2.out)
     obtain ⟨L1, B1⟩ := H2.out.bk
     dsimp only [trmV, setX, setY] at B1
     have k17 := B1.c 17 _ rfl
     have kf17 := B1.f 17
     clear B1
     rw [o2] at k17
     clear o2
     go_wp2_with fail
     refine NX.out.mono ?_; rintro e v3 ⟨⟨v, rfl⟩, h1⟩
     have H3 := zdy h1
     clear h1
     clear NX
     go_wp2_with fail
     go_meet
     exact zdy (by rw [E3.out]; exact H3.out)
    ·have E3 : Hid (u3 = u2) := zdy (by rw [OE.out, if_neg o1])
     go_wp2_with fail
     go_meet
     exact zdy (by rw [E3.out]; exact H2.out)
   case rest =>
    obtain ⟨W4, hW4⟩ : ∃ W4, W4 = wc := ⟨_, rfl⟩
    rw [<- hW4] at hcut ⊢
    have H3 := hcut
    clear hcut hW4 NX OE OV H2 mx
    obtain ⟨f4, p4, ew4, ec4⟩ := ins_ok f3 p3 n
    have SH := zdy (Zx H3.out f3 p3 n (by omega) (by omega))
    obtain ⟨u4, hu4⟩ : ∃ u, u = insT u3 n := ⟨_, rfl⟩
    have IE := zdy (show u4 = if u3.ins = true then zJ u3 n else u3 from hu4)
    rw [<- hu4] at f4 p4 ew4 ec4 FE
    clear hu4
    obtain ⟨L1, B1⟩ := H3.out.bk
    dsimp only [trmV, setX, setY] at B1
    have k18 := B1.c 18 _ rfl
    have kf18 := B1.f 18
    clear B1
    go_upto_if 132 with fail
    clear k18 kf18
    go_cut [] from 129 to 135 (fun wx => Hid (St w0 F0 tb u4 wx))
    case first =>
     cases ei : u3.ins with
     | true =>
      have E4 : Hid (u4 = zJ u3 n) := zdy (by rw [IE.out, if_pos ei])
      go_wp2_with fail
      refine SH.out.mono ?_; rintro e v4 ⟨⟨v, rfl⟩, h1⟩
      have H4 := zdy h1
      clear h1
      clear SH
      go_wp2_with fail
      go_meet
      exact zdy (by rw [E4.out]; exact H4.out)
     | false =>
      have E4 : Hid (u4 = u3) := zdy (by rw [IE.out, if_neg (by rw [ei]; decide)])
      go_wp2_with fail
      go_meet
      exact zdy (by rw [E4.out]; exact H3.out)
    case rest =>
     obtain ⟨W5, hW5⟩ : ∃ W5, W5 = wc := ⟨_, rfl⟩
     rw [<- hW5] at hcut ⊢
     have H4 := hcut
     clear hcut hW5 SH IE H3
     have fit4 : u4.cur.x + n <= u4.w := by rw [ec4, ew4]; exact fit
     have w4b := f4.w1
     have x4b := f4.x0
     have y4b := f4.y0
     have y4c : u4.cur.y < u4.h := by have := f4.cy; have := p4.2; omega
     have x4c : u4.cur.x < u4.w := by have := f4.cx; have := p4.1; omega
     have r4 := f4.row y4b y4c
     have ar4 := f4.ar
     have m1 := zdz (u4.cur.y * u4.w) (by omega)
     have m2 := zdz (u4.cur.y * u4.w + u4.cur.x) (by omega)
     have m3 := zdz (u4.cur.x + n) (by omega)
     obtain ⟨u5, hu5⟩ : ∃ u, u = openT u4 := ⟨_, rfl⟩
     have f5 : Fine u5 := by rw [hu5]; exact jc f4 _
     have e5 : u5.w = u4.w /\ u5.h = u4.h /\ u5.cur = u4.cur := by rw [hu5]; exact ⟨rfl, rfl, rfl⟩
     have WR : Hid (∀ W', St w0 F0 tb u5 W' -> Calls Tryz.prog 95 #[.pointer (some ⟨tb, 0, none⟩), .int .i64 u4.cur.x, .int .i64 u4.cur.y, .agg #[.string s, .int .i64 n], styV u4.cur.st.fg u4.cur.st.bg u4.cur.st.at_] W' (Vd w0 F0 tb (zI u5 u4.cur.x u4.cur.y s n u4.cur.st))) := zdy (fun W' hs => Zu hs f5 _ _ s n _ x4b (by rw [e5.1]; exact x4c) (by rw [e5.1]; exact fit4) y4b (by rw [e5.2.1]; exact y4c) N2.out)
     have cw5 := jR u5 u4.cur.x u4.cur.y s n u4.cur.st
     have SD : Hid (∀ W', St w0 F0 tb (zI u5 u4.cur.x u4.cur.y s n u4.cur.st) W' -> Calls Tryz.prog 96 #[.pointer (some ⟨tb, 0, none⟩), .int .i64 (u4.cur.x + n)] W' (Vd w0 F0 tb (qe (zI u5 u4.cur.x u4.cur.y s n u4.cur.st) (u4.cur.x + n)))) := zdy (fun W' hs => QI hs (by rw [cw5.w]; exact f5.w0) (by rw [cw5.w]; exact f5.w1) _)
     have CX := zdy (show (zI u5 u4.cur.x u4.cur.y s n u4.cur.st).cur = u4.cur by rw [cw5.cur, e5.2.2])
     have FE : Hid (zU t s = qe (zI u5 u4.cur.x u4.cur.y s n u4.cur.st) (u4.cur.x + n)) := zdy (by rw [hu5]; exact FE.out)
     have OP : Hid (∀ W', St w0 F0 tb u4 W' -> St w0 F0 tb u5 (W'.setCell ⟨tb, 24, none⟩ (.int .i64 (u4.cur.y * u4.w + u4.cur.x)))) := zdy (fun W' hs => by rw [hu5]; exact hs.setOpn _)
     have C5 := zdy e5.2.2
     unfold styV at WR
     clear hu5 f5 e5 cw5 r4 ar4 f4 p4 f3 p3 f2 p2 f1 p1 fit c1 c2 ec4 ew1 ew2 ew3 ew4
     go_wp2_with fail
     obtain ⟨L1, B1⟩ := H4.out.bk
     dsimp only [trmV, setX, setY] at B1
     have k4 := fun d os => (B1.regrown d os).c 4 _ rfl
     have k0 := fun d os => (B1.regrown d os).c 0 _ rfl
     have k3 := fun d os => (B1.regrown d os).c 3 _ rfl
     clear B1
     refine zf 20 (by kernel_rfl) (by kernel_rfl) ?_
     simp only [zdB, zdC, zdD, zdE]
     repeat (first | go_big_quiet_step (fail) | quiet_step (fail))
     refine wpQuiet_nil ?_
     intro _ hw'
     obtain ⟨⟨dq, osq⟩, hw''⟩ := hw'
     subst hw''
     have H4 := zdy (H4.out.below (below_regrown W5 dq osq))
     clear k4 k0 k3
     generalize grow (redrawn W5 dq) osq = W6 at *
     obtain ⟨L1, B1⟩ := H4.out.bk
     dsimp only [trmV, setX, setY] at B1
     have k24 := B1.c 24 _ rfl
     have kf24 := B1.f 24
     clear B1
     have H5 := zdy (OP.out W6 H4.out)
     clear H4
     go_upto_region 21 with fail
     obtain ⟨V7, hV⟩ : ∃ V, V = W6.setCell ⟨tb, 24, none⟩ (.int .i64 (u4.cur.y * u4.w + u4.cur.x)) := ⟨_, rfl⟩
     rw [<- hV] at H5 ⊢
     clear hV k24 kf24
     obtain ⟨L1, B1⟩ := H5.out.bk
     dsimp only [trmV, setX, setY] at B1
     have k3 := fun d os => (B1.regrown d os).c 3 _ rfl
     have k4 := fun d os => (B1.regrown d os).c 4 _ rfl
     have k5 := fun d os => (B1.regrown d os).c 5 _ rfl
     have k6 := fun d os => (B1.regrown d os).c 6 _ rfl
     have k7 := fun d os => (B1.regrown d os).c 7 _ rfl
     clear B1
     rw [C5.out] at k3 k4 k5 k6 k7
     refine zf 19 (by kernel_rfl) (by kernel_rfl) ?_
     simp only [zdB, zdC, zdD, zdE]
     repeat (first | go_big_quiet_step (fail) | quiet_step (fail))
     refine wpQuiet_nil ?_
     intro _ hw'
     obtain ⟨⟨dq, osq⟩, hw''⟩ := hw'
     subst hw''
     have H5 := zdy (H5.out.below (below_regrown V7 dq osq))
     clear k3 k4 k5 k6 k7
     generalize grow (redrawn V7 dq) osq = W7 at *
     have WR := zdy (WR.out W7 H5.out)
     go_wp2_with fail
     refine WR.out.mono ?_; rintro e w8 ⟨⟨v, rfl⟩, h1⟩
     have H6 := zdy h1
     clear h1
     clear WR H5
     have SD := zdy (SD.out w8 H6.out)
     obtain ⟨L1, B1⟩ := H6.out.bk
     dsimp only [trmV, setX, setY] at B1
     have k3 := B1.c 3 _ rfl
     have kf3 := B1.f 3
     clear B1
     rw [CX.out] at k3
     clear H6
     go_wp2_with fail
     refine SD.out.mono ?_; rintro e w9 ⟨⟨v, rfl⟩, h1⟩
     have H7 := zdy h1
     clear h1
     clear SD
     go_wp2_with fail
     go_end0
     exact ⟨⟨_, rfl⟩, UP.out _ (by rw [FE.out]; exact H7.out)⟩
 | some m =>
  unfold oneV
  obtain ⟨q64, m2⟩ := OF.out m eo
  have PE : Hid (qf t s = if m = c.wide then zI t x y (c.text ++ s) m c.st else if x < t.w - 1 then qe (zI t x y (c.text ++ s) m c.st) (x + 2) else t) := zdy (by rw [PE.out, eo])
  have FF := zdy f
  have PP := zdy p
  clear OF eo FE q64
  generalize c.text ++ s = S at *
  obtain ⟨W3, hW3⟩ : ∃ W3, W3 = W2.alloc (.cells #[.string S, .int .i64 m] 142) := ⟨_, rfl⟩
  have B3 : Below W2.heap.size W2 W3 := by rw [hW3]; exact (Below.refl _ _).alloc zdA _
  have H := zdy (H.out.below B3)
  have OG := zdy (OG.out.of_eq (B3.block g4 OG.out.lt))
  have OC : Hid (Bk W3 W2.heap.size [.string S, .int .i64 m] 142) := zdy (by rw [hW3]; exact Bk.new _ _ _)
  clear B3
  go_upto_region 4 with fail
  rw [<- hW3]
  clear hW3
  obtain ⟨W4, hW4⟩ : ∃ W4, W4 = W3 := ⟨_, rfl⟩
  rw [<- hW4] at H ⊢
  have BE : Hid (Below W3.heap.size W3 W4) := zdy (by rw [hW4]; exact Below.refl _ _)
  clear hW4
  obtain ⟨L1, B1⟩ := H.out.bk
  dsimp only [trmV, setX, setY] at B1
  have k0 := fun d os => (B1.regrown d os).c 0 _ rfl
  have k24 := fun d os => (B1.regrown d os).c 24 _ rfl
  clear B1
  rw [EI.out] at k24
  refine zf 21 (by kernel_rfl) (by kernel_rfl) ?_
  simp only [zdB, zdC, zdD, zdE]
  repeat (first | go_big_quiet_step (fail) | quiet_step (fail))
  refine wpQuiet_nil ?_
  intro _ hw'
  obtain ⟨⟨dq, osq⟩, hw''⟩ := hw'
  subst hw''
  have H := zdy (H.out.below (below_regrown W4 dq osq))
  have BE := zdy (BE.out.trans ((below_regrown W4 dq osq).mono BE.out.size))
  clear k0 k24
  generalize grow (redrawn W4 dq) osq = W5 at *
  have OG := zdy (OG.out.of_eq (BE.out.block g4 OG.out.lt))
  have OC := zdy (OC.out.of_eq (BE.out.block _ OC.out.lt))
  clear BE d1 d2
  have r1 := OG.out.c 1 _ rfl
  have rf1 := OG.out.f 1
  have r2 := OG.out.c 2 _ rfl
  have rf2 := OG.out.f 2
  have r3 := OG.out.c 3 _ rfl
  have rf3 := OG.out.f 3
  have r4 := OG.out.c 4 _ rfl
  have rf4 := OG.out.f 4
  have c0 := OC.out.c 0 _ rfl
  have cf0 := OC.out.f 0
  have c1 := OC.out.c 1 _ rfl
  have cf1 := OC.out.f 1
  by_cases em : m = c.wide
  ·have PE : Hid (qf t s = zI t x y S m c.st) := zdy (by rw [PE.out, if_pos em])
   have WR := zdy (Zu H.out FF.out x y S m c.st px0 px1 (by omega) py0 py1 m2)
   have emb : (m == c.wide) = true := by simpa using em
   unfold styV at WR
   clear em m2 H fits wid
   go_wp2_with fail
   refine WR.out.mono ?_; rintro e w6 ⟨⟨v, rfl⟩, h1⟩
   have H6 := zdy h1
   clear h1
   clear WR
   go_wp2_with fail
   go_end0
   exact ⟨⟨_, rfl⟩, by rw [PE.out]; exact H6.out⟩
  have emb : (m == c.wide) = false := by simpa using em
  by_cases xl : x < t.w - 1
  ·have PE : Hid (qf t s = qe (zI t x y S m c.st) (x + 2)) := zdy (by rw [PE.out, if_neg em, if_pos xl])
   have WR := zdy (Zu H.out FF.out x y S m c.st px0 px1 (by omega) py0 py1 m2)
   have cw5 := jR t x y S m c.st
   have SD : Hid (∀ W', St w0 F0 tb (zI t x y S m c.st) W' -> Calls Tryz.prog 96 #[.pointer (some ⟨tb, 0, none⟩), .int .i64 (x + 2)] W' (Vd w0 F0 tb (qe (zI t x y S m c.st) (x + 2)))) := zdy (fun W' hs => QI hs (by rw [cw5.w]; exact FF.out.w0) (by rw [cw5.w]; exact FF.out.w1) _)
   obtain ⟨L1, B1⟩ := H.out.bk
   dsimp only [trmV, setX, setY] at B1
   have k0 := B1.c 0 _ rfl
   have kf0 := B1.f 0
   clear B1
   unfold styV at WR
   clear em m2 H cw5 fits wid
   go_wp2_with fail
   refine WR.out.mono ?_; rintro e w6 ⟨⟨v, rfl⟩, h1⟩
   have H6 := zdy h1
   clear h1
   have SD := zdy (SD.out w6 H6.out)
   clear WR H6 k0 kf0
   go_wp2_with fail
   refine SD.out.mono ?_; rintro e w7 ⟨⟨v, rfl⟩, h1⟩
   have H7 := zdy h1
   clear h1
   clear SD
   go_wp2_with fail
   go_end0
   exact ⟨⟨_, rfl⟩, by rw [PE.out]; exact H7.out⟩
  ·have PE : Hid (qf t s = t) := zdy (by rw [PE.out, if_neg em, if_neg xl])
   obtain ⟨L1, B1⟩ := H.out.bk
   dsimp only [trmV, setX, setY] at B1
   have k0 := B1.c 0 _ rfl
   have kf0 := B1.f 0
   clear B1
   clear em m2 fits wid
   go_wp2_with fail
   go_end0
   exact ⟨⟨_, rfl⟩, by rw [PE.out]; exact H.out⟩
theorem t_print (h : St w0 F0 tb t W) (f : Fine t) (p : zk t) (o : jd t) (s : ByteArray) (hs : s.size <= 64) (n2 : zn s = 0 \/ zn s = 1 \/ zn s = 2) : Calls Tryz.prog 77 #[.pointer (some ⟨tb, 0, none⟩), .string s] W (Vd w0 F0 tb (qf t s)) := by
 rcases o with o | o
 ·exact zcL h f p (by omega) s hs n2
 ·exact zcM h f p o s hs n2
end
end
section
open Go Go.RowKit Go.Sort
theorem enc_char (r : Int) : Utf8.encode r = qZ r := by
 obtain ⟨c, hc⟩ : ∃ c : Nat, c = if Utf8.valid r then r.toNat else Utf8.runeError := ⟨_, rfl⟩
 have e : zx r = (c : Int) := by
  rw [hc]
  by_cases v : 0 <= r /\ r <= 1114111 /\ (r < 55296 \/ 57343 < r)
  ·have hv : Utf8.valid r = true := by unfold Utf8.valid; simp; omega
   rw [if_pos hv]
   unfold zx
   rw [if_pos v]
   omega
  ·have hv : ¬ Utf8.valid r = true := by unfold Utf8.valid; simp; omega
   rw [if_neg hv]
   unfold zx
   rw [if_neg v]
   rfl
 have en : Utf8.encode r = if c < 0x80 then ⟨#[UInt8.ofNat c]⟩ else if c < 0x800 then ⟨#[UInt8.ofNat (0xC0 + c / 64), UInt8.ofNat (0x80 + c % 64)]⟩ else if c < 0x10000 then ⟨#[UInt8.ofNat (0xE0 + c / 4096), UInt8.ofNat (0x80 + c / 64 % 64), UInt8.ofNat (0x80 + c % 64)]⟩ else ⟨#[UInt8.ofNat (0xF0 + c / 262144), UInt8.ofNat (0x80 + c / 4096 % 64), UInt8.ofNat (0x80 + c / 64 % 64), UInt8.ofNat (0x80 + c % 64)]⟩ := by
  subst hc
  rfl
 have n1 : ∀ a b : Nat, ((a : Int) + (b : Int)).toNat = a + b := fun a b => by omega
 rw [en]
 unfold qZ barr qm
 rw [e]
 by_cases c1 : c < 128
 ·rw [if_pos c1, if_pos (show (c : Int) < 128 by omega)]
  simp
 rw [if_neg c1, if_neg (show ¬ (c : Int) < 128 by omega)]
 by_cases c2 : c < 2048
 ·rw [if_pos c2, if_pos (show (c : Int) < 2048 by omega)]
  simp only [List.map_cons, List.map_nil]
  rw [show ((192 : Int) + (c : Int) / 64).toNat = 192 + c / 64 by omega, show ((128 : Int) + (c : Int) % 64).toNat = 128 + c % 64 by omega]
 rw [if_neg c2, if_neg (show ¬ (c : Int) < 2048 by omega)]
 by_cases c3 : c < 65536
 ·rw [if_pos c3, if_pos (show (c : Int) < 65536 by omega)]
  simp only [List.map_cons, List.map_nil]
  rw [show ((224 : Int) + (c : Int) / 4096).toNat = 224 + c / 4096 by omega, show ((128 : Int) + (c : Int) / 64 % 64).toNat = 128 + c / 64 % 64 by omega, show ((128 : Int) + (c : Int) % 64).toNat = 128 + c % 64 by omega]
 rw [if_neg c3, if_neg (show ¬ (c : Int) < 65536 by omega)]
 simp only [List.map_cons, List.map_nil]
 rw [show ((240 : Int) + (c : Int) / 262144).toNat = 240 + c / 262144 by omega, show ((128 : Int) + (c : Int) / 4096 % 64).toNat = 128 + c / 4096 % 64 by omega, show ((128 : Int) + (c : Int) / 64 % 64).toNat = 128 + c / 64 % 64 by omega, show ((128 : Int) + (c : Int) % 64).toNat = 128 + c % 64 by omega]
section
variable {w0 : World} {F0 : List Nat} {tb : Nat} {t t' : Trm} {W W' : World} {L : Lay}
set_option maxHeartbeats 4000000 in
set_option maxRecDepth 100000 in
theorem t_rune (h : St w0 F0 tb t W) (f : Fine t) (o : jd t) (r : Int) : Calls Tryz.prog 68 #[.pointer (some ⟨tb, 0, none⟩), .int .i32 r] W (Vd w0 F0 tb (z6 t r)) := by
 have w0' := f.w0
 have w1 := f.w1
 have h0' := f.h0
 have h1' := f.h1
 have ar := f.ar
 have nn : 0 <= t.w * t.h := Int.mul_nonneg w0' h0'
 have m1 := zdz (t.w * t.h) (by omega)
 have H := zdy h
 by_cases c1 : r = 27
 ·have e0 : z6 t r = { t with opn := -1, state := 1 } := by unfold z6; rw [if_pos c1]
  rw [e0]
  subst c1
  have H2 := zdy ((h.setOpn (-1)).setState 1)
  obtain ⟨L1, B1⟩ := H.out.bk
  dsimp only [trmV, setX, setY] at B1
  have k24 := B1.c 24 _ rfl
  have kf24 := B1.f 24
  have k28 := B1.c 28 _ rfl
  have kf28 := B1.f 28
  clear B1
  clear h f o e0
  go_enter Tryz.func68, Tryz.ntmps68
  go_wp2_with fail
  go_end0
  exact ⟨⟨_, rfl⟩, H2.out⟩
 by_cases c2 : r < 32 \/ 127 <= r /\ r < 160
 ·have e0 : Hid (z6 t r = qY t r) := zdy (by unfold z6; rw [if_neg c1, if_pos c2])
  have CT := zdy (VF h f r)
  clear h f o H
  by_cases d1 : r < 32
  ·clear c2
   go_enter Tryz.func68, Tryz.ntmps68
   go_wp2_with fail
   refine CT.out.mono ?_; rintro e w2 ⟨⟨v, rfl⟩, h1⟩
   have H2 := zdy h1
   clear h1
   clear CT
   go_wp2_with fail
   go_end0
   exact ⟨⟨_, rfl⟩, by rw [e0.out]; exact H2.out⟩
  ·have d2 : 127 <= r := by omega
   have d3 : r < 160 := by omega
   clear c2
   go_enter Tryz.func68, Tryz.ntmps68
   go_wp2_with fail
   refine CT.out.mono ?_; rintro e w2 ⟨⟨v, rfl⟩, h1⟩
   have H2 := zdy h1
   clear h1
   clear CT
   go_wp2_with fail
   go_end0
   exact ⟨⟨_, rfl⟩, by rw [e0.out]; exact H2.out⟩
 have d1 : ¬ r < 32 := by omega
 have d2 : (127 <= r /\ r < 160) = False := by simp; omega
 have d3 : 127 <= r -> ¬ r < 160 := by omega
 by_cases c3 : 0 < t.w * t.h
 ·have e0 : Hid (z6 t r = qf t (qZ r)) := zdy (by unfold z6; rw [if_neg c1, if_neg c2, if_pos c3])
  have CT : Hid (∀ W', St w0 F0 tb t W' -> Calls Tryz.prog 77 #[.pointer (some ⟨tb, 0, none⟩), .string (Utf8.encode r)] W' (Vd w0 F0 tb (qf t (qZ r)))) := zdy (fun W' hs => by rw [enc_char]; exact t_print hs f (kC f c3) o (qZ r) (Xm r) (Xl r))
  clear h f o c2 d2
  by_cases q : 127 <= r
  ·have q2 : ¬ r < 160 := d3 q
   clear d3
   go_enter Tryz.func68, Tryz.ntmps68
   go_wp2_with fail
   obtain ⟨L1, B1⟩ := H.out.bk
   dsimp only [trmV, setX, setY] at B1
   have k0 := fun d os => (B1.regrown d os).c 0 _ rfl
   have k1 := fun d os => (B1.regrown d os).c 1 _ rfl
   clear B1
   refine zf 11 (by kernel_rfl) (by kernel_rfl) ?_
   simp only [zdB, zdC, zdD, zdE]
   repeat (first | go_big_quiet_step (fail) | quiet_step (fail))
   refine wpQuiet_nil ?_
   intro _ hw'
   obtain ⟨⟨dq, osq⟩, hw''⟩ := hw'
   subst hw''
   have H := zdy (H.out.below (below_regrown W dq osq))
   clear k0 k1
   generalize grow (redrawn W dq) osq = W1 at *
   have CT := zdy (CT.out W1 H.out)
   go_wp2_with fail
   refine CT.out.mono ?_; rintro e w2 ⟨⟨v, rfl⟩, h1⟩
   have H2 := zdy h1
   clear h1
   clear CT
   go_wp2_with fail
   go_end0
   exact ⟨⟨_, rfl⟩, by rw [e0.out]; exact H2.out⟩
  ·clear d3
   go_enter Tryz.func68, Tryz.ntmps68
   go_wp2_with fail
   obtain ⟨L1, B1⟩ := H.out.bk
   dsimp only [trmV, setX, setY] at B1
   have k0 := fun d os => (B1.regrown d os).c 0 _ rfl
   have k1 := fun d os => (B1.regrown d os).c 1 _ rfl
   clear B1
   refine zf 11 (by kernel_rfl) (by kernel_rfl) ?_
   simp only [zdB, zdC, zdD, zdE]
   repeat (first | go_big_quiet_step (fail) | quiet_step (fail))
   refine wpQuiet_nil ?_
   intro _ hw'
   obtain ⟨⟨dq, osq⟩, hw''⟩ := hw'
   subst hw''
   have H := zdy (H.out.below (below_regrown W dq osq))
   clear k0 k1
   generalize grow (redrawn W dq) osq = W1 at *
   have CT := zdy (CT.out W1 H.out)
   go_wp2_with fail
   refine CT.out.mono ?_; rintro e w2 ⟨⟨v, rfl⟩, h1⟩
   have H2 := zdy h1
   clear h1
   clear CT
   go_wp2_with fail
   go_end0
   exact ⟨⟨_, rfl⟩, by rw [e0.out]; exact H2.out⟩
 ·have e0 : Hid (z6 t r = t) := zdy (by unfold z6; rw [if_neg c1, if_neg c2, if_neg c3])
  have c4 : t.w * t.h = 0 := by omega
  clear h f o c2 d2
  by_cases q : 127 <= r
  ·have q2 : ¬ r < 160 := d3 q
   clear d3
   go_enter Tryz.func68, Tryz.ntmps68
   go_wp2_with fail
   obtain ⟨L1, B1⟩ := H.out.bk
   dsimp only [trmV, setX, setY] at B1
   have k0 := fun d os => (B1.regrown d os).c 0 _ rfl
   have k1 := fun d os => (B1.regrown d os).c 1 _ rfl
   clear B1
   refine zf 11 (by kernel_rfl) (by kernel_rfl) ?_
   simp only [zdB, zdC, zdD, zdE]
   repeat (first | go_big_quiet_step (fail) | quiet_step (fail))
   refine wpQuiet_nil ?_
   intro _ hw'
   obtain ⟨⟨dq, osq⟩, hw''⟩ := hw'
   subst hw''
   have H := zdy (H.out.below (below_regrown W dq osq))
   clear k0 k1
   generalize grow (redrawn W dq) osq = W1 at *
   go_wp2_with fail
   go_end0
   exact ⟨⟨_, rfl⟩, by rw [e0.out]; exact H.out⟩
  ·clear d3
   go_enter Tryz.func68, Tryz.ntmps68
   go_wp2_with fail
   obtain ⟨L1, B1⟩ := H.out.bk
   dsimp only [trmV, setX, setY] at B1
   have k0 := fun d os => (B1.regrown d os).c 0 _ rfl
   have k1 := fun d os => (B1.regrown d os).c 1 _ rfl
   clear B1
   refine zf 11 (by kernel_rfl) (by kernel_rfl) ?_
   simp only [zdB, zdC, zdD, zdE]
   repeat (first | go_big_quiet_step (fail) | quiet_step (fail))
   refine wpQuiet_nil ?_
   intro _ hw'
   obtain ⟨⟨dq, osq⟩, hw''⟩ := hw'
   subst hw''
   have H := zdy (H.out.below (below_regrown W dq osq))
   clear k0 k1
   generalize grow (redrawn W dq) osq = W1 at *
   go_wp2_with fail
   go_end0
   exact ⟨⟨_, rfl⟩, by rw [e0.out]; exact H.out⟩
end
end
section
open Go Go.RowKit Go.Sort
structure AppOk (W W' : World) (v v' : Value) (s y : ByteArray) : Prop where
 old : KeptAt W' v s
 new : KeptAt W' v' y
 mv : Mv (ob v) W W'
 sub : ∀ g ∈ ob v', g ∈ ob v \/ W.heap.size <= g
 ge : ∀ g ∈ ob v', g < W'.heap.size
theorem VJ {W W' : World} {g o c : Nat} {s x : ByteArray} {cur : Array Value} (hg : W.heap[g]? = some (.cells cur 5 (0, 0))) (hc : s.size + x.size <= c) (hm : c <= maxLen) (hx : 0 < x.size) (hcur : o + c <= cur.size) (hs : ∀ j u, (Lib.strCells s)[j]? = some u -> cur[o + j]? = some u)
  (hW : W' = W.setRow g (cur.toList.take (o + s.size) ++ Lib.strCells x ++ cur.toList.drop (o + s.size + x.size)).toArray) : AppOk W W' (.slice (some ⟨g, o, none⟩) s.size c) (.slice (some ⟨g, o, none⟩) (s.size + x.size) c) s (s ++ x) := by
 have lx := Lib.strCells_length x
 have ls := Lib.strCells_length s
 have lc : cur.toList.length = cur.size := Array.length_toList
 have hr : W'.heap[g]? = some (.cells (cur.toList.take (o + s.size) ++ Lib.strCells x ++ cur.toList.drop (o + s.size + x.size)).toArray 5 (0, 0)) := by rw [hW]; exact setRow_heap W g cur _ _ _ hg
 have far : ∀ k, k ≠ g -> W'.heap[k]? = W.heap[k]? := fun k hk => by rw [hW]; exact setRow_other W g k _ hk
 have sz : ((cur.toList.take (o + s.size) ++ Lib.strCells x ++ cur.toList.drop (o + s.size + x.size)).toArray : Array Value).size = cur.size := by
  rw [List.size_toArray]
  simp only [List.length_append, List.length_take, List.length_drop]
  omega
 have t1 : (cur.toList.take (o + s.size)).length = o + s.size := by rw [List.length_take]; omega
 have lo : ∀ j, j < o + s.size -> ((cur.toList.take (o + s.size) ++ Lib.strCells x ++ cur.toList.drop (o + s.size + x.size)).toArray : Array Value)[j]? = cur[j]? := fun j hj => by
  rw [List.getElem?_toArray, List.append_assoc, List.getElem?_append_left (by omega), List.getElem?_take_of_lt hj, Array.getElem?_toList]
 have mid : ∀ j, j < x.size -> ((cur.toList.take (o + s.size) ++ Lib.strCells x ++ cur.toList.drop (o + s.size + x.size)).toArray : Array Value)[o + s.size + j]? = (Lib.strCells x)[j]? := fun j hj => by
  rw [List.getElem?_toArray, List.append_assoc, List.getElem?_append_right (by omega), t1, show o + s.size + j - (o + s.size) = j by omega, List.getElem?_append_left (by omega)]
 have hold : ∀ j u, (Lib.strCells s)[j]? = some u -> ((cur.toList.take (o + s.size) ++ Lib.strCells x ++ cur.toList.drop (o + s.size + x.size)).toArray : Array Value)[o + j]? = some u := fun j u hj => by
  have hj2 : j < s.size := by have := (List.getElem?_eq_some_iff.1 hj).1; omega
  rw [lo _ (by omega)]
  exact hs j u hj
 obtain ⟨c', rfl⟩ : ∃ c', c = c' + 1 := ⟨c - 1, by omega⟩
 refine ⟨⟨_, _, rfl, by omega, hm, by simp, fun _ => ⟨g, o, _, rfl, hr, by rw [sz]; exact hcur, hold⟩⟩, ⟨_, _, by rw [ByteArray.size_append], by rw [ByteArray.size_append]; omega, hm, by simp, fun _ => ⟨g, o, _, rfl, hr, by rw [sz]; exact hcur, fun j u hj => ?_⟩⟩, ⟨by rw [hW]; rfl, by rw [hW]; rfl, by rw [hW]; rfl, by rw [hW]; simp, fun k _ hn => far k (by simpa [ob] using hn)⟩, fun b hb => Or.inl (by simpa [ob] using hb), fun b hb => ?_⟩
 ·rw [Je] at hj
  by_cases lt : j < s.size
  ·rw [List.getElem?_append_left (by omega)] at hj
   exact hold j u hj
  ·have hj2 : j < s.size + x.size := by have := (List.getElem?_eq_some_iff.1 hj).1; rw [List.length_append] at this; omega
   rw [List.getElem?_append_right (by omega), ls] at hj
   have := mid (j - s.size) (by omega)
   rw [show o + s.size + (j - s.size) = o + j by omega] at this
   exact this.trans hj
 ·have : b = g := by simpa [ob] using hb
  subst this
  exact (Array.getElem?_eq_some_iff.1 hr).1
theorem VK {W : World} {v : Value} {s x : ByteArray} {C : Nat} {z : Array Value} (h : KeptAt W v s) (hC : s.size + x.size <= C) (hm : C <= maxLen) (hx : 0 < x.size) (hz : z.size = C - (s.size + x.size)) :
  AppOk W (W.drew.alloc (.cells ((Lib.strCells s).toArray ++ (Lib.strCells x).toArray ++ z) 5)) v (.slice (some ⟨W.heap.size, 0, none⟩) (s.size + x.size) C) s (s ++ x) := by
 have lx := Lib.strCells_length x
 have ls := Lib.strCells_length s
 have hb : Below W.heap.size W (W.drew.alloc (.cells ((Lib.strCells s).toArray ++ (Lib.strCells x).toArray ++ z) 5)) := (Below.refl _ W).drew.alloc zdA _
 have hr : (W.drew.alloc (.cells ((Lib.strCells s).toArray ++ (Lib.strCells x).toArray ++ z) 5)).heap[W.heap.size]? = some (.cells ((Lib.strCells s).toArray ++ (Lib.strCells x).toArray ++ z) 5 (0, 0)) := World.alloc_heap_new W.drew _
 refine ⟨h.keep (fun g hg => hb.block g (h.lt g hg)), ⟨_, _, by rw [ByteArray.size_append], by rw [ByteArray.size_append]; exact hC, hm, by simp, fun _ => ⟨_, 0, _, rfl, hr, ?_, fun j u hj => ?_⟩⟩, Mv.below hb, fun g hg => Or.inr ?_, fun g hg => ?_⟩
 ·simp only [Array.size_append, List.size_toArray]
  omega
 ·rw [Je] at hj
  have hj2 : j < s.size + x.size := by have := (List.getElem?_eq_some_iff.1 hj).1; rw [List.length_append] at this; omega
  rw [Nat.zero_add, Array.getElem?_append_left (by simp only [Array.size_append, List.size_toArray]; omega)]
  rw [show (Lib.strCells s).toArray ++ (Lib.strCells x).toArray = (Lib.strCells s ++ Lib.strCells x).toArray by simp, List.getElem?_toArray]
  exact hj
 ·obtain ⟨c', rfl⟩ : ∃ c', C = c' + 1 := ⟨C - 1, by omega⟩
  have : g = W.heap.size := by simpa [ob] using hg
  omega
 ·obtain ⟨c', rfl⟩ : ∃ c', C = c' + 1 := ⟨C - 1, by omega⟩
  have : g = W.heap.size := by simpa [ob] using hg
  subst this
  exact (Array.getElem?_eq_some_iff.1 hr).1
theorem VL {n m : Nat} (hg : m < n) (h : n <= 1000000000) : Builtin.nextslicecap n m * 1 <= 281474976710656 := growslice_fits hg (by omega)
theorem kS {W : World} {g o : Nat} {cur : Array Value} {s : ByteArray} (hg : W.heap[g]? = some (.cells cur 5 (0, 0))) (hs : ∀ j u, (Lib.strCells s)[j]? = some u -> cur[o + j]? = some u) : ∀ j u, (Lib.strCells s)[j]? = some u -> W.cell? ((⟨g, o, none⟩ : Addr).add j) = some u := fun j u hj => by
 rw [jf]
 simp only [World.cell?, hg]
 exact hs j u hj
theorem VM {W : World} {v : Value} {s x : ByteArray} (h : KeptAt W v s) (ad : Addr) (c' : Nat) (hx : 0 < x.size) (hn : ∀ j u, (Lib.strCells x)[j]? = some u -> W.cell? (ad.add j) = some u) (hl : s.size + x.size <= 1000000000) :
  ∃ v' W', (Builtin.append_ #[27, 27] 27 #[v, .slice (some ad) x.size c']).run Tryz.prog W = .ok v' W' /\ AppOk W W' v v' s (s ++ x) := by
 have h0 := h
 obtain ⟨A, c, rfl, h1, hm, h2, h3⟩ := h
 obtain ⟨i0, hi, hz0, hz1, hz2⟩ := info_parts kR
 have lx := Lib.strCells_length x
 have ls := Lib.strCells_length s
 by_cases room : s.size + x.size <= c
 ·obtain ⟨g, o, cur, rfl, hg, hc, hs⟩ := h3 (by omega)
  have hf := run_firstCells_some (P := Tryz.prog) W i0.size x.size ad x.size c' (Lib.strCells x) (by rw [hz1, lx]; omega) hn
  have hst := run_storeCells_at Tryz.prog g (o + s.size) 5 (Lib.strCells x) 0 cur W hg (by rw [lx]; omega) (Lib.strCells_oneCell x)
  simp only [Nat.add_zero, lx] at hst
  refine ⟨_, _, ?_, VJ hg room hm hx hc hs rfl⟩
  simp [Builtin.append_, run_underlying Tryz.underlying27, sizeOf, typeInfo, hi, hz1, Builtin.lenOf, room, Addr.add_lit]
  rw [hz1] at hf
  rw [hf]
  simp [hst]
 ·have ge := grownCap_ge W (s.size + x.size) c 5
  have le : grownCap W (s.size + x.size) c 5 <= maxLen := grownCap_le_maxLen W (s.size + x.size) c 5 (by unfold maxLen; omega)
  have zz : (Builtin.zeroCells (Value.int IntKind.u8 0).cells (grownCap W (s.size + x.size) c 5 - (s.size + x.size))).size = grownCap W (s.size + x.size) c 5 - (s.size + x.size) := by rw [size_zeroCells]; show _ * 1 = _; omega
  have ok := VK h0 ge le hx zz
  refine ⟨_, _, ?_, ok⟩
  cases A with
  | none =>
   have c0 := h2 rfl
   subst c0
   have s0 : s.size = 0 := by omega
   have sn : Lib.strCells s = [] := List.length_eq_zero_iff.1 (by omega)
   rw [s0, sn]
   simp only [Nat.zero_add]
   have := run_append_nil (P := Tryz.prog) W 27 27 5 i0 (.int .u8 0) Tryz.underlying27 hi hz0 ad x.size c' (Lib.strCells x) (by rw [hz1, lx]; omega) hn hx (by omega) (by rw [hz2]; omega)
   rw [this]
   simp
  | some a =>
   refine run_append_grow (P := Tryz.prog) W 27 27 5 i0 (.int .u8 0) Tryz.underlying27 hi hz0 a s.size c (Lib.strCells s) (by rw [hz1, ls]; omega) (fun j u hj => ?_) ad x.size c' (Lib.strCells x) (by rw [hz1, lx]; omega) hn (by omega) (by omega) (by rw [hz2]; exact VL (by omega) hl)
   have hj2 : j < s.size := by have := (List.getElem?_eq_some_iff.1 hj).1; omega
   obtain ⟨g, o, cur, e, hg, hc, hs⟩ := h3 (by omega)
   cases e
   exact kS hg hs j u hj
theorem zcN {W : World} {v : Value} {s x : ByteArray} (h : KeptAt W v s) (hx : 0 < x.size) (hl : s.size + x.size <= 1000000000) :
  ∃ v' W', (Builtin.append_ #[27, 9] 27 #[v, .string x]).run Tryz.prog W = .ok v' W' /\ AppOk W W' v v' s (s ++ x) := by
 have h0 := h
 obtain ⟨A, c, rfl, h1, hm, h2, h3⟩ := h
 obtain ⟨i0, hi, hz0, hz1, hz2⟩ := info_parts kR
 have lx := Lib.strCells_length x
 have ls := Lib.strCells_length s
 by_cases room : s.size + x.size <= c
 ·obtain ⟨g, o, cur, rfl, hg, hc, hs⟩ := h3 (by omega)
  have hf := Lib.run_firstCells_string (P := Tryz.prog) W 1 x
  have hst := run_storeCells_at Tryz.prog g (o + s.size) 5 (Lib.strCells x) 0 cur W hg (by rw [lx]; omega) (Lib.strCells_oneCell x)
  simp only [Nat.add_zero, lx] at hst
  refine ⟨_, _, ?_, VJ hg room hm hx hc hs rfl⟩
  simp [Builtin.append_, run_underlying Tryz.underlying27, run_underlying Tryz.underlying9, sizeOf, typeInfo, hi, hz1, Builtin.lenOf, room, Addr.add_lit, hf, hst]
 ·have ge := grownCap_ge W (s.size + x.size) c 5
  have le : grownCap W (s.size + x.size) c 5 <= maxLen := grownCap_le_maxLen W (s.size + x.size) c 5 (by unfold maxLen; omega)
  have zz : (Builtin.zeroCells (Value.int IntKind.u8 0).cells (grownCap W (s.size + x.size) c 5 - (s.size + x.size))).size = grownCap W (s.size + x.size) c 5 - (s.size + x.size) := by rw [size_zeroCells]; show _ * 1 = _; omega
  have ok := VK h0 ge le hx zz
  refine ⟨_, _, ?_, ok⟩
  cases A with
  | none =>
   have c0 := h2 rfl
   subst c0
   have s0 : s.size = 0 := by omega
   have sn : Lib.strCells s = [] := List.length_eq_zero_iff.1 (by omega)
   rw [s0, sn]
   simp only [Nat.zero_add]
   have := Go.run_append_nil_string (P := Tryz.prog) W 27 9 27 5 i0 (.int .u8 0) Tryz.underlying27 Tryz.underlying9 hi hz0 x hx (by omega) (by rw [hz2]; omega)
   have e1 : (x.data.map fun b => Value.int .u8 b.toNat) = (Lib.strCells x).toArray := by
    apply Array.ext'
    simp [Lib.strCells]
   rw [e1] at this
   rw [this]
   simp
  | some a =>
   refine Lib.run_append_grow_string (P := Tryz.prog) W 27 9 27 5 i0 (.int .u8 0) Tryz.underlying27 Tryz.underlying9 hi hz0 a s.size c (Lib.strCells s) (by rw [hz1, ls]; omega) (fun j u hj => ?_) x (by omega) (by omega) (by rw [hz2]; exact VL (by omega) hl)
   have hj2 : j < s.size := by have := (List.getElem?_eq_some_iff.1 hj).1; omega
   obtain ⟨g, o, cur, e, hg, hc, hs⟩ := h3 (by omega)
   cases e
   exact kS hg hs j u hj
theorem jT {P : Program} {w : World} {ops : Array Oper} {rest : List Oper} {o : Oper} {a : Act} {Q : Exit -> Act -> World -> Prop} (hgd : o.guard = none) (s x : Operand) (t u : TypeId)
  (ho : o.op = .call { callee := .builtin .append, args := #[s, x], argTypes := #[t, u] }) (vs vx v' : Value) (w' : World) (hs : a.eval s = vs) (hx : a.eval x = vx)
  (hrun : (Builtin.append_ #[t, u] o.type #[vs, vx]).run P w = .ok v' w') (h : wpList P ops Q rest (a.put o.dst v') w') : wpList P ops Q (o :: rest) a w := by
 refine wpList_plain hgd fun K hK => ?_
 unfold Oper.wp
 simp [execOp, ho, resolve, invoke, builtin, hs, hx, hrun, Result.andThen]
 exact hK _ _ h
end
section
open Go Go.RowKit Go.Sort
section
variable {w0 : World} {F0 : List Nat} {tb : Nat} {t t' : Trm} {W W' : World} {L : Lay}
theorem TrmAt.appR (T : TrmAt W L t) {v' : Value} {y : ByteArray} (ok : AppOk W W' L.r v' t.reps y) : TrmAt W' L t /\ TrmAt (W'.setCell ⟨L.b, 26, none⟩ v') { L with r := v' } { t with reps := y } := by
 have far : ∀ {g : Nat} {cur : Array Value} {T' : TypeId} {fl : Nat × Nat}, W.heap[g]? = some (.cells cur T' fl) -> T' ≠ 5 -> W'.heap[g]? = W.heap[g]? := fun {g} {cur} {T'} {fl} hg ne => ok.mv.blk g (Array.getElem?_eq_some_iff.1 hg).1 (fun m => by
  obtain ⟨_, hq⟩ := T.r.kind g m
  rw [hg] at hq
  cases hq
  exact ne rfl)
 have T1 : TrmAt W' L t := by
  refine ⟨?_, ?_, ?_, ?_, ?_, ?_, ok.old, T.h.keep (fun g m => ok.mv.blk g (T.h.lt g m) (fun m2 => T.rh g m2 m)), T.k.keep (fun g m => ok.mv.blk g (T.k.lt g m) (fun m2 => T.rk g m2 m)), T.ca, T.sw, T.rh, T.rk, T.hk⟩
  ·have q := T.own; unfold Bk at q; exact T.own.of_eq (far q (by decide))
  ·obtain ⟨_, q⟩ := T.utf.kind; unfold Bk at q; exact T.utf.keep (far q (by decide))
  ·exact T.c.keep (fun g m => by obtain ⟨cur, q⟩ := T.c.kind g m; exact far q (by decide))
  ·exact T.a.keep (fun g m => by obtain ⟨cur, q⟩ := T.a.kind g m; exact far q (by decide))
  ·exact T.s.keep (fun g m => by obtain ⟨cur, q⟩ := T.s.kind g m; exact far q (by decide))
  ·exact T.w.keep (fun g m => by obtain ⟨cur, q⟩ := T.w.kind g m; exact far q (by decide))
 refine ⟨T1, ?_⟩
 have far2 : ∀ g, g ≠ L.b -> (W'.setCell ⟨L.b, 26, none⟩ v').heap[g]? = W'.heap[g]? := fun g hg => heap_setCell_other W' ⟨L.b, 26, none⟩ g v' hg
 have o := T1.own.set 26 v'
 refine ⟨o, ?_, ?_, ?_, ?_, ?_, ok.new.keep (fun g m => by obtain ⟨cur, k⟩ := ok.new.kind g m; exact far2 g (T1.own.ne k (by decide))), T1.h.keep (fun g m => by obtain ⟨cur, k⟩ := T1.h.kind g m; exact far2 g (T1.own.ne k (by decide))), T1.k.keep (fun g m => by obtain ⟨cur, k⟩ := T1.k.kind g m; exact far2 g (T1.own.ne k (by decide))), T.ca, T.sw, fun g m m2 => (ok.sub g m).elim (fun z => T.rh g z m2) (fun z => by have := T.h.lt g m2; omega), fun g m m2 => (ok.sub g m).elim (fun z => T.rk g z m2) (fun z => by have := T.k.lt g m2; omega), T.hk⟩
 ·obtain ⟨_, k⟩ := T1.utf.kind; exact T1.utf.keep (far2 _ (T1.own.ne k (by decide)))
 ·exact T1.c.keep (fun g m => by obtain ⟨cur, k⟩ := T1.c.kind g m; exact far2 g (T1.own.ne k (by decide)))
 ·exact T1.a.keep (fun g m => by obtain ⟨cur, k⟩ := T1.a.kind g m; exact far2 g (T1.own.ne k (by decide)))
 ·exact T1.s.keep (fun g m => by obtain ⟨cur, k⟩ := T1.s.kind g m; exact far2 g (T1.own.ne k (by decide)))
 ·exact T1.w.keep (fun g m => by obtain ⟨cur, k⟩ := T1.w.kind g m; exact far2 g (T1.own.ne k (by decide)))
theorem St.appR (h : St w0 F0 tb t W) : ∃ L, Bk W tb (trmV t L) 104 /\ ∀ W1, Below W.heap.size W W1 -> KeptAt W1 L.r t.reps /\ ∀ v' V y, AppOk W1 V L.r v' t.reps y -> St w0 F0 tb t V /\ Bk V tb (trmV t L) 104 /\ St w0 F0 tb { t with reps := y } (V.setCell ⟨tb, 26, none⟩ v') := by
 obtain ⟨L, rfl, T, hf⟩ := h.lay
 refine ⟨L, T.own, fun W1 hb => ?_⟩
 have T1 := T.keep (fun g m => hb.block g (T.lt g m))
 refine ⟨T1.r, fun v' V y ok => ?_⟩
 obtain ⟨TV, T2⟩ := T1.appR ok
 have mb : Mv F0 w0 W1 := h.mv.trans (Mv.below (F := []) hb) (by simp)
 have mv : Mv F0 w0 V := mb.trans ok.mv (fun b hbm => hf b (Lay.mem.2 (by simp [hbm])))
 refine ⟨⟨h.g0, mv, h.ng, L, rfl, TV, hf⟩, TV.own, ⟨h.g0, mv.trans (Mv.set (F := [L.b]) V (by simp)) (by intro b hb2; rw [List.mem_singleton.1 hb2]; exact hf _ (Lay.mem.2 (by simp))), h.ng, { L with r := v' }, rfl, T2, fun b hbm => ?_⟩⟩
 by_cases nv : b ∈ ob v'
 ·rcases ok.sub b nv with z | z
  ·exact hf b (Lay.mem.2 (by simp [z]))
  ·exact Or.inr (Nat.le_trans (Nat.le_trans h.mv.size hb.size) z)
 ·refine hf b (Lay.mem.2 ?_)
  have q := Lay.mem.1 hbm
  simp only [nv, false_or, or_false] at q
  rcases q with q | q | q | q | q | q | q | q <;> simp [q]
theorem TrmAt.appH (T : TrmAt W L t) {v' : Value} {y : ByteArray} (ok : AppOk W W' L.h v' t.held y) : TrmAt W' L t /\ TrmAt (W'.setCell ⟨L.b, 29, none⟩ v') { L with h := v' } { t with held := y } := by
 have far : ∀ {g : Nat} {cur : Array Value} {T' : TypeId} {fl : Nat × Nat}, W.heap[g]? = some (.cells cur T' fl) -> T' ≠ 5 -> W'.heap[g]? = W.heap[g]? := fun {g} {cur} {T'} {fl} hg ne => ok.mv.blk g (Array.getElem?_eq_some_iff.1 hg).1 (fun m => by
  obtain ⟨_, hq⟩ := T.h.kind g m
  rw [hg] at hq
  cases hq
  exact ne rfl)
 have T1 : TrmAt W' L t := by
  refine ⟨?_, ?_, ?_, ?_, ?_, ?_, T.r.keep (fun g m => ok.mv.blk g (T.r.lt g m) (T.rh g m)), ok.old, T.k.keep (fun g m => ok.mv.blk g (T.k.lt g m) (fun m2 => T.hk g m2 m)), T.ca, T.sw, T.rh, T.rk, T.hk⟩
  ·have q := T.own; unfold Bk at q; exact T.own.of_eq (far q (by decide))
  ·obtain ⟨_, q⟩ := T.utf.kind; unfold Bk at q; exact T.utf.keep (far q (by decide))
  ·exact T.c.keep (fun g m => by obtain ⟨cur, q⟩ := T.c.kind g m; exact far q (by decide))
  ·exact T.a.keep (fun g m => by obtain ⟨cur, q⟩ := T.a.kind g m; exact far q (by decide))
  ·exact T.s.keep (fun g m => by obtain ⟨cur, q⟩ := T.s.kind g m; exact far q (by decide))
  ·exact T.w.keep (fun g m => by obtain ⟨cur, q⟩ := T.w.kind g m; exact far q (by decide))
 refine ⟨T1, ?_⟩
 have far2 : ∀ g, g ≠ L.b -> (W'.setCell ⟨L.b, 29, none⟩ v').heap[g]? = W'.heap[g]? := fun g hg => heap_setCell_other W' ⟨L.b, 29, none⟩ g v' hg
 have o := T1.own.set 29 v'
 refine ⟨o, ?_, ?_, ?_, ?_, ?_, T1.r.keep (fun g m => by obtain ⟨cur, k⟩ := T1.r.kind g m; exact far2 g (T1.own.ne k (by decide))), ok.new.keep (fun g m => by obtain ⟨cur, k⟩ := ok.new.kind g m; exact far2 g (T1.own.ne k (by decide))), T1.k.keep (fun g m => by obtain ⟨cur, k⟩ := T1.k.kind g m; exact far2 g (T1.own.ne k (by decide))), T.ca, T.sw, fun g m m2 => (ok.sub g m2).elim (T.rh g m) (fun z => by have := T.r.lt g m; omega), T.rk, fun g m m2 => (ok.sub g m).elim (fun z => T.hk g z m2) (fun z => by have := T.k.lt g m2; omega)⟩
 ·obtain ⟨_, k⟩ := T1.utf.kind; exact T1.utf.keep (far2 _ (T1.own.ne k (by decide)))
 ·exact T1.c.keep (fun g m => by obtain ⟨cur, k⟩ := T1.c.kind g m; exact far2 g (T1.own.ne k (by decide)))
 ·exact T1.a.keep (fun g m => by obtain ⟨cur, k⟩ := T1.a.kind g m; exact far2 g (T1.own.ne k (by decide)))
 ·exact T1.s.keep (fun g m => by obtain ⟨cur, k⟩ := T1.s.kind g m; exact far2 g (T1.own.ne k (by decide)))
 ·exact T1.w.keep (fun g m => by obtain ⟨cur, k⟩ := T1.w.kind g m; exact far2 g (T1.own.ne k (by decide)))
theorem St.appH (h : St w0 F0 tb t W) : ∃ L, Bk W tb (trmV t L) 104 /\ ∀ W1, Below W.heap.size W W1 -> KeptAt W1 L.h t.held /\ ∀ v' V y, AppOk W1 V L.h v' t.held y -> St w0 F0 tb t V /\ Bk V tb (trmV t L) 104 /\ St w0 F0 tb { t with held := y } (V.setCell ⟨tb, 29, none⟩ v') := by
 obtain ⟨L, rfl, T, hf⟩ := h.lay
 refine ⟨L, T.own, fun W1 hb => ?_⟩
 have T1 := T.keep (fun g m => hb.block g (T.lt g m))
 refine ⟨T1.h, fun v' V y ok => ?_⟩
 obtain ⟨TV, T2⟩ := T1.appH ok
 have mb : Mv F0 w0 W1 := h.mv.trans (Mv.below (F := []) hb) (by simp)
 have mv : Mv F0 w0 V := mb.trans ok.mv (fun b hbm => hf b (Lay.mem.2 (by simp [hbm])))
 refine ⟨⟨h.g0, mv, h.ng, L, rfl, TV, hf⟩, TV.own, ⟨h.g0, mv.trans (Mv.set (F := [L.b]) V (by simp)) (by intro b hb2; rw [List.mem_singleton.1 hb2]; exact hf _ (Lay.mem.2 (by simp))), h.ng, { L with h := v' }, rfl, T2, fun b hbm => ?_⟩⟩
 by_cases nv : b ∈ ob v'
 ·rcases ok.sub b nv with z | z
  ·exact hf b (Lay.mem.2 (by simp [z]))
  ·exact Or.inr (Nat.le_trans (Nat.le_trans h.mv.size hb.size) z)
 ·refine hf b (Lay.mem.2 ?_)
  have q := Lay.mem.1 hbm
  simp only [nv, false_or, or_false] at q
  rcases q with q | q | q | q | q | q | q | q <;> simp [q]
end
end
section
open Go Go.RowKit Go.Sort
section
variable {w0 : World} {F0 : List Nat} {tb : Nat} {t t' : Trm} {W W' : World} {L : Lay}
set_option maxHeartbeats 4000000 in
set_option maxRecDepth 100000 in
theorem Jh (h : St w0 F0 tb t W) (s : ByteArray) (hs : s.size <= 1000) (hr : t.reps.size <= 65536) : Calls Tryz.prog 86 #[.pointer (some ⟨tb, 0, none⟩), .string s] W (Vd w0 F0 tb (qC t s)) := by
 obtain ⟨S, hS⟩ : ∃ S : ByteArray, S = ⟨#[27, 91]⟩ ++ s := ⟨_, rfl⟩
 have zS : S.size = s.size + 2 := by rw [hS, ByteArray.size_append]; show 2 + s.size = _; omega
 have e0 : qC t s = if t.reps.size + S.size <= 65536 then { t with reps := t.reps ++ S } else t := by unfold qC; rw [hS]; rw [show t.reps.size + (s.size + 2) = t.reps.size + ((⟨#[27, 91]⟩ : ByteArray) ++ s).size by rw [<- hS, zS]]
 rw [e0]
 have sb : (9223372036854775807 < 2 + s.size) = False := by simp; omega
 obtain ⟨L1, B1, up⟩ := h.appR
 obtain ⟨K1, up2⟩ := up W (Below.refl _ W)
 have KK := K1
 obtain ⟨A, c, eA, q1, q2, q3, q4⟩ := KK
 have k26 := B1.c 26 _ rfl
 have kf26 := B1.f 26
 rw [eA] at k26
 have H := zdy h
 have rb : (t.reps.size : Int) <= 65536 := by omega
 have sb2 : (S.size : Int) <= 1002 := by omega
 by_cases c1 : t.reps.size + S.size <= 65536
 ·rw [if_pos c1]
  obtain ⟨v', V, RC, ok⟩ := zcN K1 (x := S) (by omega) (by omega)
  obtain ⟨A2, c2, eV, r1, r2, r3, r4⟩ := ok.new
  subst eV
  obtain ⟨SV, BV, SN0⟩ := up2 _ V _ ok
  rw [ByteArray.size_append] at SN0 RC
  rw [eA] at RC
  have v26 := BV.c 26 _ rfl
  have vf26 := BV.f 26
  rw [eA] at v26
  have SN := zdy SN0
  have RC1 := zdy RC
  have d1 : (t.reps.size : Int) + (S.size : Int) <= 65536 := by omega
  have HS := zdy hS
  clear h e0 B1 up K1 up2 ok SV BV H q1 q2 q3 q4 c1 eA zS hS SN0 RC r1 r2 r3 r4
  go_enter Tryz.func86, Tryz.ntmps86
  go_upto_region 1 with fail
  rw [<- HS.out]
  go_wp2_with (at_builtin; refine jT rfl (.tmp 19) (.tmp 20) 27 9 rfl _ _ _ _ rfl rfl RC1.out ?_)
  go_end0
  exact ⟨⟨_, rfl⟩, SN.out⟩
 ·rw [if_neg c1]
  have d1 : ¬ (t.reps.size : Int) + (S.size : Int) <= 65536 := by omega
  have HS := zdy hS
  clear h e0 B1 up K1 up2 q1 q2 q3 q4 c1 eA zS hS
  go_enter Tryz.func86, Tryz.ntmps86
  go_upto_region 1 with fail
  rw [<- HS.out]
  go_wp2_with fail
  go_end0
  exact ⟨⟨_, rfl⟩, H.out⟩
theorem v_Itoa (n : Int) (h0 : -1000000000 <= n) (h1 : n <= 1000000000) (w : World) (E : EnvV w) : Calls Tryz.prog 107 #[.int .i64 n] w fun e w' => e = .returned (.string (itB n)) /\ Below w.heap.size w w' := by
 refine (Tryz.strconv_Itoa n (by omega) (by omega) w E.tab).mono ?_
 rintro e w' ⟨rfl, k, os, rfl⟩
 exact ⟨rfl, Lib.below_grow _ _ zdA _ _⟩
theorem VN (n : Int) (h0 : -1000000000 <= n) (h1 : n <= 1000000000) : (itB n).size <= 21 := by
 have := Lib.itoa_length_le n (by omega) (by omega)
 show (Lib.itoa n).toArray.size <= 21
 rwa [List.size_toArray]
set_option maxHeartbeats 8000000 in
set_option maxRecDepth 100000 in
theorem t_report (h : St w0 F0 tb t W) (f : Fine t) (k : Int) (hr : t.reps.size <= 65536) : Calls Tryz.prog 85 #[.pointer (some ⟨tb, 0, none⟩), .int .i64 k] W (Vd w0 F0 tb (ja t k)) := by
 have x0 := f.x0
 have y0 := f.y0
 have p0 := f.p0
 have w1 := f.w1
 have h1 := f.h1
 have xb : t.cur.x <= 4096 := by have := f.cx; omega
 have yb : t.cur.y <= 4096 := by have := f.cy; omega
 have pb : t.top <= 4096 := by have := f.p1; have := f.p2; omega
 have H := zdy h
 by_cases k5 : k = 5
 ·subst k5
  have CT := zdy (Jh h ⟨#[48, 110]⟩ (by decide) hr)
  have e0 : Hid (ja t 5 = qC t ⟨#[48, 110]⟩) := zdy rfl
  clear h f H
  go_enter Tryz.func85, Tryz.ntmps85
  go_wp2_with fail
  refine CT.out.mono ?_; rintro e w2 ⟨⟨v, rfl⟩, h1⟩
  have H2 := zdy h1
  clear h1
  clear CT
  go_wp2_with fail
  go_end0
  exact ⟨⟨_, rfl⟩, by rw [e0.out]; exact H2.out⟩
 by_cases k6 : k = 6
 ·subst k6
  obtain ⟨Y, eY⟩ : ∃ Y, Y = (if t.cur.org = true then max (t.cur.y - t.top) 0 else t.cur.y) := ⟨_, rfl⟩
  have Y0 : 0 <= Y /\ Y <= 4096 := by rw [eY]; split <;> omega
  have e0 : Hid (ja t 6 = qC t (((itB (Y + 1) ++ ⟨#[59]⟩) ++ itB (t.cur.x + 1)) ++ ⟨#[82]⟩)) := zdy (by rw [eY]; rfl)
  have I1 := VN (Y + 1) (by omega) (by omega)
  have I2 := VN (t.cur.x + 1) (by omega) (by omega)
  have CT : Hid (∀ W', St w0 F0 tb t W' -> Calls Tryz.prog 86 #[.pointer (some ⟨tb, 0, none⟩), .string (((itB (Y + 1) ++ ⟨#[59]⟩) ++ itB (t.cur.x + 1)) ++ ⟨#[82]⟩)] W' (Vd w0 F0 tb (qC t (((itB (Y + 1) ++ ⟨#[59]⟩) ++ itB (t.cur.x + 1)) ++ ⟨#[82]⟩)))) := zdy (fun W' hs => Jh hs _ (by
   simp only [ByteArray.size_append]
   have a : (⟨#[59]⟩ : ByteArray).size = 1 := rfl
   have b : (⟨#[82]⟩ : ByteArray).size = 1 := rfl
   omega) hr)
  have IT1 : Hid (∀ W', St w0 F0 tb t W' -> Calls Tryz.prog 107 #[.int .i64 (Y + 1)] W' fun e w' => e = .returned (.string (itB (Y + 1))) /\ Below W'.heap.size W' w') := zdy (fun W' hs => v_Itoa _ (by omega) (by omega) W' hs.env)
  have IT2 : Hid (∀ W', St w0 F0 tb t W' -> Calls Tryz.prog 107 #[.int .i64 (t.cur.x + 1)] W' fun e w' => e = .returned (.string (itB (t.cur.x + 1))) /\ Below W'.heap.size W' w') := zdy (fun W' hs => v_Itoa _ (by omega) (by omega) W' hs.env)
  have m1 := zdz (Y + 1) (by omega)
  have m2 := zdz (t.cur.x + 1) (by omega)
  have m3 := zdz (t.cur.y - t.top) (by omega)
  generalize itB (Y + 1) = P1 at *
  generalize itB (t.cur.x + 1) = P2 at *
  have s1 : (9223372036854775807 < P1.size + 1) = False := by simp; omega
  have s2 : (9223372036854775807 < P1.size + 1 + P2.size) = False := by simp; omega
  have s3 : (9223372036854775807 < P1.size + 1 + P2.size + 1) = False := by simp; omega
  clear h f I1 I2
  cases eo : t.cur.org with
  | true =>
   have EY : Hid (Y = max (t.cur.y - t.top) 0) := zdy (by rw [eY, eo]; rfl)
   clear eY
   obtain ⟨L1, B1⟩ := H.out.bk
   dsimp only [trmV, setX, setY] at B1
   have k4 := B1.c 4 _ rfl
   have kf4 := B1.f 4
   have k8 := B1.c 8 _ rfl
   have kf8 := B1.f 8
   have k21 := B1.c 21 _ rfl
   have kf21 := B1.f 21
   clear B1
   rw [eo] at k8
   clear eo
   go_enter Tryz.func85, Tryz.ntmps85
   go_upto_region 7 with fail
   rw [<- EY.out]
   clear k4 kf4 k8 kf8 k21 kf21
   have C1 := zdy (fun W' hb => IT1.out W' (H.out.below hb))
   have C2 := zdy (fun W' hb => IT2.out W' (H.out.below hb))
   obtain ⟨L1, B1⟩ := H.out.bk
   dsimp only [trmV, setX, setY] at B1
   have k3 := fun d os => (B1.regrown d os).c 3 _ rfl
   clear B1
   refine zf 14 (by kernel_rfl) (by kernel_rfl) ?_
   simp only [zdB, zdC, zdD, zdE]
   repeat (first | go_big_quiet_step (first | (with_reducible exact qa C1.out _ _) | (with_reducible exact qa C2.out _ _)) | quiet_step (first | (with_reducible exact qa C1.out _ _) | (with_reducible exact qa C2.out _ _)))
   refine wpQuiet_nil ?_
   intro _ hw'
   obtain ⟨⟨dq, osq⟩, hw''⟩ := hw'
   subst hw''
   have H := zdy (H.out.below (below_regrown W dq osq))
   clear k3
   generalize grow (redrawn W dq) osq = W1 at *
   have CT := zdy (CT.out W1 H.out)
   clear C1 C2 IT1 IT2
   go_wp2_with fail
   refine CT.out.mono ?_; rintro e w2 ⟨⟨v, rfl⟩, h1⟩
   have H2 := zdy h1
   clear h1
   clear CT
   go_wp2_with fail
   go_end0
   exact ⟨⟨_, rfl⟩, by rw [e0.out]; exact H2.out⟩
  | false =>
   have EY : Hid (Y = t.cur.y) := zdy (by rw [eY, eo]; rfl)
   clear eY
   obtain ⟨L1, B1⟩ := H.out.bk
   dsimp only [trmV, setX, setY] at B1
   have k4 := B1.c 4 _ rfl
   have kf4 := B1.f 4
   have k8 := B1.c 8 _ rfl
   have kf8 := B1.f 8
   clear B1
   rw [eo] at k8
   clear eo
   go_enter Tryz.func85, Tryz.ntmps85
   go_upto_region 7 with fail
   rw [<- EY.out]
   clear k4 kf4 k8 kf8
   have C1 := zdy (fun W' hb => IT1.out W' (H.out.below hb))
   have C2 := zdy (fun W' hb => IT2.out W' (H.out.below hb))
   obtain ⟨L1, B1⟩ := H.out.bk
   dsimp only [trmV, setX, setY] at B1
   have k3 := fun d os => (B1.regrown d os).c 3 _ rfl
   clear B1
   refine zf 14 (by kernel_rfl) (by kernel_rfl) ?_
   simp only [zdB, zdC, zdD, zdE]
   repeat (first | go_big_quiet_step (first | (with_reducible exact qa C1.out _ _) | (with_reducible exact qa C2.out _ _)) | quiet_step (first | (with_reducible exact qa C1.out _ _) | (with_reducible exact qa C2.out _ _)))
   refine wpQuiet_nil ?_
   intro _ hw'
   obtain ⟨⟨dq, osq⟩, hw''⟩ := hw'
   subst hw''
   have H := zdy (H.out.below (below_regrown W dq osq))
   clear k3
   generalize grow (redrawn W dq) osq = W1 at *
   have CT := zdy (CT.out W1 H.out)
   clear C1 C2 IT1 IT2
   go_wp2_with fail
   refine CT.out.mono ?_; rintro e w2 ⟨⟨v, rfl⟩, h1⟩
   have H2 := zdy h1
   clear h1
   clear CT
   go_wp2_with fail
   go_end0
   exact ⟨⟨_, rfl⟩, by rw [e0.out]; exact H2.out⟩
 have e0 : Hid (ja t k = t) := zdy (by unfold ja; rw [if_neg k5, if_neg k6])
 have b5 : (k == 5) = false := by simpa using k5
 have b6 : (k == 6) = false := by simpa using k6
 clear h f
 go_enter Tryz.func85, Tryz.ntmps85
 go_wp2_with fail
 go_end0
 exact ⟨⟨_, rfl⟩, by rw [e0.out]; exact H.out⟩
end
end
section
open Go Go.RowKit Go.Sort
theorem zcO {W : World} {v : Value} {s : ByteArray} (h : KeptAt W v s) : (convert 27 9 v).run Tryz.prog W = .ok (.string s) W := by
 obtain ⟨A, c, rfl, h1, hm, h2, h3⟩ := h
 clear hm
 by_cases z : s.size = 0
 ·rw [z]
  have := run_convert_bytes_zero (P := Tryz.prog) W 27 5 Tryz.underlying27 Tryz.underlying5 A c 9 Tryz.underlying9
  have e : ByteArray.empty = s := by
   apply ByteArray.ext
   have q : s.data.size = 0 := z
   exact (Array.eq_empty_of_size_eq_zero q).symm
  rw [e] at this
  exact this
 ·obtain ⟨g, o, cur, rfl, hg, hc, hs⟩ := h3 (by omega)
  have := run_convert_bytes_back (P := Tryz.prog) W 27 9 5 ⟨g, o, none⟩ c s.data.toList Tryz.underlying27 Tryz.underlying5 Tryz.underlying9 (fun j hj => by
   refine kS hg hs j _ ?_
   unfold Lib.strCells
   rw [List.getElem?_map, List.getElem?_eq_getElem hj]
   rfl)
  rw [show s.data.toList.length = s.size by rw [Array.length_toList]; rfl] at this
  exact this
def preB (s : ByteArray) (a : Int) : Bool := decide ((byL s).getD 0 0 = a /\ (byL s).getD 1 0 = 59)
theorem pre_ext (s : ByteArray) (a : UInt8) (h : 2 <= s.size) : ((s.extract 0 2).toList == [a, 59]) = preB s (a.toNat : Int) := by
 rw [ZP]
 unfold preB byL
 obtain ⟨l, e1, e2, _⟩ := ZA s
 rw [e1]
 rw [e2] at h
 rcases l with _ | ⟨x, _ | ⟨y, r⟩⟩
 ·simp at h
 ·simp at h
 ·have ee : s.extract 0 2 = ⟨#[x, y]⟩ := by
   apply ByteArray.ext
   rw [ByteArray.data_extract, <- Array.toList_inj, Array.toList_extract, e1]
   simp [List.extract]
  rw [ee]
  apply decide_eq_decide.2
  constructor
  ·intro q
   have q2 := congrArg ByteArray.data q
   simp at q2
   obtain ⟨rfl, rfl⟩ := q2
   simp
  ·intro q
   simp at q
   obtain ⟨q1, q2⟩ := q
   have x1 : x = a := UInt8.toNat_inj.1 (by omega)
   have y1 : y = 59 := UInt8.toNat_inj.1 (by have : (59 : UInt8).toNat = 59 := rfl; omega)
   rw [x1, y1]
theorem VO (s : ByteArray) (a : Int) (h : ¬ 2 <= s.size) : preB s a = false := by
 unfold preB byL
 obtain ⟨l, e1, e2, _⟩ := ZA s
 rw [e1]
 rw [e2] at h
 rcases l with _ | ⟨x, _ | ⟨y, r⟩⟩
 ·simp
 ·simp
 ·simp at h
set_option maxHeartbeats 1000000 in
theorem v_pre0 (s : ByteArray) (a : UInt8) (w : World) : Calls Tryz.prog 100 #[.string s, .string ⟨#[a, 59]⟩] w fun e w' => e = .returned (.bool (preB s (a.toNat : Int))) /\ w' = w := by
 by_cases h : 2 <= s.size
 ·have E := pre_ext s a h
  have h2 : (2 : Int) <= (s.size : Int) := by omega
  generalize preB s (a.toNat : Int) = b at *
  have sl : ∀ W, (Instr.slice 9 (.string s) none (some (.int .i64 2)) none).run Tryz.prog W = .ok (.string (s.extract 0 2)) W := fun W => by
   rw [run_slice_string_to_if _ _ _ _ _ Tryz.underlying9, if_pos (by omega)]
   rfl
  go_enter Tryz.func100, Tryz.ntmps100
  go_wp2_with fail
  go_ret
  exact ⟨by rw [<- E]; rfl, rfl⟩
 ·have E := VO s (a.toNat : Int) h
  rw [E]
  have h2 : ¬ (2 : Int) <= (s.size : Int) := by omega
  have h3 : decide ((2 : Int) <= (s.size : Int)) = false := by simpa using h2
  clear E
  go_enter Tryz.func100, Tryz.ntmps100
  go_wp2_with fail
  go_ret
  exact ⟨rfl, rfl⟩
theorem v_pre (s : ByteArray) (a : UInt8) (w : World) : Calls Tryz.prog 78 #[.string s, .string ⟨#[a, 59]⟩] w fun e w' => e = .returned (.bool (preB s (a.toNat : Int))) /\ w' = w := by
 have C := zdy (v_pre0 s a)
 generalize preB s (a.toNat : Int) = b at *
 go_enter Tryz.func78, Tryz.ntmps78
 go_wp2_with fail
 refine (C.out _).mono ?_; rintro e w1 ⟨rfl, rfl⟩
 go_wp2_with fail
 go_ret
 exact ⟨rfl, rfl⟩
theorem VQ (s : ByteArray) (hs : s.size <= 310000000) (w : World) : Calls Tryz.prog 79 #[.string s] w fun e w' => e = .returned (.string (xz s)) /\ Below w.heap.size w w' := by
 have R := zdy (XI s (by omega))
 have RG := ZL _ s rfl
 have RL := kW _ s rfl
 unfold xz
 generalize zH s = l at *
 go_enter Tryz.func79, Tryz.ntmps79
 go_wp2_with fail
 refine (R.out _).mono ?_; rintro e w1 ⟨v, rfl, ho, hb⟩
 obtain ⟨A, c, rfl⟩ := qU ho
 have T := zdy (d_Text A c l (by omega) RG w1 (Sees.of_own ho))
 have HB := zdy hb
 clear ho hb RG
 go_wp2_with fail
 refine T.out.mono ?_; rintro e w2 ⟨rfl, hb2⟩
 have HB2 := zdy (HB.out.trans (hb2.mono HB.out.size))
 clear hb2
 go_wp2_with fail
 go_ret
 exact ⟨rfl, HB2.out⟩
end
section
open Go Go.RowKit Go.Sort
section
variable {w0 : World} {F0 : List Nat} {tb : Nat} {t t' : Trm} {W W' : World} {L : Lay}
theorem St.setName (h : St w0 F0 tb t W) (x : ByteArray) : St w0 F0 tb { t with name := x } (W.setCell ⟨tb, 25, none⟩ (.string x)) := h.set _ 25 _ (fun _ => rfl) ⟨rfl, rfl, rfl, rfl, rfl, rfl, rfl⟩
theorem zcP (t : Trm) : qE t = if preB t.held 48 = true \/ preB t.held 50 = true then { t with name := xz (t.held.extract 2 t.held.size) } else t := by
 unfold qE preB
 simp only [decide_eq_true_eq]
 by_cases c : ((byL t.held).getD 0 0 = 48 \/ (byL t.held).getD 0 0 = 50) /\ (byL t.held).getD 1 0 = 59
 ·rw [if_pos c, if_pos (c.1.elim (fun a => Or.inl ⟨a, c.2⟩) (fun a => Or.inr ⟨a, c.2⟩))]
 ·rw [if_neg c, if_neg (fun z => c (z.elim (fun a => ⟨Or.inl a.1, a.2⟩) (fun a => ⟨Or.inr a.1, a.2⟩)))]
theorem pre_two {s : ByteArray} {a : Int} (h : preB s a = true) : 2 <= s.size := by
 by_cases c : 2 <= s.size
 ·exact c
 ·rw [VO s a c] at h; cases h
theorem St.heldS (h : St w0 F0 tb t W) : ∃ L A c, Bk W tb (trmV t L) 104 /\ L.h = .slice A t.held.size c /\ (convert 27 9 (.slice A t.held.size c)).run Tryz.prog W = .ok (.string t.held) W := by
 obtain ⟨L, e, T, hf⟩ := h.lay
 obtain ⟨A, c, eA, _⟩ := T.h
 exact ⟨L, A, c, e ▸ T.own, eA, by rw [<- eA]; exact zcO T.h⟩
set_option maxHeartbeats 4000000 in
set_option maxRecDepth 100000 in
theorem VR (h : St w0 F0 tb t W) (hh : t.held.size <= 310000000) : Calls Tryz.prog 69 #[.pointer (some ⟨tb, 0, none⟩)] W (Vd w0 F0 tb (qE t)) := by
 obtain ⟨L1, A, c, B1, eA, CV⟩ := h.heldS
 have k29 := B1.c 29 _ rfl
 have kf29 := B1.f 29
 rw [eA] at k29
 have EQ := zdy (zcP t)
 have P1 : Hid (∀ W', Calls Tryz.prog 78 #[.string t.held, .string ⟨#[48, 59]⟩] W' fun e w' => e = .returned (.bool (preB t.held 48)) /\ w' = W') := zdy (fun W' => v_pre t.held 48 W')
 have P2 : Hid (∀ W', Calls Tryz.prog 78 #[.string t.held, .string ⟨#[50, 59]⟩] W' fun e w' => e = .returned (.bool (preB t.held 50)) /\ w' = W') := zdy (fun W' => v_pre t.held 50 W')
 have H := zdy h
 clear B1 eA h
 have T2 := zdy (fun a (e : preB t.held a = true) => pre_two e)
 cases p1 : preB t.held 48 with
 | true =>
  have s2 := T2.out _ p1
  have s2i : (2 : Int) <= (t.held.size : Int) := by omega
  have slr : ∀ W, (Instr.slice 9 (.string t.held) (some (.int .i64 2)) none none).run Tryz.prog W = .ok (.string (t.held.extract 2 t.held.size)) W := fun W => by
   rw [run_slice_string_from_if _ _ _ _ _ Tryz.underlying9, if_pos (by omega)]
   rfl
  have CL := zdy (VQ (t.held.extract 2 t.held.size) (by rw [ByteArray.size_extract]; omega) W)
  have EQ : Hid (qE t = { t with name := xz (t.held.extract 2 t.held.size) }) := zdy (by rw [EQ.out, if_pos (Or.inl p1)])
  rw [p1] at P1
  clear T2 p1 P2
  go_enter Tryz.func69, Tryz.ntmps69
  go_wp2_with fail
  refine (P1.out _).mono ?_; rintro e w1 ⟨rfl, rfl⟩
  go_wp2_with fail
  refine CL.out.mono ?_; rintro e w2 ⟨rfl, hb⟩
  have H := zdy (H.out.below hb)
  have H2 := zdy (H.out.setName (xz (t.held.extract 2 t.held.size)))
  clear CL hb k29 kf29 CV
  obtain ⟨L1, B1⟩ := H.out.bk
  dsimp only [trmV, setX, setY] at B1
  have k25 := B1.c 25 _ rfl
  have kf25 := B1.f 25
  clear B1
  go_wp2_with fail
  go_end0
  exact ⟨⟨_, rfl⟩, by rw [EQ.out]; exact H2.out⟩
 | false =>
  rw [p1] at P1
  cases p2 : preB t.held 50 with
  | true =>
   have s2 := T2.out _ p2
   have s2i : (2 : Int) <= (t.held.size : Int) := by omega
   have slr : ∀ W, (Instr.slice 9 (.string t.held) (some (.int .i64 2)) none none).run Tryz.prog W = .ok (.string (t.held.extract 2 t.held.size)) W := fun W => by
    rw [run_slice_string_from_if _ _ _ _ _ Tryz.underlying9, if_pos (by omega)]
    rfl
   have CL := zdy (VQ (t.held.extract 2 t.held.size) (by rw [ByteArray.size_extract]; omega) W)
   have EQ : Hid (qE t = { t with name := xz (t.held.extract 2 t.held.size) }) := zdy (by rw [EQ.out, if_pos (Or.inr p2)])
   rw [p2] at P2
   clear T2 p1 p2
   go_enter Tryz.func69, Tryz.ntmps69
   go_wp2_with fail
   refine (P1.out _).mono ?_; rintro e w1 ⟨rfl, rfl⟩
   go_wp2_with fail
   refine (P2.out _).mono ?_; rintro e w1 ⟨rfl, rfl⟩
   go_wp2_with fail
   refine CL.out.mono ?_; rintro e w2 ⟨rfl, hb⟩
   have H := zdy (H.out.below hb)
   have H2 := zdy (H.out.setName (xz (t.held.extract 2 t.held.size)))
   clear CL hb k29 kf29 CV
   obtain ⟨L1, B1⟩ := H.out.bk
   dsimp only [trmV, setX, setY] at B1
   have k25 := B1.c 25 _ rfl
   have kf25 := B1.f 25
   clear B1
   go_wp2_with fail
   go_end0
   exact ⟨⟨_, rfl⟩, by rw [EQ.out]; exact H2.out⟩
  | false =>
   have EQ : Hid (qE t = t) := zdy (by rw [EQ.out, if_neg (by rw [p1, p2]; simp)])
   rw [p2] at P2
   clear T2 p1 p2
   go_enter Tryz.func69, Tryz.ntmps69
   go_wp2_with fail
   refine (P1.out _).mono ?_; rintro e w1 ⟨rfl, rfl⟩
   go_wp2_with fail
   refine (P2.out _).mono ?_; rintro e w1 ⟨rfl, rfl⟩
   go_wp2_with fail
   go_end0
   exact ⟨⟨_, rfl⟩, by rw [EQ.out]; exact H.out⟩
end
end
section
open Go Go.RowKit Go.Sort
section
variable {w0 : World} {F0 : List Nat} {tb : Nat} {t t' : Trm} {W W' : World} {L : Lay}
theorem VT (b : Int) (b0 : 0 <= b) (b1 : b < 256) : Lib.strCells (⟨#[UInt8.ofNat b.toNat]⟩ : ByteArray) = [.int .u8 b] := by
 show [Value.int .u8 _] = _
 have : ((UInt8.ofNat b.toNat).toNat : Int) = b := by
  rw [UInt8.toNat_ofNat']
  have : max b 0 = b := by omega
  omega
 exact congrArg (fun z => [Value.int .u8 z]) this
theorem Ji {W : World} {v : Value} {s : ByteArray} (h : KeptAt W v s) (b : Int) (b0 : 0 <= b) (b1 : b < 256) (hl : s.size <= 900000000) :
  ∃ v' W', (Builtin.append_ #[27, 27] 27 #[v, .slice (some ⟨W.heap.size, 0, none⟩) 1 1]).run Tryz.prog (W.alloc (.cells #[.int .u8 b] 5)) = .ok v' W' /\ AppOk (W.alloc (.cells #[.int .u8 b] 5)) W' v v' s (zp s b) := by
 have hb : Below W.heap.size W (W.alloc (.cells #[.int .u8 b] 5)) := (Below.refl _ W).alloc zdA _
 have h1 : KeptAt (W.alloc (.cells #[.int .u8 b] 5)) v s := h.keep (fun g hg => hb.block g (h.lt g hg))
 refine VM h1 (x := ⟨#[UInt8.ofNat b.toNat]⟩) ⟨W.heap.size, 0, none⟩ 1 (Nat.zero_lt_one) (fun j u hj => ?_) (by show s.size + 1 <= _; omega)
 rw [VT b b0 b1] at hj
 cases j with
 | succ j => simp at hj
 | zero =>
  have : u = .int .u8 b := by simpa using hj.symm
  subst this
  have := World.alloc_heap_new W (.cells #[.int .u8 b] 5)
  rw [jf]
  simp only [World.cell?, this]
  rfl
set_option maxHeartbeats 4000000 in
set_option maxRecDepth 100000 in
theorem t_within (h : St w0 F0 tb t W) (b : Int) (b0 : 0 <= b) (b1 : b < 256) (hs : t.state = 4 \/ t.state = 5) (hh : t.held.size <= 310000000) : Calls Tryz.prog 70 #[.pointer (some ⟨tb, 0, none⟩), .int .u8 b] W (Vd w0 F0 tb (qM t b)) := by
 obtain ⟨L1, B1, up⟩ := h.appH
 have k28 := B1.c 28 _ rfl
 have k29 := B1.c 29 _ rfl
 have kf28 := B1.f 28
 have kf29 := B1.f 29
 have H := zdy h
 by_cases c27 : b = 27
 ·subst c27
  have e : qM t 27 = { t with state := t.state + 2 } := rfl
  rw [e]
  have S1 := zdy (h.setState (t.state + 2))
  obtain ⟨N, hN⟩ : ∃ N, N = t.state + 2 := ⟨_, rfl⟩
  rw [<- hN] at S1
  rw [<- hN]
  rcases hs with z | z
  ·rw [z] at k28 hN
   have hN2 : N = 6 := hN
   subst hN2
   clear h B1 up k29 kf29 e hN z
   go_enter Tryz.func70, Tryz.ntmps70
   go_wp2_with fail
   go_end0
   exact ⟨⟨_, rfl⟩, S1.out⟩
  ·rw [z] at k28 hN
   have hN2 : N = 7 := hN
   subst hN2
   clear h B1 up k29 kf29 e hN z
   go_enter Tryz.func70, Tryz.ntmps70
   go_wp2_with fail
   go_end0
   exact ⟨⟨_, rfl⟩, S1.out⟩
 ·by_cases c5 : t.state = 5
  ·have e : qM t b = t := by unfold qM; rw [if_neg c27, if_pos c5]
   rw [e]
   rw [c5] at k28
   clear h B1 up k29 kf29 hs e
   have c27' : decide (b = 27) = false := decide_eq_false c27
   go_enter Tryz.func70, Tryz.ntmps70
   go_wp2_with fail
   go_end0
   exact ⟨⟨_, rfl⟩, H.out⟩
  ·have c4 : t.state = 4 := hs.resolve_right c5
   rw [c4] at k28
   by_cases c7 : b = 7
   ·subst c7
    have e : qM t 7 = { qE t with state := 0 } := by unfold qM; rw [if_neg c27, if_neg c5, if_pos rfl]
    rw [e]
    have TT := zdy (VR h (by omega))
    clear h B1 up k29 kf29 hs c5 c4 e H
    go_enter Tryz.func70, Tryz.ntmps70
    go_wp2_with fail
    refine TT.out.mono ?_; rintro e w1 ⟨⟨_, rfl⟩, S1⟩
    have S2 := zdy (S1.setState 0)
    have S1 := zdy S1
    clear TT k28 kf28
    obtain ⟨L1, B1⟩ := S1.out.bk
    dsimp only [trmV, setX, setY] at B1
    have k28 := B1.c 28 _ rfl
    have kf28 := B1.f 28
    clear B1
    go_wp2_with fail
    go_end0
    exact ⟨⟨_, rfl⟩, S2.out⟩
   ·have c27' : decide (b = 27) = false := decide_eq_false c27
    have c7' : decide (b = 7) = false := decide_eq_false c7
    by_cases cl : t.held.size < 1024
    ·have e : qM t b = { t with held := zp t.held b } := by unfold qM; rw [if_neg c27, if_neg c5, if_neg c7, if_pos cl]
     rw [e]
     obtain ⟨K1, _⟩ := up W (Below.refl _ W)
     obtain ⟨v', V, RC0, ok⟩ := Ji K1 b b0 b1 (by omega)
     obtain ⟨_, up2⟩ := up (W.alloc (.cells #[.int .u8 b] 5)) ((Below.refl _ W).alloc zdA _)
     obtain ⟨A, c, eA, q1, q2, q3, q4⟩ := K1
     obtain ⟨SV, BV, SN0⟩ := up2 _ V _ ok
     obtain ⟨A2, c2, eV, r1, r2, r3, r4⟩ := ok.new
     subst eV
     rw [eA] at k29 RC0
     have v29 := BV.c 29 _ rfl
     have vf29 := BV.f 29
     rw [eA] at v29
     have SN := zdy SN0
     have RC := zdy RC0
     have cli : (t.held.size : Int) < 1024 := by omega
     have kw := World.alloc_heap_new W (.cells #[.int .u8 b] 5)
     clear h B1 up up2 ok SV BV H q1 q2 q3 q4 eA SN0 RC0 r1 r2 r3 r4 hs c5 c4 e cl hh kw
     go_enter Tryz.func70, Tryz.ntmps70
     go_wp2_with (at_builtin; refine jT rfl (.tmp 39) (.tmp 41) 27 27 rfl _ _ _ _ rfl rfl RC.out ?_)
     go_end0
     exact ⟨⟨_, rfl⟩, SN.out⟩
    ·have e : qM t b = t := by unfold qM; rw [if_neg c27, if_neg c5, if_neg c7, if_neg cl]
     rw [e]
     obtain ⟨K1, _⟩ := up W (Below.refl _ W)
     obtain ⟨A, c, eA, q1, q2, q3, q4⟩ := K1
     rw [eA] at k29
     have cli : ¬ (t.held.size : Int) < 1024 := by omega
     clear h B1 up eA q1 q2 q3 q4 hs c5 c4 e cl hh
     go_enter Tryz.func70, Tryz.ntmps70
     go_wp2_with fail
     go_end0
     exact ⟨⟨_, rfl⟩, H.out⟩
end
end
end Go.Proofs.YtmaofighbpnbiaaGreatDoor
