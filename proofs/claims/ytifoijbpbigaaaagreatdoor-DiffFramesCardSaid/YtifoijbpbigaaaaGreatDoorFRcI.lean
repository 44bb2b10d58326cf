/- One call on a writer of the program's and of the document's: the law's act (walk). -/
import Derived.Test.YtifoijbpbigaaaaGreatDoorFRcH
set_option linter.unusedVariables false
set_option linter.unusedSimpArgs false
namespace Go.Proofs.YtifoijbpbigaaaaGreatDoor
section
open Go Go.RowKit Go.Sort
section
def ActR (LO : Nat) (q : Pr) (w : World) (e : Ending) (w' : World) : Prop :=
 ∃ q', e = .returned (.bool true) /\ PrS LO q' w' /\ q'.p = q.p /\ q'.xp = q'.xr /\ q'.ws = q'.R.map (·.2) /\ q'.R.length = q.R.length + 1 /\ Ch q.O w w' /\ (∀ g, q'.O g -> q.O g \/ w.heap.size <= g)
def FpB (LO : Nat) (q : Pr) (s : Scr) (P : World) (A' : Option Addr) (c' : Nat) (w' : World) : Prop :=
 ∃ w LA' Lc', Below P.heap.size P w /\ w'.ownsRow w.heap.size 5 1 (.slice A' (outX q.xp s).size c') (outX q.xp s).size (Lib.strCells (outX q.xp s)) /\ (outX q.xp s).size <= 3000000000 /\
  PrS LO { q with xp := zX q.xp s, LA := LA', Lc := Lc' } w' /\ w.grownBy w' (some q.pp) /\ ((zX q.xp s).told = true -> ∀ a, LA' = some a -> w.heap.size <= a.block \/ (q.xp.told = true /\ q.LA = some a))
def FrB (LO : Nat) (q : Pr) (s : Scr) (P : World) (w' : World) : Prop :=
 ∃ w RA' Rc', Below P.heap.size P w /\
  PrS LO { q with xr := zX q.xr s, RA := RA', Rc := Rc' } w' /\ w.grownBy w' (some q.rb) /\ ((zX q.xr s).told = true -> ∀ a, RA' = some a -> w.heap.size <= a.block \/ (q.xr.told = true /\ q.RA = some a /\ zX q.xr s = q.xr))
theorem str_eqq (s : ByteArray) : (s.toList == s.toList) = true := by simp
set_option maxHeartbeats 64000000 in
set_option maxRecDepth 100000 in
theorem Jy (W0 : World) (E : EnvD W0) (q : Pr) (w : World) (h : PrS W0.heap.size q w) (eq : q.xp = q.xr) (ew : q.ws = q.R.map (·.2)) (B : Below W0.heap.size W0 w) (rs : Bool) (t : SA) (hs : ScrAt W0 W0.heap.size t.s t.A t.c) (ok : ∀ x ∈ t.s.cells, okR x) (nl : t.s.cells.length <= 134217728) (ht : totS t.s.cells <= 1000000000) (hN : q.R.length <= 1990000000000) :
    Calls Tryz.prog 19 #[.pointer (some ⟨q.p, 0, none⟩), .agg #[.bool rs, .int .i64 t.s.w, .int .i64 t.s.h, .slice t.A t.s.cells.length t.c, .int .i64 t.s.x, .int .i64 t.s.y, .bool t.s.shown]] w (ActR W0.heap.size q w) := by
  obtain ⟨LO, hLO⟩ : ∃ LO, LO = W0.heap.size := ⟨_, rfl⟩
  rw [<- hLO] at h B hs ⊢
  have LW : LO <= w.heap.size := by rw [hLO]; exact B.size
  have EN := Vd (fun (W : World) (hb : Below LO W0 W) => E.of_below hb (by rw [hLO]; exact Vf))
  have NBE := Vd (env_nb E (show W0.heap.size <= q.pp by rw [<- hLO]; exact h.lopp))
  obtain ⟨Q, hQ⟩ : ∃ Q, Q = w.alloc (.cells #[.bool rs, .int .i64 t.s.w, .int .i64 t.s.h, .slice t.A t.s.cells.length t.c, .int .i64 t.s.x, .int .i64 t.s.y, .bool t.s.shown] 51) := ⟨_, rfl⟩
  have BQ : Below w.heap.size w Q := by rw [hQ]; exact (Below.refl _ w).alloc Vf _
  have KA : Own1 Q w.heap.size [.bool rs, .int .i64 t.s.w, .int .i64 t.s.h, .slice t.A t.s.cells.length t.c, .int .i64 t.s.x, .int .i64 t.s.y, .bool t.s.shown] 51 := by rw [hQ]; exact World.alloc_heap_new w _
  have H1 := Vd (h.below BQ)
  have HO := Vd (fun g (o : q.O g) => h.lo o)
  have CH1 : Hid (Ch q.O w Q) := Vd ((Ch.refl _ _).below BQ)
  have HBW := Vd B
  have HLW := Vd LW
  have HS := Vd hs
  have HOK := Vd ok
  have HEQ := Vd eq
  have HEW := Vd ew
  have HKA := Vd KA
  have HNN := Vd hN
  have BE : Hid (∀ W, Ch q.O w W -> Below LO W0 W) := Vd (fun W c => c.bel B LW (fun g o => (h.lo o).1))
  have bx0 : Q.cell? ⟨q.p, 0, none⟩ = some (.pointer (some ⟨q.pp, 0, none⟩)) := H1.out.bx.blk.c 0 _ rfl
  have a0 := KA.blk.c 0 _ rfl
  obtain ⟨x1, hx1⟩ : ∃ x1, x1 = if rs = true then unR q.xp else q.xp := ⟨_, rfl⟩
  have HX1 := Vd hx1
  clear h eq ew B hs ok LW KA BQ hLO hx1 hN
  go_enter Tryz.func19, Tryz.ntmps19
  go_upto_region 1 with fail
  rw [<- hQ]
  clear hQ
  go_upto_if 14 with fail
  go_cut [] from 14 to 24 (fun wx => Hid (PrS LO { q with xp := x1, xr := x1 } wx /\ Own1 wx w.heap.size [.bool rs, .int .i64 t.s.w, .int .i64 t.s.h, .slice t.A t.s.cells.length t.c, .int .i64 t.s.x, .int .i64 t.s.y, .bool t.s.shown] 51 /\ Ch q.O w wx))
  case first =>
    cases rs with
    | true =>
      have X : Hid (x1 = unR q.xp) := Vd (by rw [HX1.out, if_pos rfl])
      have c1 : Q.cell? ⟨q.pp, 1, none⟩ = some (.bool q.xp.told) := H1.out.wr.own.blk.c 1 _ rfl
      have f1 := H1.out.wr.own.blk.f 1 _ rfl
      have D1 := Vd (d_Reset q.pp q.xp.told Q c1 f1)
      clear c1 f1
      go_wp2_with fail
      refine D1.out.mono ?_; rintro e V1 ⟨⟨v, rfl⟩, rfl⟩
      obtain ⟨V1, hV1⟩ : ∃ V1, V1 = Q.setCell ⟨q.pp, 1, none⟩ (.bool false) := ⟨_, rfl⟩
      rw [<- hV1]
      have H2 : PrS LO { q with xp := unR q.xp } V1 := by rw [hV1]; exact H1.out.unP
      have KA2 : Own1 V1 w.heap.size [.bool true, .int .i64 t.s.w, .int .i64 t.s.h, .slice t.A t.s.cells.length t.c, .int .i64 t.s.x, .int .i64 t.s.y, .bool t.s.shown] 51 := by rw [hV1]; exact HKA.out.typed (zA Q ⟨q.pp, 1, none⟩ (.bool false)) H1.out.wr.own.typ (by decide)
      have C2 : Ch q.O w V1 := by rw [hV1]; exact CH1.out.set q.pp 1 _ (Or.inr (Or.inl rfl))
      have bx1 : V1.cell? ⟨q.p, 1, none⟩ = some (.pointer (some ⟨q.rb, 0, none⟩)) := H2.bx.blk.c 1 _ rfl
      have c1 : V1.cell? ⟨q.rb, 1, none⟩ = some (.bool q.xr.told) := H2.rf.own.blk.c 1 _ rfl
      have f1 := H2.rf.own.blk.f 1 _ rfl
      have D2 := Vd (KT q.rb q.xr.told V1 c1 f1)
      have H2 := Vd H2
      have KA2 := Vd KA2
      have C2 := Vd C2
      clear c1 f1 hV1 bx0 a0 D1
      go_wp2_with fail
      refine D2.out.mono ?_; rintro e V2 ⟨⟨v2, rfl⟩, rfl⟩
      have FIN : Hid (PrS LO { q with xp := x1, xr := x1 } (V1.setCell ⟨q.rb, 1, none⟩ (.bool false)) /\ Own1 (V1.setCell ⟨q.rb, 1, none⟩ (.bool false)) w.heap.size [.bool true, .int .i64 t.s.w, .int .i64 t.s.h, .slice t.A t.s.cells.length t.c, .int .i64 t.s.x, .int .i64 t.s.y, .bool t.s.shown] 51 /\ Ch q.O w (V1.setCell ⟨q.rb, 1, none⟩ (.bool false))) := Vd (by
        refine ⟨?_, KA2.out.typed (zA V1 ⟨q.rb, 1, none⟩ (.bool false)) H2.out.rf.own.typ (by decide), C2.out.set q.rb 1 _ (Or.inr (Or.inr (Or.inl rfl)))⟩
        have := H2.out.unQ
        rw [X.out]
        simp only [HEQ.out] at this ⊢
        exact this)
      clear D2 bx1
      generalize V1.setCell ⟨q.rb, 1, none⟩ (.bool false) = V3 at *
      go_wp2_with fail
      go_meet
      exact FIN
    | false =>
      have X : Hid (x1 = q.xp) := Vd (by rw [HX1.out, if_neg (by decide)])
      go_wp2_with fail
      go_meet
      exact Vd ⟨by
        rw [X.out]
        have := H1.out
        have e := HEQ.out
        obtain ⟨_, _, _, _, _, _, _, _, _, _, _, _, _, _, _⟩ := q
        simp only at e
        subst e
        exact this, HKA.out, CH1.out⟩
  case rest =>
    obtain ⟨V, hV⟩ : ∃ V, V = wc := ⟨_, rfl⟩
    rw [<- hV] at hcut ⊢
    obtain ⟨q1, hq1⟩ : ∃ q1, q1 = { q with xp := x1, xr := x1 } := ⟨_, rfl⟩
    rw [<- hq1] at hcut
    have P1F : q1.p = q.p /\ q1.pp = q.pp /\ q1.rb = q.rb /\ q1.R = q.R /\ q1.ws = q.ws /\ q1.xp = q1.xr /\ (∀ g, q1.O g ↔ q.O g) /\ q1.tv = q.tv /\ q1.wv = q.wv := by rw [hq1]; exact ⟨rfl, rfl, rfl, rfl, rfl, rfl, fun g => Iff.rfl, rfl, rfl⟩
    have HQ1 := Vd P1F
    obtain ⟨h2, k2, c2⟩ := hcut.out
    have C3V := Vd c2.size
    have H2 := Vd h2
    have K2 := Vd k2
    have C2 := Vd c2
    clear hcut hV bx0 a0 H1 HKA CH1 HX1 hq1 P1F
    have BV := BE.out V c2
    have LT := Vd (law_lent t.s t.A t.c HS.out.cap HS.out.nil (by omega) V ((HS.out.sees.below BV Vf).more (Nat.le_trans HLW.out c2.size)))
    unfold LentR at LT
    simp only [scrV] at LT
    have a1 := (k2).blk.c 1 _ rfl
    have a2 := (k2).blk.c 2 _ rfl
    have a3 := (k2).blk.c 3 _ rfl
    have a4 := (k2).blk.c 4 _ rfl
    have a5 := (k2).blk.c 5 _ rfl
    have a6 := (k2).blk.c 6 _ rfl
    clear h2 k2 c2 BV
    go_wp2_with fail
    refine LT.out.mono ?_; rintro e W2 ⟨gf, cf, rfl, fa, b2⟩
    have la : t.s.cells.length + 2 <= cf := by
      rcases fa.2 with ⟨z, _⟩ | ⟨g, cap, cur, z, _, _, hn, _⟩
      · cases z
      · injection z with z1 z2 z3; omega
    have gfV := Q9 fa
    obtain ⟨P1, hP1⟩ : ∃ P1, P1 = W2.alloc (.cells #[.int .i64 t.s.w, .int .i64 t.s.h, .slice (some ⟨gf, 0, none⟩) t.s.cells.length cf, .int .i64 t.s.x, .int .i64 t.s.y, .bool t.s.shown] 24) := ⟨_, rfl⟩
    have p1 : Below W2.heap.size W2 P1 := by rw [hP1]; exact (Below.refl _ W2).alloc Vf _
    have KP1 : Own1 P1 W2.heap.size [.int .i64 t.s.w, .int .i64 t.s.h, .slice (some ⟨gf, 0, none⟩) t.s.cells.length cf, .int .i64 t.s.x, .int .i64 t.s.y, .bool t.s.shown] 24 := by rw [hP1]; exact World.alloc_heap_new W2 _
    have B12 := b2.trans (p1.mono b2.size)
    have HFA := Vd (jG fa p1)
    have HLA := Vd la
    have HGF := Vd (And.intro gfV.1 (Nat.lt_of_lt_of_le gfV.2 p1.size))
    have TGF := Vd (fun (T : TypeId) (b : Nat) (t : Typ V b T) => (show b < V.heap.size by obtain ⟨_, _, t⟩ := t; exact qE t))
    have H3 := Vd (H2.out.below B12)
    have K3 := Vd (K2.out.below B12)
    have C3 := Vd (C2.out.below B12)
    have KB := Vd KP1
    have HP1 := Vd hP1
    have VP := Vd B12.size
    clear a1 a2 a3 a4 a5 a6 LT fa b2 la gfV hP1 p1 KP1 B12 K2 C2
    go_upto_region 5 with fail
    rw [<- HP1.out]
    clear HP1
    have bp : P1.cell? ⟨q.p, 0, none⟩ = some (.pointer (some ⟨q.pp, 0, none⟩)) := by rw [<- HQ1.out.1, <- HQ1.out.2.1]; exact H3.out.bx.blk.c 0 _ rfl
    have s0 := (KB.out).blk.c 0 _ rfl
    have s1 := (KB.out).blk.c 1 _ rfl
    have s2 := (KB.out).blk.c 2 _ rfl
    have s3 := (KB.out).blk.c 3 _ rfl
    have s4 := (KB.out).blk.c 4 _ rfl
    have s5 := (KB.out).blk.c 5 _ rfl
    have FPH := Vd (fun (V' : World) (hb : Below P1.heap.size P1 V') => KX (H3.out.below hb) (EN.out V' (BE.out V' (C3.out.below hb))) (by rw [HQ1.out.2.1]; exact NBE.out) t.s (some ⟨gf, 0, none⟩) cf ⟨by have := HLA.out; omega, (fun z => by cases z), by omega, fun x hx => ⟨by have := (HOK.out x hx).sz; omega, (HOK.out x hx).w0, (HOK.out x hx).w1⟩, Kp (Jm (jG HFA.out hb))⟩ ht)
    simp only [HQ1.out.2.1] at FPH
    simp only [scrV] at FPH
    go_cut [7, 8] from 31 to 39 (fun s7 s8 wx => ∃ A1 c1, s7 = .slice A1 (outX q1.xp t.s).size c1 /\ s8 = .int .i64 (redE t.s) /\ Hid (FpB LO q1 t.s P1 A1 c1 wx))
    case first =>
      go_region_with ((go_at_call 27; refine (FPH.out _ (by first | exact (Below.refl _ P1).drew | exact Below.refl _ P1)).mono ?_; rintro e W6 ⟨A1, c1, LA1, Lc1, rfl, o1, sz1, h6, g6, loc6⟩; have HH := Vd (show FpB LO q1 t.s P1 A1 c1 W6 from ⟨_, LA1, Lc1, (by first | exact (Below.refl _ P1).drew | exact Below.refl _ P1), o1, sz1, h6, g6, loc6⟩); clear o1 sz1 h6 g6 loc6))
      all_goals
        go_wp2_with fail
        go_meet
        exact ⟨A1, c1, rfl, rfl, HH⟩
    case rest =>
     obtain ⟨A1, c1, rfl, rfl, hfp⟩ := hcut
     obtain ⟨W6, hW6⟩ : ∃ W6, W6 = wc := ⟨_, rfl⟩
     rw [<- hW6] at hfp ⊢
     obtain ⟨W5, LA1, Lc1, hb5, o1, sz1, h6, g6, loc6⟩ := hfp.out
     have H4 := Vd (H3.out.below hb5)
     have C4 := Vd (C3.out.below hb5)
     have K4 := Vd (K3.out.below hb5)
     have HFA4 := Vd (jG HFA.out hb5)
     have HG4 := Vd (Nat.lt_of_lt_of_le HGF.out.2 hb5.size)
     clear bp s0 s1 s2 s3 s4 s5 hb5 H3 C3 K3 KB HFA FPH hfp hW6
     have TP := H4.out.wr.own.typ
     rw [HQ1.out.2.1] at TP
     have g6 : W5.grownBy W6 (some q.pp) := by rw [<- HQ1.out.2.1]; exact g6
     have HFA6 := Vd (kQ HFA4.out g6 TP (by decide))
     have K6 := Vd (K4.out.typed g6 TP (by decide))
     have C6 := Vd (C4.out.grown g6 (fun b e => by cases e; exact Or.inl (Or.inr (Or.inl rfl))))
     obtain ⟨OX, hOX⟩ : ∃ OX, OX = outX q1.xp t.s := ⟨_, rfl⟩
     have HOX := Vd hOX
     rw [<- hOX] at o1 sz1
     have HO1 := Vd o1
     have HSZ := Vd sz1
     have GF6 := Vd (Nat.lt_of_lt_of_le HG4.out g6.size)
     have V6 : V.heap.size <= W5.heap.size := by have := HGF.out.1; have := HG4.out; omega
     have HV6 := Vd V6
     have L6 : Hid ((zX q1.xp t.s).told = true -> ∀ a, LA1 = some a -> a.block ≠ gf) := Vd (fun z a ea => by
       rcases loc6 z a ea with l | ⟨l1, l2⟩
       · have := HG4.out; omega
       · have := TGF.out _ _ (H2.out.la l1 a l2)
         have := HGF.out.1
         omega)
     obtain ⟨q2, hq2⟩ : ∃ q2, q2 = { q1 with xp := zX q1.xp t.s, LA := LA1, Lc := Lc1 } := ⟨_, rfl⟩
     rw [<- hq2] at h6
     have HQ2 : Hid (q2.p = q.p /\ q2.pp = q.pp /\ q2.rb = q.rb /\ q2.R = q.R /\ q2.ws = q.ws /\ q2.xp = zX q1.xp t.s /\ (∀ g, q2.O g ↔ q.O g) /\ q2.tv = q.tv /\ q2.wv = q.wv /\ q2.xr = q1.xp /\ q2.LA = LA1 /\ q2.RA = q1.RA) := Vd (by
       obtain ⟨e1, e2, e3, e4, e5, e6, e7, e8, e9⟩ := HQ1.out
       rw [hq2]
       exact ⟨e1, e2, e3, e4, e5, rfl, e7, e8, e9, e6.symm, rfl, rfl⟩)
     clear hq2
     have H6 := Vd h6
     have bp1 : W6.cell? ⟨q.p, 1, none⟩ = some (.pointer (some ⟨q.rb, 0, none⟩)) := by
       have := H6.out.bx.blk.c 1 _ rfl
       simp only [HQ2.out.1, HQ2.out.2.2.1] at this
       exact this
     have a1 := K6.out.blk.c 1 _ rfl
     have a2 := K6.out.blk.c 2 _ rfl
     have a3 := K6.out.blk.c 3 _ rfl
     have a4 := K6.out.blk.c 4 _ rfl
     have a5 := K6.out.blk.c 5 _ rfl
     have a6 := K6.out.blk.c 6 _ rfl
     rw [<- hOX]
     have FRH := Vd (fun (V' : World) (hb : Below W6.heap.size W6 V') => KZ (H6.out.below hb) t.s t.A t.c ((HS.out.below (BE.out V' (C6.out.below hb))).more (Nat.le_trans HLW.out (C6.out.below hb).size)) HOK.out ht)
     simp only [HQ2.out.2.2.1] at FRH
     simp only [scrV] at FRH
     have OXR : outX q2.xr t.s = OX := by rw [HQ2.out.2.2.2.2.2.2.2.2.2.1, HOX.out]
     have FRX : Hid (∀ (V' : World), Below W6.heap.size W6 V' -> Calls Tryz.prog 34 #[.pointer (some ⟨q.rb, 0, none⟩), .agg #[.int .i64 t.s.w, .int .i64 t.s.h, .slice t.A t.s.cells.length t.c, .int .i64 t.s.x, .int .i64 t.s.y, .bool t.s.shown]] V' fun e w' => e = .returned (.tuple #[.string OX, .int .i64 (redE t.s)]) /\ Hid (FrB LO q2 t.s W6 w')) := Vd (fun V' hb => (FRH.out V' hb).mono (by
       rintro e W8 ⟨RA1, Rc1, rfl, h8, g8, loc8⟩
       exact ⟨by rw [OXR], Vd ⟨V', RA1, Rc1, hb, h8, g8, loc8⟩⟩))
     clear o1 sz1 h6 g6 loc6 TP hOX V6 H4 C4 K4 HFA4 FRH OXR
     go_upto_region 6 with fail
     go_cut [9, 10] from 40 to 49 (fun s9 s10 wx => s9 = .string OX /\ s10 = .int .i64 (redE t.s) /\ Hid (FrB LO q2 t.s W6 wx))
     case first =>
       go_region_with ((go_at_call 34; refine (FRX.out _ (by first | exact (Below.refl _ W6).drew | exact Below.refl _ W6)).mono ?_; rintro e W8 ⟨rfl, HH⟩))
       all_goals
         go_wp2_with fail
         go_meet
         exact ⟨rfl, rfl, HH⟩
     case rest =>
      obtain ⟨rfl, rfl, hfr⟩ := hcut
      obtain ⟨W8, hW8⟩ : ∃ W8, W8 = wc := ⟨_, rfl⟩
      rw [<- hW8] at hfr ⊢
      obtain ⟨W7, RA1, Rc1, hb7, h8, g8, loc8⟩ := hfr.out
      have H7 := Vd (H6.out.below hb7)
      have C7 := Vd (C6.out.below hb7)
      have K7 := Vd (K6.out.below hb7)
      have HFA7 := Vd (jG HFA6.out hb7)
      have HO7 := Vd (qg HO1.out hb7)
      have GF7 := Vd (Nat.lt_of_lt_of_le GF6.out hb7.size)
      clear bp1 a1 a2 a3 a4 a5 a6 hb7 H6 C6 K6 HFA6 HO1 FRX hfr hW8
      have g8 : W7.grownBy W8 (some q.rb) := by rw [<- HQ2.out.2.2.1]; exact g8
      have TR := H7.out.rf.own.typ
      rw [HQ2.out.2.2.1] at TR
      obtain ⟨q3, hq3⟩ : ∃ q3, q3 = { q2 with xr := zX q2.xr t.s, RA := RA1, Rc := Rc1 } := ⟨_, rfl⟩
      rw [<- hq3] at h8
      have HQ3 : Hid (q3.p = q.p /\ q3.pp = q.pp /\ q3.rb = q.rb /\ q3.R = q.R /\ q3.ws = q.ws /\ q3.xp = q3.xr /\ (∀ g, q3.O g ↔ q.O g) /\ q3.tv = q.tv /\ q3.wv = q.wv /\ q3.LA = LA1 /\ q3.RA = RA1 /\ q3.xp = zX q1.xp t.s) := Vd (by
        obtain ⟨e1, e2, e3, e4, e5, e6, e7, e8, e9, e10, e11, e12⟩ := HQ2.out
        rw [hq3]
        exact ⟨e1, e2, e3, e4, e5, by show q2.xp = zX q2.xr t.s; rw [e6, e10], e7, e8, e9, e11, rfl, e6⟩)
      have L8 : Hid (q3.xr.told = true -> ∀ a, q3.RA = some a -> q3.xr.last.cells ≠ [] -> a.block ≠ gf) := Vd (by
        rw [hq3]
        intro z a ea ne
        rcases loc8 z a ea with l | ⟨l1, l2, l3⟩
        · have := GF7.out; omega
        · have l2 : q1.RA = some a := by rw [<- HQ2.out.2.2.2.2.2.2.2.2.2.2.2]; exact l2
          have x1 : q1.xr = q2.xr := by rw [HQ2.out.2.2.2.2.2.2.2.2.2.1]; exact HQ1.out.2.2.2.2.2.1.symm
          have ne : q1.xr.last.cells ≠ [] := by rw [x1, <- l3]; exact ne
          have l1 : q1.xr.told = true := by rw [x1]; exact l1
          have tr := (H2.out.rf.last l1).2 ne
          rw [l2] at tr
          have := TGF.out _ _ tr.typ
          have := HGF.out.1
          omega)
      have L6 : Hid (q3.xp.told = true -> ∀ a, q3.LA = some a -> a.block ≠ gf) := Vd (by
        rw [HQ3.out.2.2.2.2.2.2.2.2.2.2.2, HQ3.out.2.2.2.2.2.2.2.2.2.1]
        exact L6.out)
      have H8 := Vd h8
      have HFA8 := Vd (kQ HFA7.out g8 TR (by decide))
      have K8 := Vd (K7.out.typed g8 TR (by decide))
      have HO8 := Vd (kQ HO7.out g8 TR (by decide))
      have C8 := Vd (C7.out.grown g8 (fun b e => by cases e; exact Or.inl (Or.inr (Or.inr (Or.inl rfl)))))
      have B8 := BE.out W8 C8.out
      have IA := Kb t.s gf cf t.c t.A (by omega) HLA.out W8 (Jm HFA8.out) ((HS.out.sees.below B8 Vf).more (Nat.le_trans HLW.out C8.out.size))
      simp only [scrV] at IA
      have IA := Vd IA
      have k8 := K8.out
      have a1 := k8.blk.c 1 _ rfl
      have a2 := k8.blk.c 2 _ rfl
      have a3 := k8.blk.c 3 _ rfl
      have a4 := k8.blk.c 4 _ rfl
      have a5 := k8.blk.c 5 _ rfl
      have a6 := k8.blk.c 6 _ rfl
      clear h8 g8 loc8 TR hq3 B8 k8 H7 C7 K7 HFA7 HO7 HQ2
      go_wp2_with fail
      refine IA.out.mono ?_; rintro e W9 ⟨rfl, b9⟩
      have H9 := Vd (H8.out.below b9)
      have C9 := Vd (C8.out.below b9)
      have F9 := jG HFA8.out b9
      have O9 := Vd (qg HO8.out b9)
      have TG := Vd (zQ F9 (b := gf) rfl)
      obtain ⟨N2, hN2⟩ : ∃ N2, N2 = t.s.cells.length + 2 := ⟨_, rfl⟩
      rw [<- hN2] at F9 ⊢
      have F9 := Vd F9
      have n2 : N2 <= 200000000 := by omega
      clear IA b9 a1 a2 a3 a4 a5 a6 H8 C8 K8 HFA8 HO8 hN2
      go_wp2_with fail
      go_loopw [12] (fun s12 wr => ∃ (k : Nat) (xs : List Value), k <= N2 /\ s12 = .int .i64 (k : Int) /\ Hid (wr.ownsRow V.heap.size 58 5 (.slice (some ⟨gf, 0, none⟩) N2 cf) N2 xs) /\ Hid (W9.grownBy wr (some gf))) (fun s12 _ => N2 - (intOf s12).toNat)
      case atStart => exact ⟨0, _, Nat.zero_le _, rfl, F9, Vd ⟨rfl, rfl, rfl, Vf, fun _ _ _ => rfl⟩⟩
      case round =>
        obtain ⟨k, xs, hk, rfl, ho, hg⟩ := hrel
        by_cases lt : k < N2
        · obtain ⟨⟨u0, x0⟩, ⟨u1, x1'⟩, ⟨u2, x2⟩, ⟨u3, x3⟩, ⟨u4, x4⟩, ⟨xs', o'⟩, gr⟩ := put_gone ho.out lt (.string ⟨#[103, 111, 110, 101]⟩) (.int .i8 0) (.int .i32 0) (.int .i32 0) (.int .u8 0)
          have p0 := ho.out.frozenAt (k * 5)
          have p1 := ho.out.frozenAt (k * 5 + 1)
          have p2 := ho.out.frozenAt (k * 5 + 2)
          have p3 := ho.out.frozenAt (k * 5 + 3)
          have p4 := ho.out.frozenAt (k * 5 + 4)
          have OO := Vd o'
          have GG := Vd (qn hg.out gr)
          have q0 : (0 : Int) <= (k : Int) := by omega
          have q5 : (k : Int) < (N2 : Int) := by omega
          have tn : (k : Int).toNat = k := by omega
          have wk := Ve ((k : Int) + 1) (by omega)
          clear o' gr ho hg
          go_wp2_with fail
          go_roundw
          case rel => exact ⟨k + 1, xs', by omega, by go_num, OO, GG⟩
          case measure => simp [intOf]; omega
        · have e : k = N2 := by omega
          subst e
          have q5 : ¬ (k : Int) < (k : Int) := by omega
          have h10 : PrS LO q3 wr := H9.out.grown hg.out (fun b e => by
            cases e
            refine ⟨fun o => ?_, L6.out, L8.out⟩
            obtain ⟨T, t1, t2⟩ := H9.out.typ o
            exact t1.ne TG.out t2 rfl)
          have c10 : Ch q.O w wr := C9.out.grown hg.out (fun b e => by cases e; exact Or.inr (by have := HGF.out.1; have := C3V.out; omega))
          have o10 := kQ O9.out hg.out TG.out (by decide)
          have hN := HNN.out
          have td := h10.told
          have RL : q3.R.length = q.R.length := by rw [HQ3.out.2.2.2.1]
          have WL : q3.ws.length = q.R.length := by rw [HQ3.out.2.2.2.2.1, HEW.out, List.length_map]
          have LW3 : LO <= wr.heap.size := Nat.le_trans HLW.out c10.size
          obtain ⟨A2, c2, w3, R1, o3, g3, d3⟩ := Jv (LO := LO) (A := q3.TA) (c := q3.Tc) td (.slice A1 OX.size c1) rfl LW3 (by rw [RL]; omega)
          have bu := ((Below.refl wr.heap.size wr).alloc Vf (.cells #[.slice A1 OX.size c1] 66))
          have ob : LO <= W5.heap.size := by have := HLW.out; have := C3V.out; have := HV6.out; omega
          have ap : ∀ x, x ∈ q3.R -> ∀ g, x.1.v.ownBlock = some g -> (⟨A1, OX.size, c1⟩ : Rv).v.ownBlock ≠ some g := fun x hx g e e2 => by
            rw [HQ3.out.2.2.2.1] at hx
            have l1 := HO.out g (Or.inr (Or.inr (Or.inr (Or.inr (Or.inr ⟨x, hx, e⟩)))))
            have l2 := o10.lt g e2
            have := C3V.out
            have := HV6.out
            omega
          have h11 : PrS LO { q3 with R := q3.R ++ [((⟨A1, OX.size, c1⟩ : Rv), OX)], TA := A2, Tc := c2 } (w3.setCell ⟨q.p, 2, none⟩ (.slice A2 (q.R.length + 1) c2)) := by rw [<- HQ3.out.1, <- RL]; exact h10.setT bu g3 (A' := A2) (c' := c2) (r := ⟨A1, OX.size, c1⟩) (s := OX) o3 (je o10 ob) rfl HSZ.out ap
          have bx3 : Own1 w3 q3.p [.pointer (some ⟨q3.pp, 0, none⟩), .pointer (some ⟨q3.rb, 0, none⟩), q3.tv, q3.wv] 78 := (h10.bx.below bu).of_grown g3 (fun e => h10.bx.typ.ne (zQ h10.told e.symm) (by decide) rfl)
          have c11 : Ch q.O w (w3.setCell ⟨q3.p, 2, none⟩ (.slice A2 (q3.R.length + 1) c2)) := ((c10.below bu).grown g3 (fun b e => Or.inl ((HQ3.out.2.2.2.2.2.2.1 b).1 (Or.inr (Or.inr (Or.inr (Or.inl e))))))).set q3.p 2 _ ((HQ3.out.2.2.2.2.2.2.1 _).1 (Or.inl rfl))
          have t2 : wr.cell? ⟨q.p, 2, none⟩ = some (.slice q3.TA q3.R.length q3.Tc) := by rw [<- HQ3.out.1]; exact h10.bx.blk.c 2 _ rfl
          have s2 : w3.cell? ⟨q.p, 2, none⟩ = some (.slice q3.TA q3.R.length q3.Tc) := by rw [<- HQ3.out.1]; exact bx3.blk.c 2 _ rfl
          have f2 : w3.frozen? ⟨q.p, 2, none⟩ = false := by rw [<- HQ3.out.1]; exact bx3.blk.f 2 _ rfl
          rw [HQ3.out.1, RL] at c11
          rw [RL] at R1 t2 s2
          have H11 := Vd h11
          have C11 := Vd c11
          have D3 := Vd d3
          have S10 := Vd c10.size
          have HRL := Vd RL
          have HWL := Vd WL
          have OB := Vd (Nat.le_trans (Nat.le_trans C3V.out HV6.out) Vf)
          have NB := Vd (fun g (e : (⟨A1, OX.size, c1⟩ : Rv).v.ownBlock = some g) => (o10.lt g e).1)
          clear h10 c10 o10 td LW3 o3 g3 d3 bu ob ap h11 c11 bx3 ho hg F9 H9 C9 O9 RL WL hN L6 L8
          go_upto_region 13 with (first | (at_builtin; refine jr rfl (.tmp 68) (.tmp 70) 75 75 rfl _ _ _ _ rfl rfl R1 ?_) | fail)
          obtain ⟨W11, hW11⟩ : ∃ W11, W11 = w3.setCell ⟨q.p, 2, none⟩ (.slice A2 (q.R.length + 1) c2) := ⟨_, rfl⟩
          rw [<- hW11] at H11 C11 ⊢
          obtain ⟨q4, hq4⟩ : ∃ q4, q4 = { q3 with R := q3.R ++ [((⟨A1, OX.size, c1⟩ : Rv), OX)], TA := A2, Tc := c2 } := ⟨_, rfl⟩
          have H11 : Hid (PrS LO q4 W11) := Vd (by rw [hq4]; exact H11.out)
          have Q4 : q4.p = q.p /\ q4.pp = q.pp /\ q4.rb = q.rb /\ q4.R = q.R ++ [((⟨A1, OX.size, c1⟩ : Rv), OX)] /\ q4.ws = q.ws /\ q4.xp = q4.xr /\ q4.wv = q.wv /\ q4.tv = .slice A2 (q.R.length + 1) c2 := by
            obtain ⟨e1, e2, e3, e4, e5, e6, e7, e8, e9, _⟩ := HQ3.out
            rw [hq4]
            refine ⟨e1, e2, e3, by rw [<- e4], e5, e6, e9, ?_⟩
            show Value.slice A2 (q3.R ++ [((⟨A1, OX.size, c1⟩ : Rv), OX)]).length c2 = _
            rw [List.length_append, List.length_singleton, e4]
          have HQ4 := Vd Q4
          have WL4 : q4.ws.length = q.R.length := by rw [Q4.2.2.2.2.1, HEW.out, List.length_map]
          have wt := H11.out.want
          have hN := HNN.out
          have LW4 : LO <= W11.heap.size := Nat.le_trans HLW.out C11.out.size
          obtain ⟨A5, c5, w5, R5, o5, g5, d5⟩ := app_want (LO := LO) (A := q4.WA) (c := q4.Wc) wt (.string OX) rfl LW4 (by rw [WL4]; omega)
          have bu := ((Below.refl W11.heap.size W11).alloc Vf (.cells #[.string OX] 9))
          have h12 : PrS LO { q4 with ws := q4.ws ++ [OX], WA := A5, Wc := c5 } (w5.setCell ⟨q.p, 3, none⟩ (.slice A5 (q.R.length + 1) c5)) := by rw [<- Q4.1, <- WL4]; exact H11.out.setW bu g5 (A' := A5) (c' := c5) (s := OX) o5
          have bx5 : Own1 w5 q4.p [.pointer (some ⟨q4.pp, 0, none⟩), .pointer (some ⟨q4.rb, 0, none⟩), q4.tv, q4.wv] 78 := (H11.out.bx.below bu).of_grown g5 (fun e => H11.out.bx.typ.ne (zQ H11.out.want e.symm) (by decide) rfl)
          have c12 : Ch q.O w (w5.setCell ⟨q4.p, 3, none⟩ (.slice A5 (q4.ws.length + 1) c5)) := ((C11.out.below bu).grown g5 (fun b e => Or.inl (by
            have e : q4.wv.ownBlock = some b := e
            rw [Q4.2.2.2.2.2.2.1] at e
            exact Or.inr (Or.inr (Or.inr (Or.inr (Or.inl e))))))).set q4.p 3 _ (Or.inl Q4.1)
          have t3 : W11.cell? ⟨q.p, 3, none⟩ = some (.slice q4.WA q4.ws.length q4.Wc) := by rw [<- Q4.1]; exact H11.out.bx.blk.c 3 _ rfl
          have s3 : w5.cell? ⟨q.p, 3, none⟩ = some (.slice q4.WA q4.ws.length q4.Wc) := by rw [<- Q4.1]; exact bx5.blk.c 3 _ rfl
          have f3 : w5.frozen? ⟨q.p, 3, none⟩ = false := by rw [<- Q4.1]; exact bx5.blk.f 3 _ rfl
          rw [Q4.1, WL4] at c12
          rw [WL4] at R5 t3 s3
          obtain ⟨W12, hW12⟩ : ∃ W12, W12 = w5.setCell ⟨q.p, 3, none⟩ (.slice A5 (q.R.length + 1) c5) := ⟨_, rfl⟩
          rw [<- hW12] at h12 c12
          have rw12 := (h12.rows ((⟨A1, OX.size, c1⟩ : Rv), OX) (by
            show _ ∈ q4.R
            rw [Q4.2.2.2.1]
            exact List.mem_append_right _ (List.mem_singleton.2 rfl))).1
          have cv : (convert 66 9 (.slice A1 OX.size c1)).run Tryz.prog W12 = .ok (.string OX) W12 := vU rw12
          have eqs : (OX.toList == OX.toList) = true := str_eqq OX
          have ee : decide (redE t.s = redE t.s) = true := by simp
          have FIN : Hid (ActR LO q w (.returned (.bool true)) W12) := Vd (by
            refine ⟨_, rfl, h12, Q4.1, Q4.2.2.2.2.2.1, ?_, ?_, c12, fun g o => ?_⟩
            · show q4.ws ++ [OX] = q4.R.map (·.2)
              rw [Q4.2.2.2.2.1, Q4.2.2.2.1, HEW.out, List.map_append]
              rfl
            · show q4.R.length = _
              rw [Q4.2.2.2.1, List.length_append, List.length_singleton]
            · have CS := C3V.out
              have V6 := HV6.out
              have S11 := C11.out.size
              rcases o with o | o | o | o | o | ⟨x, hx, o⟩
              · exact Or.inl (Or.inl (o.trans Q4.1))
              · exact Or.inl (Or.inr (Or.inl (o.trans Q4.2.1)))
              · exact Or.inl (Or.inr (Or.inr (Or.inl (o.trans Q4.2.2.1))))
              · have o : q4.tv.ownBlock = some g := o
                rw [Q4.2.2.2.2.2.2.2] at o
                have D := D3.out
                rw [HRL.out] at D
                rcases D with z | z
                · rw [z] at o
                  have o : q3.tv.ownBlock = some g := by unfold Pr.tv; rw [HRL.out]; exact o
                  rw [HQ3.out.2.2.2.2.2.2.2.1] at o
                  exact Or.inl (Or.inr (Or.inr (Or.inr (Or.inl o))))
                · rw [z] at o
                  injection o with o
                  have := S10.out
                  exact Or.inr (by omega)
              · have o : (Value.slice A5 (q4.ws ++ [OX]).length c5).ownBlock = some g := o
                rw [List.length_append, List.length_singleton, WL4] at o
                rw [WL4] at d5
                rcases d5 with z | z
                · rw [z] at o
                  have o : q4.wv.ownBlock = some g := by unfold Pr.wv; rw [WL4]; exact o
                  rw [Q4.2.2.2.2.2.2.1] at o
                  exact Or.inl (Or.inr (Or.inr (Or.inr (Or.inr (Or.inl o)))))
                · rw [z] at o
                  injection o with o
                  exact Or.inr (by omega)
              · have hx : x ∈ q4.R := hx
                rw [Q4.2.2.2.1] at hx
                rcases List.mem_append.1 hx with hx | hx
                · exact Or.inl (Or.inr (Or.inr (Or.inr (Or.inr (Or.inr ⟨x, hx, o⟩)))))
                · rw [List.mem_singleton] at hx
                  subst hx
                  have := NB.out g o
                  exact Or.inr (by omega))
          have HW12 := Vd hW12
          clear hW11 hq4 Q4 WL4 wt hN LW4 o5 g5 d5 bu h12 bx5 c12 hW12 rw12 R1 t2 s2 f2
          go_upto_region 14 with (first | (at_builtin; refine jr rfl (.tmp 78) (.tmp 80) 76 76 rfl _ _ _ _ rfl rfl R5 ?_) | fail)
          rw [<- HW12.out]
          clear R5 t3 s3 f3
          go_wp2_with fail
          go_ret
          exact FIN.out
end
end
end Go.Proofs.YtifoijbpbigaaaaGreatDoor
