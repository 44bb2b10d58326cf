/- A tape is played: New. -/
import Derived.Test.YtmaofighbpnbiaaGreatDoorYTqG
namespace Go.Proofs.YtmaofighbpnbiaaGreatDoor
open Go Go.RowKit Go.Sort
set_option linter.unusedVariables false
set_option linter.unusedSimpArgs false
section
theorem infoTp : (Tryz.prog.info? 43).map (fun i => (i.zero, i.size, i.bytes)) = some (some (.pointer none), 1, 8) := by kernel_rfl
def NewR (W : World) (w h : Int) (l : List Frm) (every : Int) (e : Ending) (w' : World) : Prop := ∃ v, e = .returned (.tuple #[v, .int .i64 (newC w h l every)]) ∧ Below W.heap.size W w' ∧ (newC w h l every ≠ 0 → v = .pointer none) ∧
 (newC w h l every = 0 → ∃ W3 pb ev, v = .pointer (some ⟨pb, 0, none⟩) ∧ PlayAt W3 pb w h l ev w' ∧ Below W.heap.size W W3)
theorem newR_no {W w' : World} {w h : Int} {l : List Frm} {every k : Int} (e : newC w h l every = k) (ne : k ≠ 0) (hb : Below W.heap.size W w') : NewR W w h l every (.returned (.tuple #[.pointer none, .int .i64 k])) w' := ⟨_, by rw [e], hb, fun _ => rfl, fun z => absurd (e.symm.trans z) ne⟩
theorem own_frsE {w : World} {lo n c : Nat} {A : Option Addr} {L : List FA} (h : w.ownsRow lo 47 2 (.slice A n c) L.length (L.flatMap frV)) (hl : L.length ≤ 1000000) (ok : ∀ x ∈ L, FrD w w.heap.size x) : FrsD w w.heap.size A c L := by
 refine ⟨fun e => ?_, ?_, by omega, fun ne => ?_, ok⟩
 ·rcases h.2 with ⟨z, _⟩ | ⟨g, cap, cur, z, _⟩
  ·cases z; rfl
  ·cases z; cases e
 ·rcases h.2 with ⟨z, y⟩ | ⟨g, cap, cur, z, _, _, y, _⟩
  ·omega
  ·cases z; exact y
 ·rcases h.2 with ⟨z, y⟩ | ⟨g, cap, cur, z, _, e, y, _⟩
  ·exact absurd (List.eq_nil_of_length_eq_zero (by rw [h.1, y])) ne
  ·cases z
   refine ⟨_, rfl, (Array.getElem?_eq_some_iff.1 e).1, fun j u hj => h.cells (g := g) rfl j u hj⟩
theorem cop_frsD {LO : Nat} {W w : World} {g : Nat} {A : Option Addr} {n c : Nat} {L : List FA} {v : Value} (h : CopAt LO W g (flatB L).length [] 0 L v w) (e : v = .slice A n c) (hl : L.length ≤ 1000000) (tot : (flatB L).length ≤ 140737488355328) (ok : ∀ x ∈ L, Byt x.b.bs ∧ 0 ≤ x.at_ ∧ x.at_ ≤ 1099511627776) :
  n = (cpF g 0 0 L).length ∧ FrsD w w.heap.size A c (cpF g 0 0 L) := by
 have o := h.own
 rw [List.nil_append, e] at o
 have e2 := own_len o rfl
 cases e2
 exact ⟨rfl, own_frsE o (by rw [cpF_len]; omega) (cpF_ok h.row 0 tot L 0 [] (by simp) (fun x m => ⟨(ok x m).1, by have := ok x m; omega, by have := ok x m; omega⟩))⟩
theorem FrsD.arg {W : World} {A : Option Addr} {c : Nat} {L : List FA} (h : FrsD W W.heap.size A c L) (k : Nat) (hk : k < L.length) : ArgB W (L[k]).b.A (L[k]).b.c (L[k]).b.bs := by
 have b := (h.ok _ (List.getElem_mem hk)).b
 exact ⟨b.cap, b.rng, b.sees⟩
theorem frms_get (L : List FA) (k : Nat) (hk : k < L.length) : (frms L)[k]'(by rw [frms_len]; exact hk) = ⟨(L[k]).at_, (L[k]).b.bs⟩ := by unfold frms; rw [List.getElem_map]; rfl
theorem frms_flat (L : List FA) : (frms L).flatMap (·.bs) = flatB L := by
 unfold frms flatB
 rw [List.flatMap_map]
 rfl
set_option maxHeartbeats 16000000 in
set_option maxRecDepth 100000 in
theorem t_PNew (w h : Int) (A : Option Addr) (c : Nat) (L : List FA) (every : Int) (B : Nat) (W : World) (E : EnvV W) (D : FrsD W B A c L) (hB : B ≤ W.heap.size) (tot : (flatB L).length ≤ 268435456) (he : -9223372036854775808 ≤ every ∧ every ≤ 9223372036854775807) :
    Calls Tryz.prog 25 #[.agg #[.int .i64 w, .int .i64 h], .slice A L.length c, .int .i64 every] W (NewR W w h (frms L) every) := by
  obtain ⟨i0, hi0, hz0, hz1, hz2⟩ := info_parts infoTp
  obtain ⟨Q, hQ⟩ : ∃ Q, Q = W.alloc (.cells #[.int .i64 w, .int .i64 h] 23) := ⟨_, rfl⟩
  have BQ := Lib.hid (show Below W.heap.size W Q by rw [hQ]; exact (Below.refl _ W).alloc (Nat.le_refl _) _)
  have K : Bk Q W.heap.size [.int .i64 w, .int .i64 h] 23 := by rw [hQ]; exact Bk.new W _ _
  have k0 := K.c 0 _ rfl
  have k1 := K.c 1 _ rfl
  have KQ := Lib.hid K
  have HQ := Lib.hid hQ
  have S1 := Lib.hid (t_sized w h Q)
  have CK := Lib.hid (fun (w1 : World) (hb : Below Q.heap.size Q w1) => t_check A c L B w1 (D.below (BQ.out.trans (hb.mono BQ.out.size)) hB) (Nat.le_trans hB (Nat.le_trans BQ.out.size hb.size)))
  have HD := Lib.hid D
  have HE := Lib.hid E
  have HBB := Lib.hid hB
  have HT := Lib.hid tot
  obtain ⟨l, hl⟩ : ∃ l, l = frms L := ⟨_, rfl⟩
  rw [← hl] at CK
  rw [← hl]
  have HL := Lib.hid hl
  clear K hQ hl D E hB tot
  go_enter Tryz.func25, Tryz.ntmps25
  go_upto_region 1 with fail
  rw [← HQ.out]
  clear HQ
  go_wp2_with fail
  refine S1.out.mono ?_; rintro e w1 ⟨rfl, hb1⟩
  have B1 := Lib.hid hb1
  clear S1 hb1
  obtain ⟨sz, hsz⟩ : ∃ sz, sz = sizedB w h := ⟨_, rfl⟩
  rw [← hsz]
  have HSZ := Lib.hid hsz
  clear hsz
  cases sz with
  | false =>
    have EN := Lib.hid (newR_no (W := W) (l := l) (show newC w h l every = 5 by unfold newC; rw [if_pos HSZ.out.symm]) (by decide) (BQ.out.trans (B1.out.mono BQ.out.size)))
    clear CK
    go_wp2_with fail
    go_ret2
    exact EN.out
  | true =>
    have C1 := Lib.hid (CK.out w1 B1.out)
    clear CK
    obtain ⟨ck, hck⟩ : ∃ ck, ck = checkT l := ⟨_, rfl⟩
    rw [← hck] at C1
    have HCK := Lib.hid hck
    clear hck
    go_wp2_with fail
    refine C1.out.mono ?_; rintro e w2 ⟨rfl, hb2⟩
    have B2 := Lib.hid (B1.out.trans (hb2.mono B1.out.size))
    clear C1 B1 hb2
    by_cases c0 : ck = 0
    case neg =>
      have c0' : (ck == 0) = false := by simpa using c0
      have EN := Lib.hid (newR_no (W := W) (l := l) (show newC w h l every = ck by unfold newC; rw [if_neg (by rw [← HSZ.out]; decide), ← HCK.out, if_pos c0]) c0 (BQ.out.trans (B2.out.mono BQ.out.size)))
      go_wp2_with fail
      go_ret2
      exact EN.out
    subst c0
    by_cases e1 : every < 1
    case pos =>
      have EN := Lib.hid (newR_no (W := W) (l := l) (show newC w h l every = 2 by unfold newC; rw [if_neg (by rw [← HSZ.out]; decide), ← HCK.out, if_neg (by decide), if_pos e1]) (by decide) (BQ.out.trans (B2.out.mono BQ.out.size)))
      go_wp2_with fail
      go_ret2
      exact EN.out
    have NC := Lib.hid (show newC w h l every = 0 by unfold newC; rw [if_neg (by rw [← HSZ.out]; decide), ← HCK.out, if_neg (by decide), if_neg e1])
    obtain ⟨p1, p2, p3⟩ := check_parts HCK.out.symm
    have OKL : ∀ x ∈ L, x.b.bs.length ≤ 1048576 ∧ 0 ≤ x.at_ ∧ x.at_ ≤ 1099511627776 := fun x m => by
      obtain ⟨j, hj, rfl⟩ := List.mem_iff_getElem.1 m
      have hj2 : j < (frms L).length := by rw [frms_len]; exact hj
      rw [HL.out] at p1 p3
      have a := long_each p1 _ (List.getElem_mem hj2)
      have b := timed_mono _ 0 p3 j j hj2 (Nat.le_refl _)
      rw [frms_get L j hj] at a b
      exact ⟨a, b.2⟩
    have ln : L.length ≤ 16384 := by rw [HL.out, frms_len] at p2; exact p2
    have D2 := HD.out.below (BQ.out.trans (B2.out.mono BQ.out.size)) HBB.out
    have CP := Lib.hid (t_copied w2.heap.size (.slice none 0 0) [] A c L B 0 w2 ⟨rfl, Or.inl ⟨rfl, rfl⟩⟩ (Nat.le_refl _) D2 (Nat.le_trans HBB.out (Nat.le_trans BQ.out.size B2.out.size)) ln (fun x m => (OKL x m).1) (fun x m => (OKL x m).2) ⟨by decide, by decide⟩ (by decide))
    have OKH := Lib.hid OKL
    have HLN := Lib.hid ln
    obtain ⟨ev, hev⟩ : ∃ ev : Nat, (ev : Int) = min every 16385 := ⟨(min every 16385).toNat, by omega⟩
    clear OKL D2 p1 p2 p3 ln
    go_wp2_with fail
    refine CP.out.mono ?_; rintro e w3 ⟨v3, g3, rfl, C3⟩
    obtain ⟨Af, cf, e3⟩ := own_slcF C3.own
    obtain ⟨e4, FD⟩ := cop_frsD C3 e3 (by have := HLN.out; omega) (by have := HT.out; omega) (fun x m => by
      obtain ⟨j, hj, rfl⟩ := List.mem_iff_getElem.1 m
      exact ⟨(HD.out.ok _ (List.getElem_mem hj)).b.rng, (OKH.out _ m).2⟩)
    rw [e4] at e3
    obtain ⟨M, hM⟩ : ∃ M, M = cpF g3 0 0 L := ⟨_, rfl⟩
    rw [← hM] at FD e3
    have EM : frms M = l := by rw [hM, cpF_frms, shift_zero, ← HL.out]
    subst e3
    have B3 := (BQ.out.trans (B2.out.mono BQ.out.size)).trans (C3.bel.mono (Nat.le_trans BQ.out.size B2.out.size))
    have E3 : EnvV w3 := HE.out.mv (Mv.below (F := []) B3) (by simp)
    have KS : Bk w3 W.heap.size [.int .i64 w, .int .i64 h] 23 := KQ.out.of_eq ((C3.bel.block _ (Nat.lt_of_lt_of_le KQ.out.lt B2.out.size)).trans (B2.out.block _ KQ.out.lt))
    obtain ⟨n, hn⟩ : ∃ n, n = M.length := ⟨_, rfl⟩
    have nL : n ≤ 16384 := by rw [hn, hM, cpF_len]; exact HLN.out
    have fl : (l.flatMap (·.bs)).length ≤ 268435456 := by rw [HL.out, frms_flat]; exact HT.out
    have rb : ∀ f ∈ l, Byt f.bs := fun f m => by
      rw [← EM] at m
      obtain ⟨x, mx, rfl⟩ := List.mem_map.1 m
      exact (FD.ok x mx).b.rng
    have lb : ∀ f ∈ l, f.bs.length ≤ 1048576 := long_each (check_parts HCK.out.symm).1
    rw [← hn]
    obtain ⟨X, hX⟩ : ∃ X, X = w3.alloc (.cells #[.slice Af n cf, .int .i64 (ev : Int), .slice none 0 0] 92) := ⟨_, rfl⟩
    have BX : Below w3.heap.size w3 X := by rw [hX]; exact (Below.refl _ w3).alloc (Nat.le_refl _) _
    have KX : Bk X w3.heap.size [.slice Af n cf, .int .i64 (ev : Int), .slice none 0 0] 92 := by rw [hX]; exact Bk.new w3 _ _
    have EX : EnvV X := E3.mv (Mv.below (F := []) BX) (by simp)
    have zz := of_decide_eq_true (show sizedB w h = true from HSZ.out.symm)
    have TN := Lib.hid (t_New w h zz.1 zz.2.1 zz.2.2.1 zz.2.2.2.1 zz.2.2.2.2 X EX)
    have KS2 := KS.of_eq (BX.block _ KS.lt)
    have s0 := KS2.c 0 _ rfl
    have s1 := KS2.c 1 _ rfl
    obtain ⟨pb, hpb⟩ : ∃ pb, pb = w3.heap.size := ⟨_, rfl⟩
    rw [← hpb] at KX
    have H0 := (Herd.nil E3 (Below.refl _ w3)).newZ BX (z := pb) (by rw [hpb]; exact Nat.le_refl _) KX.lt
    have HKX := Lib.hid KX
    have HH0 := Lib.hid H0
    have HFD := Lib.hid FD
    have HEM := Lib.hid EM
    have HB3 := Lib.hid B3
    have HN := Lib.hid hn
    have HNL := Lib.hid nL
    have HFL := Lib.hid (And.intro fl (And.intro rb lb))
    have HX := Lib.hid hX
    have HPB := Lib.hid hpb
    clear CP C3 FD EM B3 E3 KS fl rb lb hX BX KX EX zz KS2 hpb H0 hM hn e4
    have ev0 : 0 < ev := by omega
    have evl : ev ≤ 16385 := by omega
    have HEV := Lib.hid hev
    clear hev
    go_upto_region 9 with fail
    rw [← HEV.out, ← HX.out, ← HPB.out]
    clear HX
    go_wp2_with fail
    refine TN.out.mono ?_; rintro e w4 ⟨b, rfl, hb4, hge4, hs4⟩
    have N0 : Hid (NwSt w3 pb (.slice Af n cf) ev w h l 0 b [] [] (.slice none 0 0) w4) := Lib.hid ⟨⟨[(b, newV w h)], ((HH0.out.add hs4).drop), by rw [List.take_zero]; rfl, fun j hj => by simp at hj⟩, HKX.out.of_eq (hb4.block _ HKX.out.lt), ⟨rfl, Or.inl ⟨rfl, rfl⟩⟩, by rw [HPB.out]; exact Nat.le_refl _⟩
    have p0 := N0.out.box.c 0 _ rfl
    clear TN hb4 hge4 hs4 HH0 HKX s0 s1
    go_wp2_with fail
    go_loopw [46] (fun s46 wr => ∃ (k : Nat) (kb : List Nat) (vk : Value), k ≤ n ∧ s46 = .int .i64 (k : Int) ∧ kb.length = cntK ev k ∧ kb.length ≤ k ∧ Hid (NwSt w3 pb (.slice Af n cf) ev w h l k b kb kb vk wr)) (fun s46 _ => n - (intOf s46).toNat)
    case atStart => exact ⟨0, [], _, Nat.zero_le _, rfl, (cntK_zero ev0).symm, Nat.le_refl _, N0⟩
    case round =>
      obtain ⟨k, kb, vk, hk, rfl, hc, hkl, he⟩ := hrel
      clear N0
      by_cases lt : k < n
      · have kl : k < M.length := by rw [← HN.out]; exact lt
        have klf : k < l.length := by rw [← HEM.out, frms_len]; exact kl
        obtain ⟨ad, rfl, lb, z1, z2⟩ := (HFD.out.below he.out.old (Nat.le_refl _)).at k kl
        have AR := HFD.out.arg k kl
        have GT : (l[k]).bs = (M[k]).b.bs := by
          have := frms_get M k kl
          have e := HEM.out
          subst e
          rw [this]
        have FD2 := Lib.hid (fun (wr : World) (N : NwSt w3 pb (.slice (some ad) n cf) ev w h l k b (kb) kb vk wr) => N.feed klf (by rw [GT]; exact AR))
        generalize hxx : M[k] = x at *
        obtain ⟨xt, xA, xc, bs⟩ := x
        dsimp only at z1 z2 AR GT
        have q0 : (0 : Int) ≤ (k : Int) := by omega
        have q5 : (k : Int) < (n : Int) := by omega
        have tn : (k : Int).toNat = k := by omega
        have wk : IntKind.i64.wrap ((k : Int) + 1) = (k : Int) + 1 := IntWalk.i64_in _ (by omega)
        have FEED : Hid (∀ (wr : World) (kb' : List Nat) (vk' : Value), NwSt w3 pb (.slice (some ad) n cf) ev w h l k b kb' kb' vk' wr → Calls Tryz.prog 27 #[.pointer (some ⟨b, 0, none⟩), .slice xA bs.length xc] wr fun e w' => e = .returned (.int .i64 0) ∧ NwSt w3 pb (.slice (some ad) n cf) ev w h l (k + 1) b kb' kb' vk' w') := Lib.hid (fun wr kb' vk' N => by
          have := N.feed klf (A := xA) (c := xc) (by rw [GT]; exact AR) HSZ.out.symm HFL.out.2.1 (HFL.out.2.2 _ (List.getElem_mem klf)) HFL.out.1
          rw [GT] at this
          exact this)
        obtain ⟨Q5, hQ5⟩ : ∃ Q5, Q5 = wr.alloc (.cells #[.int .i64 xt, .slice xA bs.length xc] 47) := ⟨_, rfl⟩
        have hb5 : Below wr.heap.size wr Q5 := by rw [hQ5]; exact (Below.refl _ wr).alloc (Nat.le_refl _) _
        have K5 : Bk Q5 wr.heap.size [.int .i64 xt, .slice xA bs.length xc] 47 := by rw [hQ5]; exact Bk.new wr _ _
        have N5 := he.out.below hb5
        have c1 := N5.box.c 1 _ rfl
        have HQ5 := Lib.hid hQ5
        have HK5 := Lib.hid K5
        have HN5 := Lib.hid N5
        have rm : Int.tmod (k : Int) (ev : Int) = ((k % ev : Nat) : Int) := by rw [Int.tmod_eq_emod_of_nonneg (by omega)]; simp
        have ne0 : ¬ (ev : Int) = 0 := by omega
        have HC := Lib.hid hc
        clear hxx hb5 K5 N5 hQ5 he FD2 GT AR lb
        obtain ⟨md, hmd⟩ : ∃ md, md = k % ev := ⟨_, rfl⟩
        rw [← hmd] at rm
        have HMD := Lib.hid hmd
        have mdl : md < 16385 := by rw [hmd]; exact Nat.lt_of_lt_of_le (Nat.mod_lt _ ev0) evl
        clear hmd hc
        go_upto_region 15 with fail
        rw [← HQ5.out]
        clear HQ5 z1 z2
        go_upto_if 57 with fail
        go_cut [] from 58 to 68 (fun wx => ∃ kb' vk', Hid (NwSt w3 pb (.slice (some ad) n cf) ev w h l k b kb' kb' vk' wx ∧ Bk wx wr.heap.size [.int .i64 xt, .slice xA bs.length xc] 47 ∧ kb'.length = cntK ev (k + 1) ∧ kb'.length ≤ k + 1))
        case first =>
          by_cases hit : md = 0
          · subst hit
            have NV := HN5.out.below (Below.refl _ Q5).drew
            have ck := cntK_hit ev0 HMD.out.symm
            have ek : kb.length * ev = k := by rw [HC.out]; exact ck.1
            obtain ⟨Ak, kc, evk⟩ := own_slc NV.row
            subst evk
            obtain ⟨nk, hnk⟩ : ∃ nk, nk = kb.length := ⟨_, rfl⟩
            have c2 := HN5.out.box.c 2 _ rfl
            have d2 := NV.box.c 2 _ rfl
            have CLN := Lib.hid (NV.clone ek HSZ.out.symm HFL.out.2.1 HFL.out.1)
            have HNK := Lib.hid hnk
            have CK1 := Lib.hid ck.2.1
            have KF := Lib.hid (HK5.out.of_eq ((Below.refl _ Q5).drew.block _ HK5.out.lt))
            have nkl : nk ≤ 16384 := by omega
            have H2 : Hid (nk + 1 ≤ maxLen) := Lib.hid (by unfold maxLen; omega)
            have H3 : Hid ((nk + 1) * 8 ≤ 140737488355328) := Lib.hid (by omega)
            have H1 : Hid (∀ nb, ∀ u ∈ [ptrV nb], u.oneCell' = true) := Lib.hid (by intro nb u hu; simp at hu; subst hu; rfl)
            have NXX : Hid (∀ (nb : Nat) (w5 w8 : World) (v' : Value), NwSt w3 pb (.slice (some ad) n cf) ev w h l k b (kb ++ [nb]) kb (.slice Ak nk kc) w5 → Below Q5.drew.heap.size Q5.drew w5 → w8.ownsRow w3.heap.size 43 1 v' (nk + 1) (kb.map ptrV ++ [ptrV nb]) → (w5.alloc (.cells #[ptrV nb] 43)).grownBy w8 (Value.slice Ak nk kc).ownBlock → ∃ A4 c4 l4, v' = .slice A4 l4 c4 ∧ (Bk w8 pb [.slice (some ad) n cf, .int .i64 (ev : Int), .slice Ak nk kc] 92) ∧ NwSt w3 pb (.slice (some ad) n cf) ev w h l k b (kb ++ [nb]) (kb ++ [nb]) (.slice A4 l4 c4) (w8.setCell ⟨pb, 2, none⟩ (.slice A4 l4 c4)) ∧ Bk (w8.setCell ⟨pb, 2, none⟩ (.slice A4 l4 c4)) wr.heap.size [.int .i64 xt, .slice xA bs.length xc] 47 ∧ (kb ++ [nb]).length = cntK ev (k + 1) ∧ (kb ++ [nb]).length ≤ k + 1) := Lib.hid (fun nb w5 w8 v' N6 hb6 ho hg => by
              obtain ⟨A4, c4, e⟩ := own_slc ho
              have bu : Below w5.heap.size w5 (w5.alloc (.cells #[ptrV nb] 43)) := (Below.refl _ w5).alloc (Nat.le_refl _) _
              have P := N6.push bu hg (by rw [← HNK.out]; exact ho)
              have kp := keepN_grown (own_callF N6.row bu) hg
              have KB := N6.box.of_eq (bu.block _ N6.box.lt)
              have KB8 := KB.of_eq (kp pb _ _ _ KB (by decide))
              have KF5 := KF.out.of_eq (hb6.block _ KF.out.lt)
              have KFu := KF5.of_eq (bu.block _ KF5.lt)
              have KF8 := KFu.of_eq (kp wr.heap.size _ _ _ KFu (by decide))
              rw [e] at P
              refine ⟨A4, c4, _, e, KB8, P, KF8.of_eq (heap_setCell_other _ _ _ _ (fun z => ?_)), by rw [List.length_append, ← HNK.out, CK1.out, HNK.out, HC.out]; rfl, by rw [List.length_append]; simp; omega⟩
              simp only at z
              have t1 := KF8
              have t2 := KB8
              unfold Bk at t1 t2
              rw [z, t2] at t1
              cases t1)
            have OWW : Hid (∀ (nb : Nat) (w5 : World), NwSt w3 pb (.slice (some ad) n cf) ev w h l k b (kb ++ [nb]) kb (.slice Ak nk kc) w5 → (w5.alloc (.cells #[ptrV nb] 43)).ownsRow w3.heap.size 43 1 (.slice Ak nk kc) nk (kb.map ptrV) ∧ w3.heap.size ≤ (w5.alloc (.cells #[ptrV nb] 43)).heap.size) := Lib.hid (fun nb w5 N6 => ⟨by rw [HNK.out]; exact own_callF (by have := N6.row; rw [HNK.out] at this; exact this) ((Below.refl _ w5).alloc (Nat.le_refl _) _), by have := N6.old.size; simp; omega⟩)
            rw [← hnk] at c2 d2 CLN
            clear NV hnk ck ek c1 hkl
            unfold ptrV at OWW NXX H1
            go_upto_region 16 with fail
            go_region_law (first
              | (refine step_append_go _ rfl (.tmp 62) (.tmp 65) 90 rfl w3.heap.size 43 i0 (.pointer none) 1 8 Tryz.underlying90 hi0 hz0 hz1 hz2 rfl (by decide) (.slice Ak nk kc) nk _ rfl (OWW.out _ _ N6.out).1 ⟨w5.heap.size, 0, none⟩ 1 1 [.pointer (some ⟨nb, 0, none⟩)] rfl rfl NW.out (H1.out nb) H2.out H3.out (OWW.out _ _ N6.out).2 ?_
                 intro v' w8 hown3 hg3 _
                 obtain ⟨A4, c4, l4, rfl, K8, P4⟩ := NXX.out nb w5 w8 v' N6.out HB6.out hown3 hg3
                 have x2 := K8.c 2 _ rfl
                 have f2 := K8.f 2
                 have P4 := Lib.hid P4
                 clear hown3 hg3 K8)
              | (go_simp; go_at_call 54
                 refine CLN.out.mono ?_
                 rintro e w5 ⟨nb, rfl, N6, hb6⟩
                 have e2 := N6.box.c 2 _ rfl
                 have e3 := (N6.box.of_eq (((Below.refl _ w5).alloc (Nat.le_refl _) (.cells #[.pointer (some ⟨nb, 0, none⟩)] 43)).block _ N6.box.lt)).c 2 _ rfl
                 have N6 := Lib.hid N6
                 have HB6 := Lib.hid hb6
                 have NW := Lib.hid (cells_new w5 [.pointer (some ⟨nb, 0, none⟩)] 43)
                 clear hb6))
            all_goals (go_wp2_with fail)
            all_goals go_meet
            all_goals exact ⟨_, _, P4⟩
          · have FI : Hid (NwSt w3 pb (.slice (some ad) n cf) ev w h l k b kb kb vk Q5 ∧ Bk Q5 wr.heap.size [.int .i64 xt, .slice xA bs.length xc] 47 ∧ kb.length = cntK ev (k + 1) ∧ kb.length ≤ k + 1) := Lib.hid ⟨HN5.out, HK5.out, by rw [HC.out]; exact (cntK_miss ev0 (by rw [← HMD.out]; exact hit)).1.symm, by omega⟩
            have h1 : ¬ (md : Int) = 0 := by omega
            go_wp2_with fail
            go_meet
            exact ⟨_, _, FI⟩
        case rest =>
          obtain ⟨kb', vk', hcu⟩ := hcut
          obtain ⟨w6, hw6⟩ : ∃ w6, w6 = wc := ⟨_, rfl⟩
          rw [← hw6] at hcu ⊢
          have b1 := hcu.out.2.1.c 1 _ rfl
          have FE := Lib.hid (FEED.out w6 kb' vk' hcu.out.1)
          have CL := Lib.hid hcu.out.2.2
          clear hw6 hcu c1 HN5 HK5 FEED
          go_wp2_with fail
          refine FE.out.mono ?_; rintro e w7 ⟨rfl, N7⟩
          have N7 := Lib.hid N7
          clear FE
          go_wp2_with fail
          go_roundw
          case rel => exact ⟨k + 1, kb', vk', by omega, by go_num, CL.out.1, CL.out.2, N7⟩
          case measure => simp [intOf]; omega
      · have e : k = n := by omega
        subst e
        have q5 : ¬ (k : Int) < (k : Int) := by omega
        have lk : l.length = k := by rw [← HEM.out, frms_len, ← HN.out]
        have HLK := Lib.hid lk
        have rm : Int.tmod (k : Int) (ev : Int) = ((k % ev : Nat) : Int) := by rw [Int.tmod_eq_emod_of_nonneg (by omega)]; simp
        have ne0 : ¬ (ev : Int) = 0 := by omega
        have ND := he.out.below (Below.refl _ wr).drew
        have a0 := he.out.box.c 0 _ rfl
        have a1 := he.out.box.c 1 _ rfl
        have d0 := ND.box.c 0 _ rfl
        have d1 := ND.box.c 1 _ rfl
        have d2 := ND.box.c 2 _ rfl
        have f2 := ND.box.f 2
        have HND := Lib.hid ND
        have HC := Lib.hid hc
        have FIN : Hid (∀ (kb' : List Nat) (vk' : Value) (T : List (Nat × Trm)) (V : World), Bk V pb [.slice Af k cf, .int .i64 (ev : Int), vk'] 92 → V.ownsRow w3.heap.size 43 1 vk' kb'.length (kb'.map ptrV) → Herd w3 V T [] → (∀ j, (hj : j < kb'.length) → ∃ i : Nat, T[i]? = some (kb'[j], playT w h (l.take (j * ev)))) → kb'.length = l.length / ev + 1 → NewR W w h l every (.returned (.tuple #[.pointer (some ⟨pb, 0, none⟩), .int .i64 0])) V) := Lib.hid (fun kb' vk' T V K R H ks kl => by
          refine ⟨_, by rw [NC.out], HB3.out.trans (H.bel.mono HB3.out.size), fun z => absurd NC.out z, fun _ => ⟨w3, pb, ev, rfl, ⟨Af, cf, M, kb', vk', T, HEM.out, HFD.out, by rw [← HN.out]; exact K, R, H, ks, kl, ev0, by rw [HPB.out]; exact Nat.le_refl _⟩, HB3.out⟩⟩)
        obtain ⟨md, hmd⟩ : ∃ md, md = k % ev := ⟨_, rfl⟩
        rw [← hmd] at rm
        have HMD := Lib.hid hmd
        have mdl : md < 16385 := by rw [hmd]; exact Nat.lt_of_lt_of_le (Nat.mod_lt _ ev0) evl
        clear hmd hc ND he lk
        by_cases hit : md = 0
        · subst hit
          obtain ⟨V, hV⟩ : ∃ V, V = wr.drew := ⟨_, rfl⟩
          rw [← hV] at HND d0 d1 d2 f2
          obtain ⟨Ak, kc, evk⟩ := own_slc HND.out.row
          subst evk
          have ck := cntK_hit ev0 HMD.out.symm
          have FK := Lib.hid (HND.out.last (by rw [HC.out]; exact ck.1))
          have LK := Lib.hid (show (kb ++ [b]).length = l.length / ev + 1 by rw [List.length_append, HC.out, ck.2.2, HLK.out]; rfl)
          obtain ⟨nk, hnk⟩ : ∃ nk, nk = kb.length := ⟨_, rfl⟩
          have HNK := Lib.hid hnk
          have nkl : nk ≤ 16384 := by omega
          have bu : Below V.heap.size V (V.alloc (.cells #[ptrV b] 43)) := (Below.refl _ V).alloc (Nat.le_refl _) _
          have H2 : Hid (nk + 1 ≤ maxLen) := Lib.hid (by unfold maxLen; omega)
          have H3 : Hid ((nk + 1) * 8 ≤ 140737488355328) := Lib.hid (by omega)
          have H1 : Hid (∀ u ∈ [ptrV b], u.oneCell' = true) := Lib.hid (by intro u hu; simp at hu; subst hu; rfl)
          have ow := Lib.hid (own_callF HND.out.row bu)
          have H4 : Hid (w3.heap.size ≤ (V.alloc (.cells #[ptrV b] 43)).heap.size) := Lib.hid (by have := HND.out.old.size; have := bu.size; omega)
          have NW := Lib.hid (cells_new V [ptrV b] 43)
          have NXX : Hid (∀ (w8 : World) (v' : Value), w8.ownsRow w3.heap.size 43 1 v' (kb.length + 1) (kb.map ptrV ++ [ptrV b]) → (V.alloc (.cells #[ptrV b] 43)).grownBy w8 (Value.slice Ak kb.length kc).ownBlock → ∃ A4 c4 l4, v' = .slice A4 l4 c4 ∧ Bk w8 pb [.slice Af k cf, .int .i64 (ev : Int), .slice Ak kb.length kc] 92 ∧ NewR W w h l every (.returned (.tuple #[.pointer (some ⟨pb, 0, none⟩), .int .i64 0])) (w8.setCell ⟨pb, 2, none⟩ (.slice A4 l4 c4))) := Lib.hid (fun w8 v' ho hg => by
            obtain ⟨A4, c4, e⟩ := own_slc ho
            obtain ⟨T, H, ks⟩ := FK.out
            obtain ⟨a, b', c'⟩ := herd_push (nb := b) H HND.out.box HND.out.row HND.out.pbw bu hg ho
            have kp := keepN_grown (own_callF HND.out.row bu) hg
            have KB := HND.out.box.of_eq (bu.block _ HND.out.box.lt)
            have KB8 := KB.of_eq (kp pb _ _ _ KB (by decide))
            rw [e] at a b' c'
            exact ⟨A4, c4, _, e, KB8, FIN.out _ _ T _ b' c' a ks LK.out⟩)
          rw [← hnk] at ow NXX d2
          have HV := Lib.hid hV
          clear hV hnk ck bu FK LK HND hkl
          unfold ptrV at NXX H1 NW ow H4
          go_upto_region 19 with fail
          go_region
          rw [← HV.out]
          go_wp2_with (at_builtin; refine wpList_append_own _ rfl (.tmp 89) (.tmp 91) 90 rfl w3.heap.size 43 i0 (.pointer none) 1 8 Tryz.underlying90 hi0 hz0 hz1 hz2 rfl (by decide) (.slice Ak nk kc) nk _ rfl ow.out ⟨V.heap.size, 0, none⟩ 1 1 _ rfl rfl NW.out H1.out H2.out H3.out H4.out ?_; intro v' w8 hown3 hg3 _; obtain ⟨A4, c4, l4, rfl, K8, P4⟩ := NXX.out w8 v' hown3 hg3; have x2 := K8.c 2 _ rfl; have f2 := K8.f 2; have P4 := Lib.hid P4; clear hown3 hg3 K8)
          go_ret2
          exact P4.out
        · have h1 : ¬ (md : Int) = 0 := by omega
          have EN : Hid (NewR W w h l every (.returned (.tuple #[.pointer (some ⟨pb, 0, none⟩), .int .i64 0])) wr.drew) := Lib.hid (by
            obtain ⟨T, H, t0, ks⟩ := HND.out.herd
            refine FIN.out kb vk T _ HND.out.box HND.out.row H (fun j hj => ?_) ?_
            · obtain ⟨i, _, hi⟩ := ks j hj
              exact ⟨i, hi⟩
            · rw [HLK.out, HC.out]; exact (cntK_miss ev0 (by rw [← HMD.out]; exact hit)).2)
          clear hkl
          go_upto_region 19 with fail
          go_region
          go_wp2_with fail
          go_ret2
          exact EN.out
end
end Go.Proofs.YtmaofighbpnbiaaGreatDoor
