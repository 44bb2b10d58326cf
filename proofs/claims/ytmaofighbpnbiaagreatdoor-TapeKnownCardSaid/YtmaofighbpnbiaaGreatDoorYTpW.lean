/- A tape is written: Encode. -/
import Derived.Test.YtmaofighbpnbiaaGreatDoorYTpV
namespace Go.Proofs.YtmaofighbpnbiaaGreatDoor
open Go Go.RowKit Go.Sort
set_option linter.unusedVariables false
set_option linter.unusedSimpArgs false
section
def EncR (W : World) (w h : Int) (l : List Frm) (e : Ending) (w' : World) : Prop := ∃ v, e = .returned (.tuple #[v, .int .i64 (encT w h l).2]) ∧ w'.ownsRow W.heap.size 5 1 v (encT w h l).1.length (bts (encT w h l).1) ∧ Below W.heap.size W w'
theorem own_noB (w : World) (LO : Nat) : w.ownsRow LO 5 1 (.slice none 0 0) ([] : List Int).length (bts []) := ⟨rfl, Or.inl ⟨rfl, rfl⟩⟩
theorem encR_no {W w' : World} {w h : Int} {l : List Frm} {k : Int} (e : encT w h l = ([], k)) (hb : Below W.heap.size W w') : EncR W w h l (.returned (.tuple #[.slice none 0 0, .int .i64 k])) w' := ⟨_, by rw [e], by rw [e]; exact own_noB _ _, hb⟩
theorem own_lit3 {W : World} (a b c : Int) (LO : Nat) (h : LO ≤ W.heap.size) : (W.alloc (.cells #[.int .u8 a, .int .u8 b, .int .u8 c] 5)).ownsRow LO 5 1 (.slice (some ⟨W.heap.size, 0, none⟩) 3 3) 3 (bts [a, b, c]) :=
 ⟨rfl, Or.inr ⟨W.heap.size, 3, _, rfl, h, World.alloc_heap_new W _, Nat.le_refl _, by unfold maxLen; omega, rfl, rfl⟩⟩
theorem Bk.keep {W w' : World} {b : Nat} {vs : List Value} {T : TypeId} (h : Bk W b vs T) (k : KeepU W w') (ne : T ≠ 5) : Bk w' b vs T := h.of_eq (k b _ T _ h ne)
theorem numF_le : ∀ (k : Nat) (n : Int), (numF k n).length ≤ k + 1
 | 0, n => by rw [numF]; simp
 | k + 1, n => by
  rw [numF]
  split
  ·simp
  ·have := numF_le k (n / 128); simp; omega
theorem numL_le (n : Int) : (numL n).length ≤ 10 := numF_le 9 n
def encFin (E : Option (List Int)) : List Int × Int := match E with | none => ([], 3) | some b => if 1048576 < (doneL b).length then ([], 3) else (doneL b, 0)
theorem pre_byt {w h : Int} {l : List Frm} {b : List Int} (sz : sizedB w h = true) (ck : checkT l = 0) (hb : ∀ f ∈ l, Byt f.bs) (e : encF (headL w h l.length) 0 l = some b) : Byt b := by
 have s := of_decide_eq_true sz
 obtain ⟨p1, p2, p3⟩ := check_parts ck
 rw [encF_some _ _ _ _ e]
 unfold headL
 have hd : Byt [70, 77, 1] := by intro x m; simp at m; rcases m with rfl | rfl | rfl <;> decide
 exact (((hd.app (numL_byt s.1 (by omega))).app (numL_byt s.2.2.1 (by omega))).app (numL_byt (by omega) (by omega))).app (body_byt l 0 (by decide) p3 p1 hb)
theorem encF_step {L : List FA} {k : Nat} (hk : k < L.length) (zs : List Int) (last : Int) : encF zs last (frms (L.drop k)) = if 1048576 < zs.length + (L[k]).b.bs.length then none else encF (zs ++ numL ((L[k]).at_ - last) ++ numL (L[k]).b.bs.length ++ (L[k]).b.bs) (L[k]).at_ (frms (L.drop (k + 1))) := by
 rw [List.drop_eq_getElem_cons hk]
 rfl
def EncAt (Q : World) (ys : List Int) (v : Value) (w3 : World) : Prop := w3.ownsRow Q.heap.size 5 1 v ys.length (bts ys) ∧ Below Q.heap.size Q w3
theorem EncAt.size {Q w3 : World} {ys : List Int} {v : Value} (h : EncAt Q ys v w3) : Q.heap.size ≤ w3.heap.size := h.2.size
theorem EncAt.keep {Q w3 w4 : World} {ys : List Int} {v : Value} (h : EncAt Q ys v w3) (hb : Below w3.heap.size w3 w4) : EncAt Q ys v w4 := ⟨own_call h.1 hb, h.2.trans (hb.mono h.size)⟩
theorem keepU_grown {w w3 : World} {LO : Nat} {v : Value} {n : Nat} {xs : List Value} (hb : w.ownsRow LO 5 1 v n xs) (hg : w.grownBy w3 v.ownBlock) : KeepU w w3 := fun g cur T fl e ne => by
 refine hg.block g (Array.getElem?_eq_some_iff.1 e).1 (fun z => ?_)
 rcases hb.2 with ⟨rfl, _⟩ | ⟨g', cap, cu, rfl, _, h3, _⟩
 ·simp [Value.ownBlock] at z
 ·simp [Value.ownBlock] at z
  subst z
  rw [e] at h3
  cases h3
  exact ne rfl
theorem EncAt.grown {Q w w3 : World} {zs bs : List Int} {v v' : Value} (h : EncAt Q zs v w) (ho : w3.ownsRow Q.heap.size 5 1 v' (zs.length + bs.length) (bts zs ++ bts bs)) (hg : w.grownBy w3 v.ownBlock) : EncAt Q (zs ++ bs) v' w3 := by
 refine ⟨?_, h.2.grown hg h.size (fun g hg2 => (h.1.lt g hg2).1)⟩
 have e : bts (zs ++ bs) = bts zs ++ bts bs := by unfold bts; simp
 rw [e, List.length_append]
 exact ho
theorem t_num2 {Q w3 : World} {ys : List Int} {v : Value} (h : EncAt Q ys v w3) (n0 : Nat) (h1 : n0 ≤ 1099511627776) (ub : ys.length ≤ 10000000) :
  Calls Tryz.prog 45 #[v, .int .i64 (n0 : Int)] w3 (fun e w4 => ∃ zs A c, zs = ys ++ numL (n0 : Int) ∧ e = .returned (.slice A zs.length c) ∧ EncAt Q zs (.slice A zs.length c) w4 ∧ KeepU w3 w4) :=
 (t_number Q.heap.size v ys n0 w3 h.1 h.size h1 ub).mono (fun e w4 ⟨v', e1, o, b, k⟩ => by
  obtain ⟨A, c, rfl⟩ := own_slc o
  exact ⟨_, A, c, rfl, e1, ⟨o, h.2.trans b⟩, k⟩)
theorem encR_yes {Q W w' : World} {w h : Int} {l : List Frm} {D : List Int} {v : Value} (e : encT w h l = (D, 0)) (hE : EncAt Q D v w') (hb : Below W.heap.size W Q) : EncR W w h l (.returned (.tuple #[v, .int .i64 0])) w' := ⟨v, by rw [e], by rw [e]; exact own_low hE.1 hb.size, hb.trans (hE.2.mono hb.size)⟩
set_option maxHeartbeats 16000000 in
set_option maxRecDepth 100000 in
theorem t_Encode (w h : Int) (A : Option Addr) (c : Nat) (L : List FA) (B : Nat) (W : World) (D : FrsD W B A c L) (hB : B ≤ W.heap.size) : Calls Tryz.prog 16 #[.agg #[.int .i64 w, .int .i64 h], .slice A L.length c] W (EncR W w h (frms L)) := by
 obtain ⟨Q, hQ⟩ : ∃ Q, Q = W.alloc (.cells #[.int .i64 w, .int .i64 h] 23) := ⟨_, rfl⟩
 obtain ⟨i0, hi0, hz0, hz1, hz2⟩ := info_parts infoB
 have BQ := Lib.hid (show Below W.heap.size W Q by rw [hQ]; exact (Below.refl _ W).alloc (Nat.le_refl _) _)
 have K : Bk Q W.heap.size [.int .i64 w, .int .i64 h] 23 := by rw [hQ]; exact Bk.new W _ _
 have k0 := K.c 0 _ rfl
 have k1 := K.c 1 _ rfl
 have KQ := Lib.hid K
 have HQ := Lib.hid hQ
 have S1 := Lib.hid (t_sized w h Q)
 have CK := Lib.hid (fun (w1 : World) (hb : Below Q.heap.size Q w1) => t_check A c L B w1 (D.below (BQ.out.trans (hb.mono BQ.out.size)) hB) (Nat.le_trans hB (Nat.le_trans BQ.out.size hb.size)))
 have HD := Lib.hid D
 obtain ⟨l, hl⟩ : ∃ l, l = frms L := ⟨_, rfl⟩
 rw [← hl] at CK
 rw [← hl]
 have HL := Lib.hid hl
 clear K hQ hl D
 go_enter Tryz.func16, Tryz.ntmps16
 go_upto_region 1 with fail
 rw [← HQ.out]
 clear HQ
 go_wp2_with fail
 refine S1.out.mono ?_; rintro e w1 ⟨rfl, hb1⟩
 have B1 := Lib.hid hb1
 clear S1 hb1
 obtain ⟨sz, hsz⟩ : ∃ sz, sz = sizedB w h := ⟨_, rfl⟩
 rw [← hsz]
 have HSZ := Lib.hid hsz
 clear hsz
 cases sz with
 | false =>
  have EN := Lib.hid (encR_no (W := W) (l := l) (show encT w h l = ([], 5) by unfold encT; rw [if_pos HSZ.out.symm]) (BQ.out.trans (B1.out.mono BQ.out.size)))
  clear CK
  go_wp2_with fail
  go_ret2
  exact EN.out
 | true =>
  have C1 := Lib.hid (CK.out w1 B1.out)
  clear CK
  obtain ⟨ck, hck⟩ : ∃ ck, ck = checkT l := ⟨_, rfl⟩
  rw [← hck] at C1
  have HCK := Lib.hid hck
  clear hck
  go_wp2_with fail
  refine C1.out.mono ?_; rintro e w2 ⟨rfl, hb2⟩
  have B2 := Lib.hid (B1.out.trans (hb2.mono B1.out.size))
  clear C1 B1 hb2
  by_cases c0 : ck = 0
  case neg =>
   have c0' : (ck == 0) = false := by simpa using c0
   have EN := Lib.hid (encR_no (W := W) (l := l) (show encT w h l = ([], ck) by unfold encT; rw [if_neg (by rw [← HSZ.out]; decide), ← HCK.out, if_pos c0]) (BQ.out.trans (B2.out.mono BQ.out.size)))
   go_wp2_with fail
   go_ret2
   exact EN.out
  subst c0
  have k0 := (KQ.out.of_eq (B2.out.block _ KQ.out.lt)).c 0 _ rfl
  have k1 := (KQ.out.of_eq (B2.out.block _ KQ.out.lt)).c 1 _ rfl
  obtain ⟨wn, rfl⟩ : ∃ n : Nat, w = (n : Int) := ⟨w.toNat, by have := HSZ.out; unfold sizedB at this; simp at this; omega⟩
  obtain ⟨hn, rfl⟩ : ∃ n : Nat, h = (n : Int) := ⟨h.toNat, by have := HSZ.out; unfold sizedB at this; simp at this; omega⟩
  have bw : wn ≤ 4096 ∧ hn ≤ 4096 := by have := HSZ.out; unfold sizedB at this; simp at this; omega
  have lt2 := Nat.lt_of_lt_of_le KQ.out.lt B2.out.size
  have E0 : EncAt Q [70, 77, 1] (.slice (some ⟨w2.heap.size, 0, none⟩) 3 3) (w2.alloc (.cells #[.int .u8 70, .int .u8 77, .int .u8 1] 5)) := ⟨own_lit3 (W := w2) 70 77 1 Q.heap.size B2.out.size, B2.out.alloc B2.out.size _⟩
  have N1 := Lib.hid (t_num2 E0 wn (by omega) (by decide))
  have K3 := Lib.hid (KQ.out.of_eq (E0.2.block _ KQ.out.lt))
  have k0 := K3.out.c 0 _ rfl
  have k1 := K3.out.c 1 _ rfl
  clear E0
  go_wp2_with fail
  refine N1.out.mono ?_; rintro e w3 ⟨zs1, A1, c1, hz1, rfl, hE1, hk1⟩
  have k0 := (K3.out.keep hk1 (by decide)).c 0 _ rfl
  have k1 := (K3.out.keep hk1 (by decide)).c 1 _ rfl
  clear N1
  have l1 : zs1.length ≤ 100 := by rw [hz1, List.length_append]; have := numL_le (wn : Int); have e3 : ([70, 77, 1] : List Int).length = 3 := rfl; omega
  have N2 := Lib.hid (t_num2 hE1 hn (by omega) (by omega))
  have HZ1 := Lib.hid hz1
  have HE1 := Lib.hid hE1
  clear hz1 hE1 hk1
  go_wp2_with fail
  refine N2.out.mono ?_; rintro e w4 ⟨zs2, A2, c2, hz2, rfl, hE2, hk2⟩
  have l2 : zs2.length ≤ 200 := by rw [hz2, List.length_append]; have := numL_le (hn : Int); omega
  have l3 : L.length ≤ 1048576 := by have := HCK.out; unfold checkT manyB at this; rw [HL.out, frms_len] at this; by_cases c : L.length ≤ 1048576 <;> simp at this <;> omega
  have N3 := Lib.hid (t_num2 hE2 L.length (by omega) (by omega))
  have HZ2 := Lib.hid (hz2.trans (by rw [HZ1.out]))
  have HE2 := Lib.hid hE2
  clear hz2 hE2 hk2 N2 HE1 HZ1
  go_wp2_with fail
  refine N3.out.mono ?_; rintro e w5 ⟨zs3, A3, c3, hz3, rfl, hE3, hk3⟩
  have l4 : zs3.length ≤ 300 := by rw [hz3, List.length_append]; have := numL_le (L.length : Int); omega
  have HZ3 := Lib.hid (show zs3 = headL wn hn l.length by rw [hz3, HZ2.out, HL.out, frms_len]; rfl)
  have HE3 := Lib.hid hE3
  clear hz3 hE3 hk3 N3 HE2 HZ2 K3
  obtain ⟨n, hn'⟩ : ∃ n, n = L.length := ⟨_, rfl⟩
  obtain ⟨E, hE⟩ : ∃ E, E = encF (headL wn hn l.length) 0 l := ⟨_, rfl⟩
  have HE := Lib.hid (show encF zs3 0 (frms (L.drop 0)) = E by rw [hE, HZ3.out, HL.out]; rfl)
  have HT := Lib.hid (show timedF 0 (frms (L.drop 0)) = true by
   have z := HCK.out
   unfold checkT at z
   rw [HL.out] at z
   split at z
   ·exact absurd z (by decide)
   ·split at z
    ·rename_i t; exact t
    ·exact absurd z (by decide))
  have RE := Lib.hid (show encT wn hn l = encFin E by unfold encT; rw [if_neg (by rw [← HSZ.out]; decide), ← HCK.out, if_neg (by decide), hE]; rfl)
  have CB := Lib.hid (show ∀ b, E = some b → Byt b from fun b e => pre_byt HSZ.out.symm HCK.out.symm (fun f m => by
   rw [HL.out] at m
   obtain ⟨x, mx, rfl⟩ := List.mem_map.1 m
   exact (HD.out.ok x mx).b.rng) (hE.symm.trans e))
  have CE := Lib.hid (HD.out.cells hB)
  have HN := Lib.hid hn'
  rw [← hn'] at l3
  rw [← hn']
  have HB := Lib.hid hB
  clear hn' hE HZ3 HSZ HCK KQ hB
  go_wp2_with fail
  go_loopw [7, 8, 35] (fun s7 s8 i wr => ∃ (k last : Nat) (zs : List Int) (A' : Option Addr) (c' : Nat), k ≤ n ∧ s7 = .slice A' zs.length c' ∧ s8 = .int .i64 (last : Int) ∧ i = .int .i64 (k : Int) ∧ last ≤ 1099511627776 ∧ zs.length ≤ 1048600 ∧ Hid (EncAt Q zs (.slice A' zs.length c') wr) ∧ Hid (encF zs last (frms (L.drop k)) = E) ∧ Hid (timedF last (frms (L.drop k)) = true)) (fun _ _ i _ => n - (intOf i).toNat)
  case atStart => exact ⟨0, 0, zs3, A3, c3, Nat.zero_le _, rfl, rfl, by simp, by omega, by omega, HE3, HE, HT⟩
  case round =>
   obtain ⟨k, last, zs, A', c', hk, rfl, rfl, rfl, hl, hz, he, hf, ht⟩ := hrel
   clear HE3 HE HT
   by_cases lt : k < n
   ·have kl : k < L.length := by rw [← HN.out]; exact lt
    obtain ⟨ad, rfl, z1, z2⟩ := CE.out k wr kl (BQ.out.trans (he.out.2.mono BQ.out.size))
    have BD := Lib.hid (fun (w' : World) (hb : Below Q.heap.size Q w') => (HD.out.ok _ (List.getElem_mem kl)).b.below (BQ.out.trans (hb.mono BQ.out.size)) HB.out)
    have SE := Lib.hid ((encF_step kl zs last).symm.trans hf.out)
    have ST := Lib.hid ((timed_step kl last).symm.trans ht.out)
    generalize hbb : (L[k]).b = bb at *
    obtain ⟨xA, xc, bs⟩ := bb
    generalize hat : (L[k]).at_ = xt at *
    have q0 : (0 : Int) ≤ (k : Int) := by omega
    have q5 : (k : Int) < (n : Int) := by omega
    have tn : (k : Int).toNat = k := by omega
    have wk : IntKind.i64.wrap ((k : Int) + 1) = (k : Int) + 1 := IntWalk.i64_in _ (by omega)
    clear CE ht hf hbb hat
    dsimp only at z2 SE
    have PT := ST.out
    rw [Bool.and_eq_true, decide_eq_true_eq] at PT
    obtain ⟨⟨pt1, pt2⟩, pt3⟩ := PT
    obtain ⟨x1, rfl⟩ : ∃ x1 : Nat, xt = (x1 : Int) := ⟨xt.toNat, by omega⟩
    have NT := Lib.hid pt3
    obtain ⟨d, hd⟩ : ∃ d : Nat, d = x1 - last := ⟨_, rfl⟩
    have bl : bs.length ≤ 140737488355328 := by have h1 := (BD.out wr he.out.2).cap; have h2 := (BD.out wr he.out.2).sz; dsimp only at h1 h2; omega
    have wd : IntKind.i64.wrap ((x1 : Int) - (last : Int)) = (d : Int) := by rw [IntWalk.i64_in _ (by omega)]; omega
    have wd2 : (x1 : Int) - (last : Int) = (d : Int) := by omega
    have ws : IntKind.i64.wrap ((zs.length : Int) + (bs.length : Int)) = (zs.length : Int) + (bs.length : Int) := IntWalk.i64_in _ (by omega)
    obtain ⟨Q4, hQ4⟩ : ∃ Q4, Q4 = wr.alloc (.cells #[.int .i64 (x1 : Int), .slice xA bs.length xc] 47) := ⟨_, rfl⟩
    have hb4 : Below wr.heap.size wr Q4 := by rw [hQ4]; exact (Below.refl _ wr).alloc (Nat.le_refl _) _
    have E4 := Lib.hid (he.out.keep hb4)
    have K4 : Bk Q4 wr.heap.size [.int .i64 (x1 : Int), .slice xA bs.length xc] 47 := by rw [hQ4]; exact Bk.new wr _ _
    have b0 := K4.c 0 _ rfl
    have b1 := K4.c 1 _ rfl
    have HQ4 := Lib.hid hQ4
    have HK4 := Lib.hid K4
    clear K4 hQ4 pt3 ST hb4 hd
    by_cases c1 : 1048576 < zs.length + bs.length
    ·have c1' : (1048576 : Int) < (zs.length : Int) + (bs.length : Int) := by omega
     have EN := Lib.hid (encR_no (W := W) (l := l) (show encT wn hn l = ([], 3) by rw [RE.out, ← SE.out, if_pos c1]; rfl) (BQ.out.trans (E4.out.2.mono BQ.out.size)))
     clear SE RE he
     go_upto_region 14 with fail
     rw [← HQ4.out]
     go_wp2_with fail
     go_ret2
     exact EN.out
    ·have c1' : ¬ (1048576 : Int) < (zs.length : Int) + (bs.length : Int) := by omega
     have N4 := Lib.hid (t_num2 E4.out d (by omega) (by omega))
     have SE2 := Lib.hid ((if_neg c1).symm.trans SE.out)
     clear SE he
     go_upto_region 14 with fail
     rw [← HQ4.out]
     go_wp2_with fail
     refine N4.out.mono ?_; rintro e w6 ⟨zs4, A4, c4, hz4, rfl, hE4, hk4⟩
     have b0 := (HK4.out.keep hk4 (by decide)).c 0 _ rfl
     have b1 := (HK4.out.keep hk4 (by decide)).c 1 _ rfl
     have l6 : zs4.length ≤ zs.length + 10 := by rw [hz4, List.length_append]; have := numL_le (d : Int); omega
     have N5 := Lib.hid (t_num2 hE4 bs.length (by omega) (by omega))
     have K6 := Lib.hid (HK4.out.keep hk4 (by decide))
     have HZ4 := Lib.hid hz4
     clear hz4 hE4 hk4 N4 HK4 E4
     go_wp2_with fail
     refine N5.out.mono ?_; rintro e w7 ⟨zs5, A5, c5, hz5, rfl, hE5, hk5⟩
     have l7 : zs5.length ≤ zs.length + 20 := by rw [hz5, List.length_append]; have := numL_le (bs.length : Int); omega
     have b0 := (K6.out.keep hk5 (by decide)).c 0 _ rfl
     have b1 := (K6.out.keep hk5 (by decide)).c 1 _ rfl
     have K7 := Lib.hid (K6.out.keep hk5 (by decide))
     have HF5 := Lib.hid (show encF (zs5 ++ bs) (x1 : Int) (frms (L.drop (k + 1))) = E by rw [hz5, HZ4.out, ← wd2]; exact SE2.out)
     have E5 := Lib.hid hE5
     clear hz5 hE5 hk5 N5 K6 SE2 HZ4
     have x2 : x1 ≤ 1099511627776 := by omega
     cases xA with
     | none =>
      have h1 := (BD.out w7 E5.out.2).nil rfl
      have h2 := (BD.out w7 E5.out.2).cap
      dsimp only at h1 h2
      obtain rfl : bs = [] := List.eq_nil_of_length_eq_zero (by omega)
      subst h1
      have HO := Lib.hid E5.out.1
      have HF6 := Lib.hid (show encF zs5 (x1 : Int) (frms (L.drop (k + 1))) = E by have z := HF5.out; rw [List.append_nil] at z; exact z)
      have l8 : zs5.length ≤ 1048600 := by simp at c1; omega
      clear BD K7 HF5
      go_wp2_with (at_builtin; refine wpList_append_own_none rfl (.tmp 57) (.tmp 59) 27 rfl Q.heap.size 5 i0 1 Tryz.underlying27 hi0 _ _ _ rfl HO.out rfl ?_)
      go_roundw
      case rel => exact ⟨k + 1, x1, zs5, A5, c5, by omega, rfl, rfl, by go_num, x2, l8, E5, HF6, NT⟩
      case measure => simp [intOf]; omega
     | some ay =>
      have BD7 := BD.out w7 E5.out.2
      have NS := Lib.hid (show ∀ j u, (bts bs)[j]? = some u → w7.cell? (ay.add j) = some u from fun j u hu => by
       obtain ⟨a', e, _, hc⟩ := BD7.sees (fun z => by have z2 : bts bs = [] := z; rw [z2] at hu; simp at hu)
       cases e
       exact hc j u hu)
      have O1 : Hid (∀ u ∈ bts bs, u.oneCell' = true) := Lib.hid (by intro u hu; unfold bts at hu; rw [List.mem_map] at hu; obtain ⟨b, _, rfl⟩ := hu; rfl)
      have HL1 : Hid ((bts bs).length = bs.length * 1) := Lib.hid (by unfold bts; simp)
      have H2 : zs5.length + bs.length ≤ maxLen := by unfold maxLen; omega
      have H3 : (zs5.length + bs.length) * 1 ≤ 140737488355328 := by omega
      have HO := Lib.hid E5.out.1
      have H4 := Lib.hid E5.out.size
      have NX : Hid (∀ (w3 : World) (v' : Value), w3.ownsRow Q.heap.size 5 1 v' (zs5.length + bs.length) (bts zs5 ++ bts bs) → w7.grownBy w3 (Value.slice A5 zs5.length c5).ownBlock → ∃ zs6 A6 c6, v' = .slice A6 zs6.length c6 ∧ zs6 = zs5 ++ bs ∧ EncAt Q zs6 (.slice A6 zs6.length c6) w3 ∧ Bk w3 wr.heap.size [.int .i64 (x1 : Int), .slice (some ay) bs.length xc] 47) := Lib.hid (fun w3 v' ho hg => by
       have q := E5.out.grown ho hg
       obtain ⟨A6, c6, rfl⟩ := own_slc q.1
       exact ⟨_, A6, c6, rfl, rfl, q, K7.out.keep (keepU_grown E5.out.1 hg) (by decide)⟩)
      clear E5 K7 BD7 BD
      go_wp2_with (at_builtin; refine wpList_append_own _ rfl (.tmp 57) (.tmp 59) 27 rfl Q.heap.size 5 i0 (.int .u8 0) 1 1 Tryz.underlying27 hi0 hz0 hz1 hz2 rfl (by decide) _ _ _ rfl HO.out ay _ _ (bts bs) rfl HL1.out NS.out O1.out H2 H3 H4.out ?_; intro v' w8 hown3 hg3 _; obtain ⟨zs6, A6, c6, rfl, hz6, E6, K8⟩ := NX.out w8 v' hown3 hg3; have b0 := K8.c 0 _ rfl; have E6 := Lib.hid E6; have HZ6 := Lib.hid hz6; clear hown3 hg3 NX HO hz6 K8)
      have l8 : zs6.length ≤ 1048600 := by rw [HZ6.out, List.length_append]; omega
      have HF6 := Lib.hid (show encF zs6 (x1 : Int) (frms (L.drop (k + 1))) = E by rw [HZ6.out]; exact HF5.out)
      go_roundw
      case rel => exact ⟨k + 1, x1, zs6, A6, c6, by omega, rfl, rfl, by go_num, x2, l8, E6, HF6, NT⟩
      case measure => simp [intOf]; omega
   ·have ek : k = n := by omega
    subst ek
    have q5 : ¬ (k : Int) < (k : Int) := by omega
    have EE := Lib.hid (show E = some zs by rw [← hf.out, List.drop_of_length_le (by rw [← HN.out]; exact Nat.le_refl _)]; rfl)
    have RE2 := Lib.hid (show encT wn hn l = encFin (some zs) by rw [RE.out, EE.out])
    have ES := Lib.hid he.out
    have BY := CB.out zs EE.out
    obtain ⟨s, hs⟩ : ∃ s : Nat, sumL zs = (s : Int) := ⟨(sumL zs).toNat, by have := sumL_rng zs; omega⟩
    have s0 : s < 4294967296 := by have := sumL_rng zs; omega
    have SM := Lib.hid (t_sum A' c' zs wr.heap.size wr (Sees.of_own he.out.1) BY (by omega))
    rw [hs] at SM
    have HS := Lib.hid hs
    obtain ⟨D, hD⟩ : ∃ D, D = doneL zs := ⟨_, rfl⟩
    have RE3 := Lib.hid (show encT wn hn l = if 1048576 < D.length then ([], 3) else (D, 0) by rw [RE.out, EE.out, hD]; rfl)
    have HDD := Lib.hid (show D = zs ++ tail4 (s : Int) by rw [hD]; unfold doneL; rw [hs])
    have dl : D.length = zs.length + 4 := by rw [HDD.out, List.length_append]; rfl
    have O1 : Hid (∀ u ∈ [Value.int .u8 ((s : Int) % 256), .int .u8 ((s : Int) / 256 % 256), .int .u8 ((s : Int) / 65536 % 256), .int .u8 ((s : Int) / 16777216)], u.oneCell' = true) := Lib.hid (by intro u hu; simp at hu; rcases hu with rfl | rfl | rfl | rfl <;> rfl)
    have H2 : zs.length + 4 ≤ maxLen := by unfold maxLen; omega
    have H3 : (zs.length + 4) * 1 ≤ 140737488355328 := by omega
    have EA := Lib.hid (he.out.keep ((Below.refl _ wr).alloc (Nat.le_refl _) (.cells #[.int .u8 ((s : Int) % 256), .int .u8 ((s : Int) / 256 % 256), .int .u8 ((s : Int) / 65536 % 256), .int .u8 ((s : Int) / 16777216)] 5)))
    have HO := Lib.hid EA.out.1
    have H4 := Lib.hid EA.out.size
    have NW := Lib.hid (cells_new wr [.int .u8 ((s : Int) % 256), .int .u8 ((s : Int) / 256 % 256), .int .u8 ((s : Int) / 65536 % 256), .int .u8 ((s : Int) / 16777216)] 5)
    have NX : Hid (∀ (w3 : World) (v' : Value), w3.ownsRow Q.heap.size 5 1 v' (zs.length + 4) (bts zs ++ [Value.int .u8 ((s : Int) % 256), .int .u8 ((s : Int) / 256 % 256), .int .u8 ((s : Int) / 65536 % 256), .int .u8 ((s : Int) / 16777216)]) → (wr.alloc (.cells #[.int .u8 ((s : Int) % 256), .int .u8 ((s : Int) / 256 % 256), .int .u8 ((s : Int) / 65536 % 256), .int .u8 ((s : Int) / 16777216)] 5)).grownBy w3 (Value.slice A' zs.length c').ownBlock → ∃ A6 c6, v' = .slice A6 D.length c6 ∧ EncAt Q D (.slice A6 D.length c6) w3) := Lib.hid (fun w3 v' ho hg => by
     have q := EA.out.grown (bs := tail4 (s : Int)) ho hg
     rw [← HDD.out] at q
     obtain ⟨A6, c6, rfl⟩ := own_slc q.1
     exact ⟨A6, c6, rfl, q⟩)
    clear CE CB hf ht RE EE BY hs he HS HDD hD EA HN HB HD HL
    by_cases c9 : 1048576 < D.length
    ·have c9' : (1048576 : Int) < (D.length : Int) := by omega
     have RE4 := Lib.hid (RE3.out.trans (if_pos c9))
     clear RE3 dl
     go_wp2_with fail
     refine SM.out.mono ?_; rintro e w9 ⟨rfl, hw9⟩; subst hw9
     clear SM
     go_wp2_with (at_builtin; refine wpList_append_own _ rfl (.tmp 66) (.tmp 78) 27 rfl Q.heap.size 5 i0 (.int .u8 0) 1 1 Tryz.underlying27 hi0 hz0 hz1 hz2 rfl (by decide) _ _ _ rfl HO.out ⟨w9.heap.size, 0, none⟩ 4 4 _ rfl rfl NW.out O1.out H2 H3 H4.out ?_; intro v' w8 hown3 hg3 _; obtain ⟨A6, c6, rfl, E6⟩ := NX.out w8 v' hown3 hg3; have E6 := Lib.hid E6; clear hown3 hg3 NX HO)
     go_ret2
     exact encR_no RE4.out (BQ.out.trans (E6.out.2.mono BQ.out.size))
    ·have c9' : ¬ (1048576 : Int) < (D.length : Int) := by omega
     have RE4 := Lib.hid (RE3.out.trans (if_neg c9))
     clear RE3 dl
     go_wp2_with fail
     refine SM.out.mono ?_; rintro e w9 ⟨rfl, hw9⟩; subst hw9
     clear SM
     go_wp2_with (at_builtin; refine wpList_append_own _ rfl (.tmp 66) (.tmp 78) 27 rfl Q.heap.size 5 i0 (.int .u8 0) 1 1 Tryz.underlying27 hi0 hz0 hz1 hz2 rfl (by decide) _ _ _ rfl HO.out ⟨w9.heap.size, 0, none⟩ 4 4 _ rfl rfl NW.out O1.out H2 H3 H4.out ?_; intro v' w8 hown3 hg3 _; obtain ⟨A6, c6, rfl, E6⟩ := NX.out w8 v' hown3 hg3; have E6 := Lib.hid E6; clear hown3 hg3 NX HO)
     go_ret2
     exact encR_yes RE4.out E6.out BQ.out
end
end Go.Proofs.YtmaofighbpnbiaaGreatDoor
