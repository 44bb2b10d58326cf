/- What lies below tapes (kept of earlier texts: VwPd). -/
import Derived.Test.YtmaofighbpnbiaaGreatDoorTaFI
import Derived.ArgAppend
set_option linter.unusedVariables false
set_option linter.unusedSimpArgs false
namespace Go.Proofs.YtmaofighbpnbiaaGreatDoor
section
open Go Go.RowKit Go.Sort
attribute [local go_sem] Oper.semAt_some
def sumP (pre : List (Int × List Int × Int)) : Int := (pre.map fun x => x.2.2).sum
theorem zc0 (pre : List (Int × List Int × Int)) (x : Int × List Int × Int) : sumP (pre ++ [x]) = sumP pre + x.2.2 := by
 unfold sumP
 simp
theorem Jp : ∀ (p : Int) (l : List (List Int × Int)), (plL p l).map (fun x => x.2.2) = l.map (·.2)
 | _, [] => rfl
 | p, c :: r => by
  unfold plL
  rw [List.map_cons, Jp _ r, List.map_cons]
theorem VL : ∀ (l : List Int), (∀ x ∈ l, x = 0 \/ x = 1 \/ x = 2) -> 0 <= l.sum /\ l.sum <= 2 * l.length
 | [], h => by simp
 | x :: l, h => by
  have a := VL l (fun y hy => h y (by simp [hy]))
  have b := h x (by simp)
  simp only [List.sum_cons, List.length_cons]
  omega
theorem sumP_rng {l : List Int} {pre : List (Int × List Int × Int)} (h : pre <+: plL 0 (clL l)) : 0 <= sumP pre /\ sumP pre <= 2 * pre.length := by
 have a := VL (pre.map fun x => x.2.2) (fun y hy => by
  obtain ⟨r, hr⟩ := h
  have m : y ∈ (plL 0 (clL l)).map (fun x => x.2.2) := by rw [<- hr, List.map_append]; exact List.mem_append_left _ hy
  rw [Jp] at m
  obtain ⟨c, hc, rfl⟩ := List.mem_map.1 m
  exact (Xi _ _ zdZ c hc).2)
 rw [List.length_map] at a
 exact a
theorem zc1 (a b : Int) : wrap64 (wrap64 a + b) = wrap64 (a + b) := by unfold wrap64; omega
theorem VM {a : Int} (h0 : 0 <= a) (h1 : a <= 4000000000000) : wrap64 a = a := by unfold wrap64; omega
set_option maxHeartbeats 8000000 in
set_option maxRecDepth 100000 in
theorem zc3 (n : Nat) (hn : 3 <= n) (s : ByteArray) (hs : s.size <= 1000000000000) (w : World) : CallsIn Fence.wide n Tryz.prog 97 #[.string s] w fun e w' => e = .returned (.int .i64 (zq s)) /\ Below w.heap.size w w' := by
 have h1 : 1 <= n := by omega
 have AL := zdX (d_All s (by omega))
 have RG := zdX (Z2 _ s rfl)
 have RL := vn _ s rfl
 have SW : Hid (zq s = sumP (plL 0 (clL (zQ s)))) := zdX (by
  unfold zq sumP
  rw [Jp]
  unfold qw
  rw [List.map_map]
  rfl)
 have PN : Hid ((plL 0 (clL (zQ s))).length <= s.size) := zdX (by
  have := Z7 s
  rw [show qw s = (plL 0 (clL (zQ s))).map unpl by rw [QP]; rfl, List.length_map] at this
  exact this)
 generalize zq s = WB at *
 generalize zQ s = l at *
 refine callsIn_of_wp_marks Tryz.func97 rfl trivial ?_ rfl
 simp only [Tryz.ntmps97, List.size_toArray, List.length_cons, List.length_nil, Nat.reduceAdd, Nat.reduceSub, Array.replicate_succ, Array.replicate_zero, List.push_toArray, List.append_toArray, List.nil_append, List.cons_append]
 gi_wp2_with fail
 refine ⟨trivial, (callsIn_wide.2 (AL.out _)).mono ?_⟩
 rintro e w1 ⟨b, A, c, rfl, hb0, hb1, hbn, hc, hA, hS, hB⟩
 have bO : Boxed w1 w.heap.size 3 (.int .i64 0) := (hB.block _ (by simp)).trans (Boxed.new w _ _)
 have HB : Below w.heap.size w w1 := jg (by go_grown) (by simp) hB
 obtain ⟨g, hg1, hg2, hg3⟩ : ∃ g, w.heap.size < g /\ g < w1.heap.size /\ ∀ ad, A = some ad -> ad.block = g := by
  rcases A with _ | ad
  ·exact ⟨b, by simp at hb0; omega, hb1, fun ad e => by cases e⟩
  ·have := hA ad rfl
   simp at this
   exact ⟨ad.block, by omega, this.2, fun ad' e => by cases e; rfl⟩
 clear hA hB hb0
 gi_wp2_with fail
 have ST := Kj (n - 1) (by omega) b g A c l (by omega) hc RG.out hg3 w1 hb1 hbn hS
 refine wpIn_rangeFunc_ownH (α := Int × List Int × Int) rfl h1 (gf := 143) (lb := #[.pointer (some ⟨b, 0, none⟩)]) rfl trivial (enters_of Tryz.func143 (by kernel_rfl) rfl)
  ST KeepG.trans (KeepG.put hg2) (Below.refl _ _) (fun _ => rfl)
  (fun (pre : List (Int × List Int × Int)) (W : World) => Boxed W w.heap.size 3 (.int .i64 (wrap64 (sumP pre))) /\ (Below w.heap.size w W /\ w1.heap.size <= W.heap.size))
  (fun _ _ _ => False)
  (OwnFrom.and (Own.from (boxed_own w.heap.size 3 (fun (pre : List (Int × List Int × Int)) => .int .i64 (wrap64 (sumP pre)))) _) (OwnFrom.and (ownFrom_below zdZ HB.size) (fun _ X Y row hs hg _ => Nat.le_trans hs hg.size)))
  (fun _ _ _ _ _ hs _ _ => hs)
  ⟨by rw [show sumP ([] : List (Int × List Int × Int)) = 0 from rfl, VM (by decide) (by decide)]; exact bO, HB, zdZ⟩
  (fun (x : Int × List Int × Int) a' W => ∃ Bx, w.heap.size < Bx /\ W.heap[Bx]? = some (.cells #[.string (barr x.2.1), .int .i64 x.2.2] 142 (0, 0)) /\ a' = { tmps := #[.string s, undef, .int .i64 0, .pointer (some ⟨w.heap.size, 0, none⟩), undef, .pointer (some ⟨Bx, 0, none⟩), .string s, .func (.func 143) #[] #[.pointer (some ⟨b, 0, none⟩)], .int .i64 x.1, .agg #[.string (barr x.2.1), .int .i64 x.2.2], undef, undef, undef, undef, undef], defers := [] })
  (fun x a' _ X Y row hs hg hr => by
   obtain ⟨Bx, h1, h2, h3⟩ := hs
   refine ⟨Bx, h1, (hg.block Bx (Array.getElem?_eq_some_iff.1 h2).1 (fun e => ?_)).trans h2, h3⟩
   obtain ⟨_, o, ho, hc⟩ := hr Bx e.symm
   rw [h2] at ho
   cases ho
   cases hc)
  ?assign ?body ?done ?stop
 case assign =>
  rintro y pre x W K ⟨hv, hB1, hN⟩ hK
  simp only [encC]
  gi_wp2_with fail
  have hsz := hB1.size
  exact hK _ _ ((KeepsOthers.alloc _ _).from _) ⟨by simp, ((Below.refl W.heap.size W).alloc zdZ _).block g (by omega)⟩ ⟨hv.alloc _, hB1.alloc hsz _, by simp; omega⟩ ⟨W.heap.size, hv.lt, World.alloc_heap_new W _, rfl⟩
 case body =>
  rintro y pre ⟨px, tx, wd⟩ a' W hl hpre ⟨hv, hB1, hN⟩ ⟨Bx, hBx, hX, rfl⟩ hlt
  have cO := hv.cell
  have fO := hv.frozen
  have cX1 : W.cell? ⟨Bx, 1, none⟩ = some (.int .i64 wd) := by simp [World.cell?, hX]
  have hsz := hB1.size
  have NX : Hid (wrap64 (sumP (pre ++ [(px, tx, wd)])) = wrap64 (wrap64 (sumP pre) + wd)) := zdX (by rw [zc0, zc1])
  have HV := zdX hv
  clear hX hv
  generalize hbs : barr tx = bs at *
  clear hbs
  generalize hsp : wrap64 (sumP pre) = sp at *
  clear hsp
  gi_wp2_with fail
  refine ⟨(KeepsOthers.setCell _ _ _).from _, ⟨by simp, (Below.heap_setCell _ _ _ _ (show g ≠ w.heap.size by omega))⟩, ⟨?_, hB1.setCell zdZ _, by simpa using hN⟩⟩
  rw [NX.out]
  exact HV.out.set _
 case done =>
  rintro D ys W hD rfl ⟨hv, hB1, hN⟩ hK
  have hc := hv.cell
  have sr := sumP_rng (l := l) (List.prefix_refl _)
  have pn := PN.out
  rw [VM sr.1 (by omega), <- SW.out] at hc
  clear sr pn
  gi_wp2_with fail
  refine ⟨by simp, .inl ⟨_, _, rfl, run_takeDeferred hK, ?_⟩⟩
  exact ⟨_, results_tmp rfl _ _ _, rfl, hB1.trans (belowK_b (w := w) zdZ W D _ _ (by have := HB.size; omega) hK rfl rfl)⟩
 case stop =>
  rintro D c pre W _ _ h _
  exact h.elim
theorem VN (s : ByteArray) (hs : s.size <= 1000000000000) (w : World) : Calls Tryz.prog 97 #[.string s] w fun e w' => e = .returned (.int .i64 (zq s)) /\ Below w.heap.size w w' :=
 callsIn_wide.1 (zc3 5 (by decide) s hs w)
end
section
open Go.RowKit Go.Sort
theorem Jq (t : ByteArray) (f lo hi i : Nat) (n : ¬ i = t.size) (h : ¬ (byt t i < lo \/ hi < byt t i)) : goO t (f + 1) lo hi i = goO t f 128 191 (i + 1) := by
 show (if i = t.size then true else if byt t i < lo \/ hi < byt t i then false else goO t f 128 191 (i + 1)) = _
 rw [if_neg n, if_neg h]
set_option maxHeartbeats 8000000 in
set_option maxRecDepth 100000 in
theorem d_firstF (t : ByteArray) (ht : 0 < t.size) (hs : t.size <= 281474976710656) (b : Nat) (w : World) (hc : ∀ i, i < t.size -> Calls Tryz.prog 75 #[.int .i64 (i : Int), .pointer (some ⟨b, 0, none⟩)] w fun e w' => e = .returned (.int .u8 (byt t i)) /\ w' = w) :
  Calls Tryz.prog 74 #[.func (.func 75) #[] #[.pointer (some ⟨b, 0, none⟩)], .int .i64 (t.size : Int)] w fun e w' => e = .returned (.tuple #[.int .i32 ((decB t).1 : Int), .int .i64 ((decB t).2 : Int), .bool (qT t)]) /\ w' = w := by
 have DB : Hid (decB t = if (zf (byt t 0)).1 = 0 then (65533, 1) else if (zf (byt t 0)).1 = 1 then (byt t 0, 1)
  else goN t (zf (byt t 0)).1 ((zf (byt t 0)).1 - 1) (zf (byt t 0)).2.1 (zf (byt t 0)).2.2 (byt t 0 % 2 ^ (7 - (zf (byt t 0)).1)) 1) := zdX rfl
 have OB : Hid (qT t = (decide (2 <= (zf (byt t 0)).1) && goO t ((zf (byt t 0)).1 - 1) (zf (byt t 0)).2.1 (zf (byt t 0)).2.2 1)) := zdX rfl
 have AT := zdX hc
 have HS := zdX hs
 have A0 := zdX (AT.out 0 ht)
 have b0 := xy t 0
 have LD := zdX (d_lead (byt t 0) b0 w)
 have l4 := Zc (byt t 0)
 generalize decB t = D at *
 generalize qT t = O at *
 have m31 : bits .and .i32 (byt t 0 : Int) 31 = ((byt t 0 % 32 : Nat) : Int) := kQ _ 5 b0 (by decide)
 have m15 : bits .and .i32 (byt t 0 : Int) 15 = ((byt t 0 % 16 : Nat) : Int) := kQ _ 4 b0 (by decide)
 have m7 : bits .and .i32 (byt t 0 : Int) 7 = ((byt t 0 % 8 : Nat) : Int) := kQ _ 3 b0 (by decide)
 generalize byt t 0 = y0 at *
 generalize zf y0 = L at *
 obtain ⟨n, lo, hi⟩ := L
 obtain ⟨sz, hsz⟩ : ∃ sz, sz = t.size := ⟨_, rfl⟩
 have HZ := zdX hsz
 rw [<- hsz] at ht hs AT ⊢
 clear hsz hs hc
 simp only at l4 DB LD OB
 go_enter Tryz.func74, Tryz.ntmps74
 go_wp2_with fail
 refine A0.out.mono ?_; rintro e w' ⟨rfl, rfl⟩
 go_wp2_with fail
 refine LD.out.mono ?_; rintro e w' ⟨rfl, rfl⟩
 have N : n = 0 \/ n = 1 \/ n = 2 \/ n = 3 \/ n = 4 := by omega
 rcases N with rfl | rfl | rfl | rfl | rfl
 ·have R : Hid (D = (65533, 1)) := zdX (by rw [DB.out, if_pos rfl])
  have RO : Hid (O = false) := zdX (by rw [OB.out]; rfl)
  go_wp2_with fail
  exact bodyPost_ret (v := .tuple #[.int .i32 65533, .int .i64 1, .bool false]) (by simp [results, Tryz.results74, go_sem]) rfl ⟨by rw [R.out, RO.out]; rfl, rfl⟩
 ·have R : Hid (D = (y0, 1)) := zdX (by rw [DB.out, if_neg (by decide), if_pos rfl])
  have RO : Hid (O = false) := zdX (by rw [OB.out]; rfl)
  go_wp2_with fail
  exact bodyPost_ret (v := .tuple #[.int .i32 y0, .int .i64 1, .bool false]) (by simp [results, Tryz.results74, go_sem]) rfl ⟨by rw [R.out, RO.out]; rfl, rfl⟩
 ·have R : Hid (D = goN t 2 1 lo hi (y0 % 32) 1) := zdX (by rw [DB.out, if_neg (by decide), if_neg (by decide)])
  have RO : Hid (O = goO t 1 lo hi 1) := zdX (by rw [OB.out]; rfl)
  go_wp2_with fail
  go_loopw [9, 10, 11, 12, 13] (fun s9 s10 s11 s12 s13 wr => ∃ i lo' hi' r : Nat, 1 <= i /\ i <= 2 /\ i <= sz /\ s9 = .int .u8 (lo' : Int) /\ s10 = .int .u8 (hi' : Int) /\ s11 = .int .i32 (r : Int) /\ s12 = .int .i64 (i : Int) /\ wr = w' /\ Hid (r < 2 ^ (21 - 6 * (2 - i)) /\ goN t 2 (2 - i) lo' hi' r i = D /\ goO t (2 - i) lo' hi' i = O)) (fun _ _ _ s12 _ _ => 2 - (intOf s12).toNat)
  case atStart => exact ⟨1, lo, hi, y0 % 32, by decide, by decide, by omega, rfl, rfl, by simp, rfl, rfl, zdX ⟨by have := Nat.mod_lt y0 (show 0 < 32 by decide); simp; omega, by rw [R.out], by rw [RO.out]⟩⟩
  case round =>
   obtain ⟨i, lo', hi', r, h1, h2, h3, rfl, rfl, rfl, rfl, rfl, hG⟩ := hrel
   by_cases lt : i < 2
   ·have FU : 2 - i = (2 - (i + 1)) + 1 := by omega
    by_cases e : i = sz
    ·subst e
     have R2 : Hid (D = (65533, i)) := zdX (by rw [<- hG.out.2.1, FU]; exact xZ _ _ _ _ _ _ _ HZ.out)
     have RO2 : Hid (O = true) := zdX (by rw [<- hG.out.2.2, FU]; unfold goO; rw [if_pos HZ.out])
     clear FU
     go_wp2_with fail
     exact bodyPost_ret (v := .tuple #[.int .i32 65533, .int .i64 (i : Int), .bool true]) (by simp [results, Tryz.results74, go_sem]) rfl ⟨by rw [R2.out, RO2.out]; rfl, rfl⟩
    ·have lz : i < sz := by omega
     have ne : ((i : Int) == (sz : Int)) = false := by simp; omega
     have A1 := zdX (AT.out i lz)
     have cl := xy t i
     have nz : ¬ i = t.size := by rw [<- HZ.out]; exact e
     have BAD : Hid (byt t i < lo' \/ hi' < byt t i -> D = (65533, i)) := zdX fun hb => by rw [<- hG.out.2.1, FU]; exact xI _ _ _ _ _ _ _ nz hb
     have GOOD : Hid (¬ (byt t i < lo' \/ hi' < byt t i) -> goN t 2 (2 - (i + 1)) 128 191 (r * 64 + byt t i % 64) (i + 1) = D) := zdX fun hb => by rw [<- hG.out.2.1, FU]; exact (jh _ _ _ _ _ _ _ nz hb).symm
     have BADO : Hid (byt t i < lo' \/ hi' < byt t i -> O = false) := zdX fun hb => by rw [<- hG.out.2.2, FU]; unfold goO; rw [if_neg nz, if_pos hb]
     have GOODO : Hid (¬ (byt t i < lo' \/ hi' < byt t i) -> goO t (2 - (i + 1)) 128 191 (i + 1) = O) := zdX fun hb => by rw [<- hG.out.2.2, FU]; exact (Jq _ _ _ _ _ nz hb).symm
     clear FU nz
     generalize byt t i = c at *
     by_cases c1 : c < lo'
     ·have R2 : Hid (D = (65533, i)) := zdX (BAD.out (Or.inl c1))
      have RO2 : Hid (O = false) := zdX (BADO.out (Or.inl c1))
      go_wp2_with fail
      refine A1.out.mono ?_; rintro e' w' ⟨rfl, rfl⟩
      go_wp2_with fail
      exact bodyPost_ret (v := .tuple #[.int .i32 65533, .int .i64 (i : Int), .bool false]) (by simp [results, Tryz.results74, go_sem]) rfl ⟨by rw [R2.out, RO2.out]; rfl, rfl⟩
     ·by_cases c2 : hi' < c
      ·have R2 : Hid (D = (65533, i)) := zdX (BAD.out (Or.inr c2))
       have RO2 : Hid (O = false) := zdX (BADO.out (Or.inr c2))
       go_wp2_with fail
       refine A1.out.mono ?_; rintro e' w' ⟨rfl, rfl⟩
       go_wp2_with fail
       exact bodyPost_ret (v := .tuple #[.int .i32 65533, .int .i64 (i : Int), .bool false]) (by simp [results, Tryz.results74, go_sem]) rfl ⟨by rw [R2.out, RO2.out]; rfl, rfl⟩
      ·have GO := zdX (GOOD.out (fun h => h.elim c1 c2))
       have GOO := zdX (GOODO.out (fun h => h.elim c1 c2))
       have rb : r < 32768 := by
        have := hG.out.1
        have q : 2 - i = 1 \/ 2 - i = 2 \/ 2 - i = 3 := by omega
        rcases q with q | q | q <;> rw [q] at this <;> simp at this <;> omega
       have rb2 : Hid (r * 64 + c % 64 < 2 ^ (21 - 6 * (2 - (i + 1)))) := zdX (by
        have := hG.out.1
        have q : 2 - i = 1 \/ 2 - i = 2 \/ 2 - i = 3 := by omega
        rcases q with q | q | q <;> rw [q] at this <;> (rw [show 2 - (i + 1) = 2 - i - 1 by omega, q]) <;> simp at this ⊢ <;> omega)
       have f1 := kR c cl
       have f2 := kS r c (by omega)
       have f3 : IntKind.i32.wrap ((r : Int) * 64) = ((r * 64 : Nat) : Int) := by rw [IntKind.wrap_i32]; omega
       clear BAD GOOD BADO GOODO hG
       go_wp2_with fail
       refine A1.out.mono ?_; rintro e' w' ⟨rfl, rfl⟩
       go_wp2_with fail
       go_roundw
       case rel => exact ⟨i + 1, 128, 191, r * 64 + c % 64, by omega, by omega, by omega, rfl, rfl, by go_num, by go_num, trivial, zdX ⟨rb2.out, GO.out, GOO.out⟩⟩
       case measure => simp [intOf]; omega
   ·have ei : i = 2 := by omega
    subst ei
    have R2 : Hid (D = (r, 2)) := zdX (by rw [<- hG.out.2.1, Nat.sub_self]; rfl)
    have RO2 : Hid (O = false) := zdX (by rw [<- hG.out.2.2, Nat.sub_self]; rfl)
    go_wp2_with fail
    exact bodyPost_ret (v := .tuple #[.int .i32 (r : Int), .int .i64 2, .bool false]) (by simp [results, Tryz.results74, go_sem]) rfl ⟨by rw [R2.out, RO2.out]; rfl, rfl⟩
 ·have R : Hid (D = goN t 3 2 lo hi (y0 % 16) 1) := zdX (by rw [DB.out, if_neg (by decide), if_neg (by decide)])
  have RO : Hid (O = goO t 2 lo hi 1) := zdX (by rw [OB.out]; rfl)
  go_wp2_with fail
  go_loopw [9, 10, 11, 12, 13] (fun s9 s10 s11 s12 s13 wr => ∃ i lo' hi' r : Nat, 1 <= i /\ i <= 3 /\ i <= sz /\ s9 = .int .u8 (lo' : Int) /\ s10 = .int .u8 (hi' : Int) /\ s11 = .int .i32 (r : Int) /\ s12 = .int .i64 (i : Int) /\ wr = w' /\ Hid (r < 2 ^ (21 - 6 * (3 - i)) /\ goN t 3 (3 - i) lo' hi' r i = D /\ goO t (3 - i) lo' hi' i = O)) (fun _ _ _ s12 _ _ => 3 - (intOf s12).toNat)
  case atStart => exact ⟨1, lo, hi, y0 % 16, by decide, by decide, by omega, rfl, rfl, by simp, rfl, rfl, zdX ⟨by have := Nat.mod_lt y0 (show 0 < 16 by decide); simp; omega, by rw [R.out], by rw [RO.out]⟩⟩
  case round =>
   obtain ⟨i, lo', hi', r, h1, h2, h3, rfl, rfl, rfl, rfl, rfl, hG⟩ := hrel
   by_cases lt : i < 3
   ·have FU : 3 - i = (3 - (i + 1)) + 1 := by omega
    by_cases e : i = sz
    ·subst e
     have R2 : Hid (D = (65533, i)) := zdX (by rw [<- hG.out.2.1, FU]; exact xZ _ _ _ _ _ _ _ HZ.out)
     have RO2 : Hid (O = true) := zdX (by rw [<- hG.out.2.2, FU]; unfold goO; rw [if_pos HZ.out])
     clear FU
     go_wp2_with fail
     exact bodyPost_ret (v := .tuple #[.int .i32 65533, .int .i64 (i : Int), .bool true]) (by simp [results, Tryz.results74, go_sem]) rfl ⟨by rw [R2.out, RO2.out]; rfl, rfl⟩
    ·have lz : i < sz := by omega
     have ne : ((i : Int) == (sz : Int)) = false := by simp; omega
     have A1 := zdX (AT.out i lz)
     have cl := xy t i
     have nz : ¬ i = t.size := by rw [<- HZ.out]; exact e
     have BAD : Hid (byt t i < lo' \/ hi' < byt t i -> D = (65533, i)) := zdX fun hb => by rw [<- hG.out.2.1, FU]; exact xI _ _ _ _ _ _ _ nz hb
     have GOOD : Hid (¬ (byt t i < lo' \/ hi' < byt t i) -> goN t 3 (3 - (i + 1)) 128 191 (r * 64 + byt t i % 64) (i + 1) = D) := zdX fun hb => by rw [<- hG.out.2.1, FU]; exact (jh _ _ _ _ _ _ _ nz hb).symm
     have BADO : Hid (byt t i < lo' \/ hi' < byt t i -> O = false) := zdX fun hb => by rw [<- hG.out.2.2, FU]; unfold goO; rw [if_neg nz, if_pos hb]
     have GOODO : Hid (¬ (byt t i < lo' \/ hi' < byt t i) -> goO t (3 - (i + 1)) 128 191 (i + 1) = O) := zdX fun hb => by rw [<- hG.out.2.2, FU]; exact (Jq _ _ _ _ _ nz hb).symm
     clear FU nz
     generalize byt t i = c at *
     by_cases c1 : c < lo'
     ·have R2 : Hid (D = (65533, i)) := zdX (BAD.out (Or.inl c1))
      have RO2 : Hid (O = false) := zdX (BADO.out (Or.inl c1))
      go_wp2_with fail
      refine A1.out.mono ?_; rintro e' w' ⟨rfl, rfl⟩
      go_wp2_with fail
      exact bodyPost_ret (v := .tuple #[.int .i32 65533, .int .i64 (i : Int), .bool false]) (by simp [results, Tryz.results74, go_sem]) rfl ⟨by rw [R2.out, RO2.out]; rfl, rfl⟩
     ·by_cases c2 : hi' < c
      ·have R2 : Hid (D = (65533, i)) := zdX (BAD.out (Or.inr c2))
       have RO2 : Hid (O = false) := zdX (BADO.out (Or.inr c2))
       go_wp2_with fail
       refine A1.out.mono ?_; rintro e' w' ⟨rfl, rfl⟩
       go_wp2_with fail
       exact bodyPost_ret (v := .tuple #[.int .i32 65533, .int .i64 (i : Int), .bool false]) (by simp [results, Tryz.results74, go_sem]) rfl ⟨by rw [R2.out, RO2.out]; rfl, rfl⟩
      ·have GO := zdX (GOOD.out (fun h => h.elim c1 c2))
       have GOO := zdX (GOODO.out (fun h => h.elim c1 c2))
       have rb : r < 32768 := by
        have := hG.out.1
        have q : 3 - i = 1 \/ 3 - i = 2 \/ 3 - i = 3 := by omega
        rcases q with q | q | q <;> rw [q] at this <;> simp at this <;> omega
       have rb2 : Hid (r * 64 + c % 64 < 2 ^ (21 - 6 * (3 - (i + 1)))) := zdX (by
        have := hG.out.1
        have q : 3 - i = 1 \/ 3 - i = 2 \/ 3 - i = 3 := by omega
        rcases q with q | q | q <;> rw [q] at this <;> (rw [show 3 - (i + 1) = 3 - i - 1 by omega, q]) <;> simp at this ⊢ <;> omega)
       have f1 := kR c cl
       have f2 := kS r c (by omega)
       have f3 : IntKind.i32.wrap ((r : Int) * 64) = ((r * 64 : Nat) : Int) := by rw [IntKind.wrap_i32]; omega
       clear BAD GOOD BADO GOODO hG
       go_wp2_with fail
       refine A1.out.mono ?_; rintro e' w' ⟨rfl, rfl⟩
       go_wp2_with fail
       go_roundw
       case rel => exact ⟨i + 1, 128, 191, r * 64 + c % 64, by omega, by omega, by omega, rfl, rfl, by go_num, by go_num, trivial, zdX ⟨rb2.out, GO.out, GOO.out⟩⟩
       case measure => simp [intOf]; omega
   ·have ei : i = 3 := by omega
    subst ei
    have R2 : Hid (D = (r, 3)) := zdX (by rw [<- hG.out.2.1, Nat.sub_self]; rfl)
    have RO2 : Hid (O = false) := zdX (by rw [<- hG.out.2.2, Nat.sub_self]; rfl)
    go_wp2_with fail
    exact bodyPost_ret (v := .tuple #[.int .i32 (r : Int), .int .i64 3, .bool false]) (by simp [results, Tryz.results74, go_sem]) rfl ⟨by rw [R2.out, RO2.out]; rfl, rfl⟩
 ·have R : Hid (D = goN t 4 3 lo hi (y0 % 8) 1) := zdX (by rw [DB.out, if_neg (by decide), if_neg (by decide)])
  have RO : Hid (O = goO t 3 lo hi 1) := zdX (by rw [OB.out]; rfl)
  go_wp2_with fail
  go_loopw [9, 10, 11, 12, 13] (fun s9 s10 s11 s12 s13 wr => ∃ i lo' hi' r : Nat, 1 <= i /\ i <= 4 /\ i <= sz /\ s9 = .int .u8 (lo' : Int) /\ s10 = .int .u8 (hi' : Int) /\ s11 = .int .i32 (r : Int) /\ s12 = .int .i64 (i : Int) /\ wr = w' /\ Hid (r < 2 ^ (21 - 6 * (4 - i)) /\ goN t 4 (4 - i) lo' hi' r i = D /\ goO t (4 - i) lo' hi' i = O)) (fun _ _ _ s12 _ _ => 4 - (intOf s12).toNat)
  case atStart => exact ⟨1, lo, hi, y0 % 8, by decide, by decide, by omega, rfl, rfl, by simp, rfl, rfl, zdX ⟨by have := Nat.mod_lt y0 (show 0 < 8 by decide); simp; omega, by rw [R.out], by rw [RO.out]⟩⟩
  case round =>
   obtain ⟨i, lo', hi', r, h1, h2, h3, rfl, rfl, rfl, rfl, rfl, hG⟩ := hrel
   by_cases lt : i < 4
   ·have FU : 4 - i = (4 - (i + 1)) + 1 := by omega
    by_cases e : i = sz
    ·subst e
     have R2 : Hid (D = (65533, i)) := zdX (by rw [<- hG.out.2.1, FU]; exact xZ _ _ _ _ _ _ _ HZ.out)
     have RO2 : Hid (O = true) := zdX (by rw [<- hG.out.2.2, FU]; unfold goO; rw [if_pos HZ.out])
     clear FU
     go_wp2_with fail
     exact bodyPost_ret (v := .tuple #[.int .i32 65533, .int .i64 (i : Int), .bool true]) (by simp [results, Tryz.results74, go_sem]) rfl ⟨by rw [R2.out, RO2.out]; rfl, rfl⟩
    ·have lz : i < sz := by omega
     have ne : ((i : Int) == (sz : Int)) = false := by simp; omega
     have A1 := zdX (AT.out i lz)
     have cl := xy t i
     have nz : ¬ i = t.size := by rw [<- HZ.out]; exact e
     have BAD : Hid (byt t i < lo' \/ hi' < byt t i -> D = (65533, i)) := zdX fun hb => by rw [<- hG.out.2.1, FU]; exact xI _ _ _ _ _ _ _ nz hb
     have GOOD : Hid (¬ (byt t i < lo' \/ hi' < byt t i) -> goN t 4 (4 - (i + 1)) 128 191 (r * 64 + byt t i % 64) (i + 1) = D) := zdX fun hb => by rw [<- hG.out.2.1, FU]; exact (jh _ _ _ _ _ _ _ nz hb).symm
     have BADO : Hid (byt t i < lo' \/ hi' < byt t i -> O = false) := zdX fun hb => by rw [<- hG.out.2.2, FU]; unfold goO; rw [if_neg nz, if_pos hb]
     have GOODO : Hid (¬ (byt t i < lo' \/ hi' < byt t i) -> goO t (4 - (i + 1)) 128 191 (i + 1) = O) := zdX fun hb => by rw [<- hG.out.2.2, FU]; exact (Jq _ _ _ _ _ nz hb).symm
     clear FU nz
     generalize byt t i = c at *
     by_cases c1 : c < lo'
     ·have R2 : Hid (D = (65533, i)) := zdX (BAD.out (Or.inl c1))
      have RO2 : Hid (O = false) := zdX (BADO.out (Or.inl c1))
      go_wp2_with fail
      refine A1.out.mono ?_; rintro e' w' ⟨rfl, rfl⟩
      go_wp2_with fail
      exact bodyPost_ret (v := .tuple #[.int .i32 65533, .int .i64 (i : Int), .bool false]) (by simp [results, Tryz.results74, go_sem]) rfl ⟨by rw [R2.out, RO2.out]; rfl, rfl⟩
     ·by_cases c2 : hi' < c
      ·have R2 : Hid (D = (65533, i)) := zdX (BAD.out (Or.inr c2))
       have RO2 : Hid (O = false) := zdX (BADO.out (Or.inr c2))
       go_wp2_with fail
       refine A1.out.mono ?_; rintro e' w' ⟨rfl, rfl⟩
       go_wp2_with fail
       exact bodyPost_ret (v := .tuple #[.int .i32 65533, .int .i64 (i : Int), .bool false]) (by simp [results, Tryz.results74, go_sem]) rfl ⟨by rw [R2.out, RO2.out]; rfl, rfl⟩
      ·have GO := zdX (GOOD.out (fun h => h.elim c1 c2))
       have GOO := zdX (GOODO.out (fun h => h.elim c1 c2))
       have rb : r < 32768 := by
        have := hG.out.1
        have q : 4 - i = 1 \/ 4 - i = 2 \/ 4 - i = 3 := by omega
        rcases q with q | q | q <;> rw [q] at this <;> simp at this <;> omega
       have rb2 : Hid (r * 64 + c % 64 < 2 ^ (21 - 6 * (4 - (i + 1)))) := zdX (by
        have := hG.out.1
        have q : 4 - i = 1 \/ 4 - i = 2 \/ 4 - i = 3 := by omega
        rcases q with q | q | q <;> rw [q] at this <;> (rw [show 4 - (i + 1) = 4 - i - 1 by omega, q]) <;> simp at this ⊢ <;> omega)
       have f1 := kR c cl
       have f2 := kS r c (by omega)
       have f3 : IntKind.i32.wrap ((r : Int) * 64) = ((r * 64 : Nat) : Int) := by rw [IntKind.wrap_i32]; omega
       clear BAD GOOD BADO GOODO hG
       go_wp2_with fail
       refine A1.out.mono ?_; rintro e' w' ⟨rfl, rfl⟩
       go_wp2_with fail
       go_roundw
       case rel => exact ⟨i + 1, 128, 191, r * 64 + c % 64, by omega, by omega, by omega, rfl, rfl, by go_num, by go_num, trivial, zdX ⟨rb2.out, GO.out, GOO.out⟩⟩
       case measure => simp [intOf]; omega
   ·have ei : i = 4 := by omega
    subst ei
    have R2 : Hid (D = (r, 4)) := zdX (by rw [<- hG.out.2.1, Nat.sub_self]; rfl)
    have RO2 : Hid (O = false) := zdX (by rw [<- hG.out.2.2, Nat.sub_self]; rfl)
    go_wp2_with fail
    exact bodyPost_ret (v := .tuple #[.int .i32 (r : Int), .int .i64 4, .bool false]) (by simp [results, Tryz.results74, go_sem]) rfl ⟨by rw [R2.out, RO2.out]; rfl, rfl⟩
end
section
open Go Go.RowKit Go.Sort
section
variable {P : Program} {ops : Array Oper} {ts : List Tmp} {R : Tmp -> Value -> World -> Prop}
theorem vc {w0 : World} {K0 : Act -> Prop} {b : Act} {o : Oper} {rest : List Oper} (t d : Tmp) (hm : t ∈ ts) (hs : t < b.tmps.size) (hb : b.tmps.getD t undef = tokV) (hd : o.dst = some d) (hmd : d ∈ ts) (hsd : d < b.tmps.size) (hw : Region.wanted o (yielded ops b.tmps) = true)
  (hin : (o.looksAt ops).contains t = true) (hp : (o.looksAt ops).all (fun s => s == t || !ts.contains s) = true) (hsel : ∀ cs d, o.op ≠ .select cs d)
  (h : ∀ (p : Regrown) u, R t u (grow (redrawn w0 p.d) p.os) -> jM P (grow (redrawn w0 p.d) p.os) (R d) ((execOp (b.put (some t) u).eval o).run P (grow (redrawn w0 p.d) p.os)))
  (k : wpS P ops (qX w0) ts R K0 rest (b.put o.dst tokV)) : wpS P ops (qX w0) ts R K0 (o :: rest) b := by
 refine ⟨tokV, Or.inl ⟨hw, Or.inr ⟨rfl, d, hmd, hd, hsd, fun w a hC hl => ?_⟩⟩, k⟩
 obtain ⟨p, rfl⟩ := hC
 have ht : t ∈ o.looksAt ops := by simpa using hin
 have r : R t (a.tmps.getD t undef) (grow (redrawn w0 p.d) p.os) := by
  rcases hl t ht with ⟨_, _, r⟩ | ⟨n, _⟩
  ·exact r
  ·exact absurd ⟨hm, hb⟩ n
 have e : execOp a.eval o = execOp (b.put (some t) (a.tmps.getD t undef)).eval o := by
  refine execOp_congr o hsel fun x hx => ?_
  cases x with
  | tmp s =>
   have m : s ∈ o.looksAt ops := List.mem_append_left _ (List.mem_filterMap.2 ⟨.tmp s, by simpa using hx, rfl⟩)
   show a.tmps.getD s undef = (b.put (some t) (a.tmps.getD t undef)).tmps.getD s undef
   rw [kM]
   by_cases q : t = s
   ·subst q; rw [if_pos ⟨rfl, hs⟩]
   ·rw [if_neg (fun z => q (Option.some.inj z.1))]
    have := List.all_eq_true.1 hp s m
    rcases hl s m with ⟨z, _⟩ | ⟨_, z⟩
    ·simp [Ne.symm q] at this; exact absurd z this
    ·exact z
  | _ => rfl
 rw [e]
 exact h p _ r
end
def emptyS (B : Nat) (T : TypeId) : Spec := ⟨fun v w => ∃ g, v = .slice (some ⟨g, 0, none⟩) 0 0 /\ B <= g /\ w.heap[g]? = some (.cells #[] T (0, 0)), fun v w w' hb ⟨g, e, h1, h2⟩ => ⟨g, e, h1, (hb.block g (Array.getElem?_eq_some_iff.1 h2).1).trans h2⟩⟩
theorem ve {B sz n : Nat} {T : TypeId} {v : Value} {xs : List Value} {w w' : World} (hb : Below w.heap.size w w') (h : w.ownsRow B T sz v n xs) : w'.ownsRow B T sz v n xs := by
 refine ⟨h.1, ?_⟩
 rcases h.2 with a | ⟨g, cap, cur, h1, h2, h3, h4⟩
 ·exact Or.inl a
 ·exact Or.inr ⟨g, cap, cur, h1, h2, (hb.block g (Array.getElem?_eq_some_iff.1 h3).1).trans h3, h4⟩
def rowS (B : Nat) (T : TypeId) (sz n : Nat) (xs : List Value) : Spec := ⟨fun v w => w.ownsRow B T sz v n xs /\ ∃ g c, v = .slice (some ⟨g, 0, none⟩) n c, fun v w w' hb ⟨h, q⟩ => ⟨ve hb h, q⟩⟩
def boxS (B : Nat) (T : TypeId) : Spec := ⟨fun v w => ∃ g x, v = .pointer (some ⟨g, 0, none⟩) /\ B <= g /\ w.heap[g]? = some (.cells #[x] T (0, 0)), fun v w w' hb ⟨g, x, e, h1, h2⟩ => ⟨g, x, e, h1, (hb.block g (Array.getElem?_eq_some_iff.1 h2).1).trans h2⟩⟩
theorem vg : (Tryz.prog.info? 5).map (fun i => (i.zero, i.size, i.bytes)) = some (some (.int .u8 0), 1, 1) := by kernel_rfl
theorem VO {w : World} {B g : Nat} (hg : w.heap[g]? = some (.cells #[] 5 (0, 0))) (hB : B <= g) (hB2 : B <= w.heap.size) (ad : Addr) (m c : Nat) (news : List Value) (hl : news.length = m) (hn : ∀ j u, news[j]? = some u -> w.cell? (ad.add j) = some u) (h1 : ∀ u ∈ news, u.oneCell' = true) (hm : m <= 1000) :
  ∃ v' w', (Builtin.append_ #[27, 27] 27 #[.slice (some ⟨g, 0, none⟩) 0 0, .slice (some ad) m c]).run Tryz.prog w = .ok v' w' /\ Below w.heap.size w w' /\ w'.ownsRow B 5 1 v' m news /\ ∃ g c, v' = .slice (some ⟨g, 0, none⟩) m c := by
 obtain ⟨i0, hi, hz0, hz1, hz2⟩ := info_parts vg
 by_cases z : m = 0
 ·subst z
  have nn : news = [] := List.length_eq_zero_iff.1 hl
  subst nn
  have := run_append_room_cells (P := Tryz.prog) w 27 27 5 i0 Tryz.underlying27 hi g 0 0 0 ad 0 c [] (by simp) (by simp) (by simp) (by omega) (by simp) (by simp)
  refine ⟨_, _, this, ?_, ⟨by simp, Or.inr ⟨g, 0, #[], rfl, hB, ?_, zdZ, by decide, by simp, by simp⟩⟩, g, 0, rfl⟩
  ·simp [World.setCells, Below.refl]
  ·simpa [World.setCells] using hg
 ·obtain ⟨v', w', hr, ho, hgr⟩ := run_append_arg_grows (P := Tryz.prog) w 27 27 5 i0 (.int .u8 0) 1 1 Tryz.underlying27 hi hz0 hz1 hz2 rfl (by decide) ⟨g, 0, none⟩ 0 0 [] (by simp) (by simp) ad m c news (by omega) hn (by omega) (by unfold maxLen; omega) (by omega)
  rw [Nat.zero_add] at ho
  rw [List.nil_append] at ho
  refine ⟨v', w', hr, ⟨hgr.os, hgr.tape, hgr.output, hgr.size, fun k hk => hgr.block k hk (by simp)⟩, ?_, ?_⟩
  ·refine ⟨ho.1, ?_⟩
   rcases ho.2 with a | ⟨g, cap, cur, h1, h2, h3⟩
   ·omega
   ·exact Or.inr ⟨g, cap, cur, h1, Nat.le_trans hB2 h2, h3⟩
  ·rcases ho.2 with a | ⟨g, cap, cur, h1, h2, h3⟩
   ·omega
   ·exact ⟨g, cap, h1⟩
theorem d_uNew (W : World) : Calls Tryz.prog 56 #[] W fun e w' => e = .returned (.pointer (some ⟨W.heap.size, 0, none⟩)) /\ w' = W.alloc (.cells #[.int .u8 0, .int .u8 0, .int .u8 0, .int .u8 0, .int .i64 0] 116) := by
 go_enter Tryz.func56, Tryz.ntmps56
 go_wp2_with fail
 go_ret
 exact ⟨rfl, rfl⟩
theorem d_Held (u : Nat) (vs : List Value) (n : Int) (W : World) (hd : Bk W u vs 116) (h4 : vs[4]? = some (.int .i64 n)) : Calls Tryz.prog 67 #[.pointer (some ⟨u, 0, none⟩)] W fun e w' => e = .returned (.int .i64 n) /\ w' = W := by
 have k := hd.c 4 _ h4
 go_enter Tryz.func67, Tryz.ntmps67
 go_wp2_with fail
 go_ret
 exact ⟨rfl, rfl⟩
theorem strc_at (s : ByteArray) (i : Nat) (h : i < s.size) : (Lib.strCells s)[i]? = some (.int .u8 (byt s i)) := by
 unfold Lib.strCells byt
 rw [List.getElem?_map, List.getElem?_eq_getElem (by simpa using h)]
 simp [kB s i h]
 rfl
theorem d_at2 (t : ByteArray) (b i : Nat) (hi : i < t.size) (A : Option Addr) (c : Nat) (hc : t.size <= c) (w : World) (hb : w.cell? ⟨b, 0, none⟩ = some (.slice A t.size c)) (S : Sees w w.heap.size A (Lib.strCells t)) :
  Calls Tryz.prog 75 #[.int .i64 (i : Int), .pointer (some ⟨b, 0, none⟩)] w fun e w' => e = .returned (.int .u8 (byt t i)) /\ w' = w := by
 obtain ⟨ad, rfl, _, hcell⟩ := S.at (k := i) (by rw [Lib.strCells_length]; exact hi)
 have e1 : (Lib.strCells t)[i]'(by rw [Lib.strCells_length]; exact hi) = .int .u8 (byt t i) := by
  have := strc_at t i hi
  rw [List.getElem?_eq_getElem (by rw [Lib.strCells_length]; exact hi)] at this
  exact Option.some.inj this
 rw [e1] at hcell
 have h0 : (0 : Int) <= (i : Int) := by omega
 have h1 : (i : Int) < (t.size : Int) := by omega
 clear S e1 hc
 generalize byt t i = y at *
 generalize t.size = n at *
 go_enter Tryz.func75, Tryz.ntmps75
 go_wp2_with fail
 go_ret
 exact ⟨rfl, rfl⟩
def cutB (A : Option Addr) (c P : Nat) : Option Addr := if c = P then A else A.map fun a => a.add P
theorem VQ (A : Option Addr) (n c P : Nat) (h : P <= n) (W : World) : (Instr.slice 27 (.slice A n c) (some (.int .i64 (P : Int))) none none).run Tryz.prog W = .ok (.slice (cutB A c P) (n - P) (c - P)) W := by
 rw [run_slice_l W 27 A n c (by kernel_rfl) .i64 (P : Int) (by omega) (by omega)]
 rw [Int.toNat_natCast]
 have sz : (sizeOf (Tryz.prog.elem 27)).run Tryz.prog W = .ok 1 W := by kernel_rfl
 rw [sz]
 have e : (if c = P then A else A.map fun a => a.add (P * 1)) = cutB A c P := by unfold cutB; rw [Nat.mul_one]
 rw [<- e]
 rfl
theorem VR (s : ByteArray) (k : Nat) : Lib.strCells (s.extract k s.size) = (Lib.strCells s).drop k := by
 unfold Lib.strCells
 rw [<- List.map_drop]
 congr 1
 rw [ByteArray.data_extract, Array.toList_extract]
 simp [List.extract]
 apply List.take_of_length_le
 simp
theorem zc4 {w : World} {B : Nat} {A : Option Addr} {s : ByteArray} (c P : Nat) (h : Sees w B A (Lib.strCells s)) (hc : s.size <= c) : Sees w B (cutB A c P) (Lib.strCells (s.extract P s.size)) := by
 rw [VR]
 unfold cutB
 by_cases e : c = P
 ·rw [if_pos e, List.drop_eq_nil_of_le (by rw [Lib.strCells_length]; omega)]
  exact Sees.nil _ _ _
 ·rw [if_neg e]
  intro hne
  have h2 : Lib.strCells s ≠ [] := fun z => hne (by rw [z]; simp)
  obtain ⟨ad, rfl, hb, hcell⟩ := h h2
  refine ⟨ad.add P, rfl, by rw [z8]; exact hb, fun j u hj => ?_⟩
  rw [List.getElem?_drop] at hj
  rw [Addr.add_add]
  exact hcell _ _ hj
theorem zc5 (f : Nat) (s : ByteArray) (h : s.size = 0) : zX f s = ([], zB) := by
 cases f with
 | zero => rfl
 | succ f => unfold zX; rw [if_pos h]
theorem zc6 (f : Nat) (s : ByteArray) (h : 0 < s.size) (o : qT s = true) : zX (f + 1) s = ([], s) := by unfold zX; rw [if_neg (by omega), if_pos o]
theorem cert_go (f : Nat) (s : ByteArray) (h : 0 < s.size) (o : qT s = false) : zX (f + 1) s = (((decB s).1 : Int) :: (zX f (s.extract (decB s).2 s.size)).1, (zX f (s.extract (decB s).2 s.size)).2) := by
 conv => lhs; unfold zX
 rw [if_neg (by omega), if_neg (by rw [o]; decide)]
structure FSt (W : World) (u Bx ga : Nat) (wr : World) (A : Option Addr) (c : Nat) (rest : ByteArray) (d : List Value) : Prop where
 mv : Mv [u] W wr
 dec : Bk wr u d 116
 ul : u < W.heap.size
 box : Bk wr Bx [.slice A rest.size c] 27
 lo : W.heap.size <= Bx
 cap : rest.size <= c
 sees : Sees wr wr.heap.size A (Lib.strCells rest)
 gb : ∀ ad, A = some ad -> ad.block = ga
 ty : ∃ cur, wr.heap[ga]? = some (.cells cur 5 (0, 0))
theorem FSt.keep {W : World} {u Bx ga : Nat} {wr wr' : World} {A : Option Addr} {c : Nat} {rest : ByteArray} {d : List Value} (h : FSt W u Bx ga wr A c rest d) (m : Mv [u] W wr') (hs : wr.heap.size <= wr'.heap.size) (k : ∀ b, b = u \/ b = Bx \/ b = ga -> wr'.heap[b]? = wr.heap[b]?) : FSt W u Bx ga wr' A c rest d := by
 obtain ⟨cur, hg⟩ := h.ty
 refine ⟨m, h.dec.of_eq (k u (Or.inl rfl)), h.ul, h.box.of_eq (k Bx (Or.inr (Or.inl rfl))), h.lo, h.cap, ?_, h.gb, cur, (k ga (Or.inr (Or.inr rfl))).trans hg⟩
 intro hne
 obtain ⟨ad, rfl, hb, hc⟩ := h.sees hne
 refine ⟨ad, rfl, Nat.lt_of_lt_of_le hb hs, fun j x hj => ?_⟩
 have e : wr'.cell? (ad.add j) = wr.cell? (ad.add j) := World.cell?_of_block (by rw [z8, h.gb ad rfl]; exact k ga (Or.inr (Or.inr rfl)))
 rw [e]
 exact hc j x hj
theorem FSt.below {W : World} {u Bx ga : Nat} {wr wr' : World} {A : Option Addr} {c : Nat} {rest : ByteArray} {d : List Value} (h : FSt W u Bx ga wr A c rest d) (hb : Below wr.heap.size wr wr') : FSt W u Bx ga wr' A c rest d := by
 obtain ⟨cur, hg⟩ := h.ty
 refine h.keep (h.mv.trans (Mv.below (F := []) hb) (by simp)) hb.size (fun b hb2 => hb.block b ?_)
 rcases hb2 with rfl | rfl | rfl
 ·exact h.dec.lt
 ·exact h.box.lt
 ·exact (Array.getElem?_eq_some_iff.1 hg).1
theorem FSt.grown {W : World} {u Bx ga : Nat} {wr wr' : World} {A : Option Addr} {c : Nat} {rest : ByteArray} {d : List Value} (h : FSt W u Bx ga wr A c rest d) {v : Value} {B n : Nat} {xs : List Value} (ho : wr.ownsRow B 21 1 v n xs) (hB : W.heap.size <= B) (hg : wr.grownBy wr' v.ownBlock) : FSt W u Bx ga wr' A c rest d := by
 obtain ⟨cur, hgc⟩ := h.ty
 have ne : ∀ b T cu fl, wr.heap[b]? = some (.cells cu T fl) -> T ≠ 21 -> some b ≠ v.ownBlock := fun b T cu fl hb hT e => by
  rcases ho.2 with ⟨rfl, _⟩ | ⟨g, cap, cur', rfl, _, hg', _⟩
  ·cases e
  ·injection e with e
   subst e
   rw [hb] at hg'
   cases hg'
   exact hT rfl
 have ol : ∀ g, v.ownBlock = some g -> W.heap.size <= g := fun g e => Nat.le_trans hB (ho.lt g e).1
 refine h.keep ⟨hg.os.trans h.mv.os, hg.tape.trans h.mv.tape, hg.output.trans h.mv.output, Nat.le_trans h.mv.size hg.size, fun k hk hn => (hg.block k (Nat.lt_of_lt_of_le hk h.mv.size) (fun e => by have := ol k e.symm; omega)).trans (h.mv.blk k hk hn)⟩ hg.size (fun b hb => ?_)
 rcases hb with rfl | rfl | rfl
 ·have q := h.dec; unfold Bk at q; exact hg.block _ h.dec.lt (ne _ _ _ _ q (by decide))
 ·have q := h.box; unfold Bk at q; exact hg.block _ h.box.lt (ne _ _ _ _ q (by decide))
 ·exact hg.block _ (Array.getElem?_eq_some_iff.1 hgc).1 (ne _ _ _ _ hgc (by decide))
theorem FSt.lay {W : World} {u Bx ga : Nat} {wr : World} {A A' : Option Addr} {c c' : Nat} {rest rest' : ByteArray} {d : List Value} (h : FSt W u Bx ga wr A c rest d) (hc : rest'.size <= c') (hs : Sees wr wr.heap.size A' (Lib.strCells rest')) (hg : ∀ ad, A' = some ad -> ad.block = ga) : FSt W u Bx ga (wr.setCell ⟨Bx, 0, none⟩ (.slice A' rest'.size c')) A' c' rest' d := by
 obtain ⟨cur, hgc⟩ := h.ty
 have far : ∀ b, b ≠ Bx -> (wr.setCell ⟨Bx, 0, none⟩ (.slice A' rest'.size c')).heap[b]? = wr.heap[b]? := fun b hb => heap_setCell_other wr ⟨Bx, 0, none⟩ b _ hb
 have n1 : u ≠ Bx := by have := h.ul; have := h.lo; omega
 have n2 : ga ≠ Bx := h.box.ne hgc (by decide)
 refine ⟨⟨h.mv.os, h.mv.tape, h.mv.output, by simpa using h.mv.size, fun k hk hn => (far k (by have := h.lo; omega)).trans (h.mv.blk k hk hn)⟩, h.dec.of_eq (far u n1), h.ul, h.box.set 0 _, h.lo, hc, ?_, hg, cur, (far ga n2).trans hgc⟩
 intro hne
 obtain ⟨ad, rfl, hb, hcell⟩ := hs hne
 refine ⟨ad, rfl, by simpa using hb, fun j x hj => ?_⟩
 have e : (wr.setCell ⟨Bx, 0, none⟩ (.slice (some ad) rest'.size c')).cell? (ad.add j) = wr.cell? (ad.add j) := World.cell?_of_block (by rw [z8, hg ad rfl]; exact far ga n2)
 rw [e]
 exact hcell j x hj
theorem feed_arm {V1 w3 : World} {Bx g21 n c21 B m u : Nat} {d xs ys : List Value} {y v3 : Value} (X2 : Bk V1 Bx [y] 27) (D2 : Bk V1 u d 116) (O2 : V1.ownsRow B 5 1 (.slice (some ⟨g21, 0, none⟩) n c21) n ys) (h : w3.ownsRow B 5 1 v3 m xs) (hm : 0 < m) (hg : V1.grownBy w3 (Value.slice (some ⟨g21, 0, none⟩) n c21).ownBlock) :
  ∃ ga C cur, v3 = .slice (some ⟨ga, 0, none⟩) m C /\ B <= ga /\ m <= C /\ C <= maxLen /\ w3.heap[ga]? = some (.cells cur 5 (0, 0)) /\ Bk w3 Bx [y] 27 /\ Bk w3 u d 116 /\ ∀ j x, xs[j]? = some x -> w3.cell? ⟨ga, j, none⟩ = some x := by
 obtain ⟨cu, hcu⟩ := xT (qR O2 (Nat.zero_le _))
 have n1 : g21 ≠ Bx := X2.ne hcu (by decide)
 have n2 : g21 ≠ u := D2.ne hcu (by decide)
 have X3 : Bk w3 Bx [y] 27 := X2.of_eq (hg.block Bx X2.lt (by show some Bx ≠ some g21; intro e; exact n1 (Option.some.inj e).symm))
 have D3 : Bk w3 u d 116 := D2.of_eq (hg.block u D2.lt (by show some u ≠ some g21; intro e; exact n2 (Option.some.inj e).symm))
 rcases h.2 with ⟨_, z⟩ | ⟨ga, C, cur, rfl, h1, h2, h3, h4, h5⟩
 ·omega
 ·refine ⟨ga, C, cur, rfl, h1, h3, h4, h2, X3, D3, fun j x hj => ?_⟩
  have hj2 : j < m * 1 := by have := (List.getElem?_eq_some_iff.1 hj).1; have := h.1; omega
  exact (h.cellAt j hj2).trans hj
theorem zc7 {W V1 w3 : World} {Bx g21 n c21 u ga C : Nat} {x0 x1 x2 x3 x4 y : Value} {all : ByteArray} {cur : Array Value} {ys : List Value} (B2 : Below W.heap.size W V1) (O2 : V1.ownsRow W.heap.size 5 1 (.slice (some ⟨g21, 0, none⟩) n c21) n ys) (hg : V1.grownBy w3 (Value.slice (some ⟨g21, 0, none⟩) n c21).ownBlock) (ul : u < W.heap.size) (lo : W.heap.size <= Bx)
  (X3 : Bk w3 Bx [y] 27) (D3 : Bk w3 u [x0, x1, x2, x3, x4] 116) (ga0 : W.heap.size <= ga) (hga : w3.heap[ga]? = some (.cells cur 5 (0, 0))) (hC : all.size <= C) (hx : ∀ j x, (Lib.strCells all)[j]? = some x -> w3.cell? ⟨ga, j, none⟩ = some x) :
  FSt W u Bx ga ((w3.setCell ⟨Bx, 0, none⟩ (.slice (some ⟨ga, 0, none⟩) all.size C)).setCell ⟨u, 4, none⟩ (.int .i64 0)) (some ⟨ga, 0, none⟩) C all [x0, x1, x2, x3, .int .i64 0] := by
 have n1 : u ≠ Bx := by omega
 have n2 : ga ≠ Bx := X3.ne hga (by decide)
 have n3 : ga ≠ u := D3.ne hga (by decide)
 have hlo : ∀ g, (Value.slice (some ⟨g21, 0, none⟩) n c21).ownBlock = some g -> W.heap.size <= g := fun g e => (O2.lt g e).1
 have m3 : Mv [u] W w3 := ⟨hg.os.trans B2.os, hg.tape.trans B2.tape, hg.output.trans B2.output, Nat.le_trans B2.size hg.size, fun k hk _ => (hg.block k (Nat.lt_of_lt_of_le hk B2.size) (fun e => by have := hlo k e.symm; omega)).trans (B2.block k hk)⟩
 have f0 : FSt W u Bx ga w3 (some ⟨ga, 0, none⟩) C all [x0, x1, x2, x3, x4] \/ True := Or.inr trivial
 have farB : ∀ b, b ≠ Bx -> (w3.setCell ⟨Bx, 0, none⟩ (.slice (some ⟨ga, 0, none⟩) all.size C)).heap[b]? = w3.heap[b]? := fun b hb => heap_setCell_other w3 ⟨Bx, 0, none⟩ b _ hb
 obtain ⟨V, hV⟩ : ∃ V, V = w3.setCell ⟨Bx, 0, none⟩ (.slice (some ⟨ga, 0, none⟩) all.size C) := ⟨_, rfl⟩
 have XV : Bk V Bx [.slice (some ⟨ga, 0, none⟩) all.size C] 27 := by rw [hV]; exact X3.set 0 _
 have DV : Bk V u [x0, x1, x2, x3, x4] 116 := by rw [hV]; exact D3.of_eq (farB u n1)
 have GV : V.heap[ga]? = some (.cells cur 5 (0, 0)) := by rw [hV]; exact (farB ga n2).trans hga
 have SV : V.heap.size = w3.heap.size := by rw [hV]; simp
 have MV : Mv [u] W V := by
  rw [hV]
  exact ⟨m3.os, m3.tape, m3.output, by simpa using m3.size, fun k hk hn => (farB k (by omega)).trans (m3.blk k hk hn)⟩
 have CV : ∀ j, V.cell? ⟨ga, j, none⟩ = w3.cell? ⟨ga, j, none⟩ := fun j => World.cell?_of_block (by rw [hV]; exact farB ga n2)
 rw [<- hV]
 have farU : ∀ b, b ≠ u -> (V.setCell ⟨u, 4, none⟩ (.int .i64 0)).heap[b]? = V.heap[b]? := fun b hb => heap_setCell_other V ⟨u, 4, none⟩ b _ hb
 refine ⟨MV.trans (Mv.set (F := [u]) V (by simp)) (by intro b hb; exact Or.inl hb), DV.set 4 _, ul, XV.of_eq (farU Bx (fun e => n1 e.symm)), lo, hC, ?_, ?_, cur, (farU ga n3).trans GV⟩
 ·intro _
  refine ⟨⟨ga, 0, none⟩, rfl, ?_, fun j x hj => ?_⟩
  ·have := (Array.getElem?_eq_some_iff.1 GV).1
   simpa using this
  ·rw [jy, Nat.zero_add]
   have e : (V.setCell ⟨u, 4, none⟩ (.int .i64 0)).cell? ⟨ga, j, none⟩ = V.cell? ⟨ga, j, none⟩ := World.cell?_of_block (farU ga n3)
   rw [e, CV]
   exact hx j x hj
 ·intro ad e
  cases e
  rfl
theorem Jr (a b : ByteArray) : Lib.strCells (a ++ b) = Lib.strCells a ++ Lib.strCells b := by unfold Lib.strCells; simp [ByteArray.data_append]
def Js (W : World) (B : Nat) : Nat := match W.cell? ⟨B, 0, none⟩ with
 | some (.slice _ n _) => n
 | _ => 0
theorem FSt.len {W : World} {u Bx ga : Nat} {wr : World} {A : Option Addr} {c : Nat} {rest : ByteArray} {d : List Value} (h : FSt W u Bx ga wr A c rest d) : Js wr Bx = rest.size := by
 unfold Js
 rw [h.box.c 0 _ rfl]
theorem ZI (s : ByteArray) : ∃ l : List UInt8, s.data.toList = l /\ s.size = l.length /\ Lib.strCells s = l.map fun b => .int .u8 (bI b.toBitVec) := ⟨_, rfl, by rw [Array.length_toList]; rfl, rfl⟩
theorem dec_copy {W : World} {u : Nat} {b0 b1 b2 b3 : B8} {x4 : Value} {s : ByteArray} (h : Bk W u [.int .u8 (bI b0), .int .u8 (bI b1), .int .u8 (bI b2), .int .u8 (bI b3), x4] 116) (hs : s.size <= 3) (V : World)
  (hV : V = (W.setRow u (([.int .u8 (bI b0), .int .u8 (bI b1), .int .u8 (bI b2), .int .u8 (bI b3), x4].toArray : Array Value).toList.take 0 ++ Lib.strCells s ++ ([.int .u8 (bI b0), .int .u8 (bI b1), .int .u8 (bI b2), .int .u8 (bI b3), x4].toArray : Array Value).toList.drop (0 + (Lib.strCells s).length)).toArray).setCell ⟨u, 4, none⟩ (.int .i64 s.size)) : DecAt V u s := by
 obtain ⟨l, e1, e2, e3⟩ := ZI s
 rw [e2] at hs
 rw [e3, e2] at hV
 unfold Bk at h
 have key : ∀ c0 c1 c2 c3 : B8, ∀ z : Value, (W.setRow u (([.int .u8 (bI b0), .int .u8 (bI b1), .int .u8 (bI b2), .int .u8 (bI b3), x4].toArray : Array Value).toList.take 0 ++ (l.map fun b => Value.int .u8 (bI b.toBitVec)) ++ ([.int .u8 (bI b0), .int .u8 (bI b1), .int .u8 (bI b2), .int .u8 (bI b3), x4].toArray : Array Value).toList.drop (0 + (l.map fun b => Value.int .u8 (bI b.toBitVec)).length)).toArray).heap[u]? = some (.cells [.int .u8 (bI c0), .int .u8 (bI c1), .int .u8 (bI c2), .int .u8 (bI c3), z].toArray 116 (0, 0)) -> (l.map fun b => Value.int .u8 (bI b.toBitVec)) = [.int .u8 (bI c0), .int .u8 (bI c1), .int .u8 (bI c2), .int .u8 (bI c3)].take l.length -> DecAt V u s := fun c0 c1 c2 c3 z hk hl => by
  refine ⟨c0, c1, c2, c3, ?_, by omega, by rw [e3, e2]; exact hl⟩
  rw [hV, e2]
  exact (show Bk _ u _ _ from hk).set 4 _
 have sr := fun cs => setRow_heap W u _ cs _ _ h
 rcases l with _ | ⟨a, _ | ⟨b, _ | ⟨c, _ | ⟨d, r⟩⟩⟩⟩
 ·exact key b0 b1 b2 b3 x4 (by rw [sr]; rfl) rfl
 ·exact key a.toBitVec b1 b2 b3 x4 (by rw [sr]; rfl) rfl
 ·exact key a.toBitVec b.toBitVec b2 b3 x4 (by rw [sr]; rfl) rfl
 ·exact key a.toBitVec b.toBitVec c.toBitVec b3 x4 (by rw [sr]; rfl) rfl
 ·simp at hs
theorem Jt {w w' : World} {B sz n : Nat} {T : TypeId} {v : Value} {xs : List Value} (h : w.ownsRow B T sz v n xs) (k : ∀ g, (v.ownBlock = some g /\ ∃ cu, w.heap[g]? = some (.cells cu T (0, 0))) -> w'.heap[g]? = w.heap[g]?) : w'.ownsRow B T sz v n xs := by
 refine ⟨h.1, ?_⟩
 rcases h.2 with a | ⟨g, cap, cur, rfl, h2, h3, h4⟩
 ·exact Or.inl a
 ·exact Or.inr ⟨g, cap, cur, rfl, h2, (k g ⟨rfl, cur, h3⟩).trans h3, h4⟩
theorem feed_end {W : World} {u Bx ga : Nat} {wr V : World} {A : Option Addr} {c : Nat} {rest : ByteArray} {b0 b1 b2 b3 : B8} {v : Value} {n : Nat} {xs : List Value} (hF : FSt W u Bx ga wr A c rest [.int .u8 (bI b0), .int .u8 (bI b1), .int .u8 (bI b2), .int .u8 (bI b3), .int .i64 0]) (hO : wr.ownsRow W.heap.size 21 1 v n xs) (os : rest.size <= 3)
  (hV : V = wr.drew.setRow u (([.int .u8 (bI b0), .int .u8 (bI b1), .int .u8 (bI b2), .int .u8 (bI b3), .int .i64 0].toArray : Array Value).toList.take 0 ++ Lib.strCells rest ++ ([.int .u8 (bI b0), .int .u8 (bI b1), .int .u8 (bI b2), .int .u8 (bI b3), .int .i64 0].toArray : Array Value).toList.drop (0 + (Lib.strCells rest).length)).toArray) :
  V.cell? ⟨u, 4, none⟩ = some (.int .i64 0) /\ V.frozen? ⟨u, 4, none⟩ = false /\ (V.setCell ⟨u, 4, none⟩ (.int .i64 rest.size)).ownsRow W.heap.size 21 1 v n xs /\ DecAt (V.setCell ⟨u, 4, none⟩ (.int .i64 rest.size)) u rest /\ Mv [u] W (V.setCell ⟨u, 4, none⟩ (.int .i64 rest.size)) := by
 have hD : Bk wr.drew u [.int .u8 (bI b0), .int .u8 (bI b1), .int .u8 (bI b2), .int .u8 (bI b3), .int .i64 0] 116 := hF.dec
 have hr := setRow_heap wr.drew u _ (([.int .u8 (bI b0), .int .u8 (bI b1), .int .u8 (bI b2), .int .u8 (bI b3), .int .i64 0].toArray : Array Value).toList.take 0 ++ Lib.strCells rest ++ ([.int .u8 (bI b0), .int .u8 (bI b1), .int .u8 (bI b2), .int .u8 (bI b3), .int .i64 0].toArray : Array Value).toList.drop (0 + (Lib.strCells rest).length)).toArray _ _ hD
 rw [<- hV] at hr
 have far : ∀ b, b ≠ u -> (V.setCell ⟨u, 4, none⟩ (.int .i64 rest.size)).heap[b]? = wr.heap[b]? := fun b hb => (heap_setCell_other V ⟨u, 4, none⟩ b _ hb).trans (by rw [hV]; exact setRow_other wr.drew u b _ hb)
 have sl := Lib.strCells_length rest
 refine ⟨?_, ?_, Jt hO (fun g hg => far g ?_), dec_copy hD os _ (by rw [hV]), ⟨?_, ?_, ?_, ?_, fun k hk hn => (far k (by simpa using hn)).trans (hF.mv.blk k hk hn)⟩⟩
 ·simp only [World.cell?, hr]
  obtain ⟨l, e1, e2, e3⟩ := ZI rest
  rw [e3]
  rw [e2] at os
  rcases l with _ | ⟨a, _ | ⟨b, _ | ⟨c, _ | ⟨d, r⟩⟩⟩⟩
  ·rfl
  ·rfl
  ·rfl
  ·rfl
  ·simp at os
 ·simp [World.frozen?, hr]
 ·obtain ⟨_, cu, hcu⟩ := hg
  exact (hF.dec.ne hcu (by decide))
 ·rw [show (V.setCell ⟨u, 4, none⟩ (.int .i64 rest.size)).os = V.os from rfl, hV]; exact hF.mv.os
 ·rw [show (V.setCell ⟨u, 4, none⟩ (.int .i64 rest.size)).tape = V.tape from rfl, hV]; exact hF.mv.tape
 ·rw [show (V.setCell ⟨u, 4, none⟩ (.int .i64 rest.size)).output = V.output from rfl, hV]; exact hF.mv.output
 ·rw [hV]; simpa using hF.mv.size
def VS (u : Nat) (s : ByteArray) (W : World) (e : Ending) (w' : World) : Prop := ∃ v, e = .returned v /\ w'.ownsRow W.heap.size 21 1 v (zv s).1.length (rns (zv s).1) /\ DecAt w' u (zv s).2 /\ Mv [u] W w'
set_option maxHeartbeats 8000000 in
set_option maxRecDepth 100000 in
theorem d_Feed (u : Nat) (k s : ByteArray) (ad : Addr) (c : Nat) (W : World) (hd : DecAt W u k) (hn : k.size + s.size <= 4) (hc : s.size <= c) (S : Sees W W.heap.size (some ad) (Lib.strCells s)) (hs1 : 0 < s.size) :
  Calls Tryz.prog 65 #[.pointer (some ⟨u, 0, none⟩), .slice (some ad) s.size c] W (VS u (k ++ s) W) := by
 obtain ⟨b0, b1, b2, b3, hD, k4, ek⟩ := hd
 obtain ⟨n, hn0⟩ : ∃ n, n = k.size := ⟨_, rfl⟩
 have UL := zdX hD.lt
 have HL := zdX (fun w' (hb : Below W.heap.size W w') => hD.of_eq (hb.block u hD.lt))
 have kk := fun d os => (hD.regrown d os).c 4 _ rfl
 have NW : Hid (∀ w', Below W.heap.size W w' -> ∀ j x, (Lib.strCells k)[j]? = some x -> w'.cell? ((⟨u, 0, none⟩ : Addr).add j) = some x) := zdX (fun w' hb j x hj => by
  have B := hD.of_eq (hb.block u hD.lt)
  rw [jy, Nat.zero_add]
  refine B.c j x ?_
  rw [ek, List.getElem?_take] at hj
  split at hj
  ·rename_i lt
   have : j = 0 \/ j = 1 \/ j = 2 \/ j = 3 := by omega
   rcases this with rfl | rfl | rfl | rfl <;> simpa using hj
  ·cases hj)
 have KL := zdX (Lib.strCells_length k)
 have n0 : (0 : Int) <= (n : Int) := by omega
 have n4 : (n : Int) <= 4 := by omega
 rw [<- hn0] at kk
 have HN := zdX hn0
 have HK := zdX hn
 clear hD ek k4 hn0 hn
 go_enter Tryz.func65, Tryz.ntmps65
 go_wp2_with fail
 refine vG 11 [(12, emptyS W.heap.size 5), (21, rowS W.heap.size 5 1 n (Lib.strCells k)), (5, boxS W.heap.size 27)] [5, 12, 21] (by kernel_rfl) (by kernel_rfl) (by kernel_rfl) (by intro t ht; simp at ht; rcases ht with rfl | rfl | rfl <;> (intro h; cases h)) ?_
 simp only [zd0, zd1, zd2, zd3]
 refine xQ 12 rfl (by simp) (by first | (simp; done) | simp [qm]) (by rfl) (by rfl) (by intro _ _ h; cases h) (fun x => ?_) ?_
 ·go_simp
  exact ⟨(Below.refl _ _).alloc zdZ _, ⟨_, rfl, by simp [redrawn], by rw [show (redrawn W x.d).heap.size + x.os.size = (grow (redrawn W x.d) x.os).heap.size by simp [grow]]; exact World.alloc_heap_new _ _⟩⟩
 repeat (refine kN (by rfl) (fun K hK => ?_); go_simp; first | (refine hK _ ?_; clear hK K) | (apply Exists.intro; refine ⟨fun _ => ?_, hK _ ?_⟩; (fail); clear hK K))
 refine vc 12 21 (by simp) (by first | (simp; done) | simp [qm]) (by rfl) rfl (by simp) (by first | (simp; done) | simp [qm]) (by rfl) (by rfl) (by rfl) (by intro _ _ h; cases h) (fun x u hu => ?_) ?_
 ·obtain ⟨g, rfl, hg1, hg2⟩ := hu
  obtain ⟨v', w', hr, hb, ho, hq⟩ := VO hg2 hg1 (below_regrown W x.d x.os).size ⟨u, 0, none⟩ n 4 (Lib.strCells k) (by rw [KL.out, HN.out]) (NW.out _ (below_regrown W x.d x.os)) (Lib.strCells_oneCell k) (by omega)
  simp [execOp, resolve, invoke, builtin, hr, Result.andThen, jM, Act.eval, Act.put]
  exact ⟨by simpa using hb, ho, hq⟩
 refine xQ 5 rfl (by simp) (by first | (simp; done) | simp [qm]) (by rfl) (by rfl) (by intro _ _ h; cases h) (fun x => ?_) ?_
 ·go_simp
  exact ⟨(Below.refl _ _).alloc zdZ _, ⟨_, _, rfl, by simp [redrawn], by rw [show (redrawn W x.d).heap.size + x.os.size = (grow (redrawn W x.d) x.os).heap.size by simp [grow]]; exact World.alloc_heap_new _ _⟩⟩
 refine vF ?_
 intro W1 vs1 hl hv
 obtain ⟨g12, e12, q12⟩ := hv 12 (by simp) rfl
 obtain ⟨o21, g21, c21, e21⟩ := hv 21 (by simp) rfl
 obtain ⟨Bx, x5, e5, hB5, q5⟩ := hv 5 (by simp) rfl
 have UB : Hid (u ≠ Bx) := zdX (by have := UL.out; omega)
 simp only [qo, e12, e21, e5]
 have hb1 := xo.1 hl
 have X5 : Bk W1 Bx [x5] 27 := q5
 obtain ⟨cu21, hg21⟩ := xT (qR (by rw [e21] at o21; exact o21) (Nat.zero_le _))
 have ne21 : g21 ≠ Bx := X5.ne hg21 (by decide)
 have j5 := X5.c 0 _ rfl
 have jf5 := X5.f 0
 have B1 := zdX hb1
 have X5 := zdX X5
 have NE := zdX ne21
 have O21 : Hid (W1.ownsRow W.heap.size 5 1 (.slice (some ⟨g21, 0, none⟩) n c21) n (Lib.strCells k)) := zdX (by rw [e21] at o21; exact o21)
 clear hl hv hb1 o21 q5 q12 hg21 ne21 e21
 go_upto_region 4 with fail
 obtain ⟨V1, hV⟩ : ∃ V, V = W1.setCell ⟨Bx, 0, none⟩ (.slice (some ⟨g21, 0, none⟩) n c21) := ⟨_, rfl⟩
 have B2 : Hid (Below W.heap.size W V1) := zdX (by rw [hV]; exact B1.out.setCell (p := ⟨Bx, 0, none⟩) hB5 _)
 have X2 : Hid (Bk V1 Bx [.slice (some ⟨g21, 0, none⟩) n c21] 27) := zdX (by rw [hV]; exact X5.out.set 0 _)
 have O2 : V1.ownsRow W.heap.size 5 1 (.slice (some ⟨g21, 0, none⟩) n c21) n (Lib.strCells k) := by
  rw [hV]
  have := O21.out.kept (grownBy_setCell' W1 Bx (.slice (some ⟨g21, 0, none⟩) n c21)) (Or.inr (by show some g21 ≠ some Bx; intro e; exact NE.out (Option.some.inj e)))
  exact this
 have D2 : Hid (Bk V1 u [.int .u8 (bI b0), .int .u8 (bI b1), .int .u8 (bI b2), .int .u8 (bI b3), .int .i64 (k.size : Int)] 116) := zdX (HL.out V1 B2.out)
 have S2 : Hid (∀ j x, (Lib.strCells s)[j]? = some x -> V1.cell? (ad.add j) = some x) := zdX (fun j x hj => by
  obtain ⟨ad', e, hb, hcell⟩ := S (by intro z; rw [z] at hj; simp at hj)
  cases e
  exact (B2.out.cell (by rw [z8]; exact hb)).trans (hcell j x hj))
 rw [<- hV]
 clear hV B1 X5 O21 j5 jf5 HL S kk
 have u5 := X2.out.c 0 _ rfl
 have uf5 := X2.out.f 0
 obtain ⟨i0, hi, hz0, hz1, hz2⟩ := info_parts vg
 have SL := zdX (Lib.strCells_length s)
 have SO := zdX (Lib.strCells_oneCell s)
 have O2 := zdX O2
 have hk2 := HK.out
 rw [<- HN.out] at hk2
 have H3 : n + s.size <= maxLen := by unfold maxLen; omega
 have H4 : (n + s.size) * 1 <= 140737488355328 := by omega
 have H5 : W.heap.size <= V1.heap.size := B2.out.size
 go_wp2_with (at_builtin; refine wpList_append_own _ rfl (.tmp 22) (.tmp 23) 27 rfl W.heap.size 5 i0 (.int .u8 0) 1 1 Tryz.underlying27 hi hz0 hz1 hz2 rfl (by decide) _ n _ rfl O2.out ad s.size c (Lib.strCells s) rfl (by rw [SL.out]; omega) S2.out SO.out H3 H4 H5 ?_; intro v3 w3 hown3 hg3 _; obtain ⟨ga, C, cu3, rfl, a1, a2, a3, a4, a5, a6, a8⟩ := feed_arm X2.out D2.out O2.out hown3 (by omega) hg3; have FS := zdX (fun (all : ByteArray) (e1 : all.size <= C) (e2 : ∀ j x, (Lib.strCells all)[j]? = some x -> w3.cell? ⟨ga, j, none⟩ = some x) => zc7 (all := all) B2.out O2.out hg3 UL.out hB5 a5 a6 a1 a4 e1 e2); have c5 := a5.c 0 _ rfl; have cf5 := a5.f 0; have c6 := a6.c 4 _ rfl; have cf6 := a6.f 4; have A8 := zdX a8; have NEu : u ≠ Bx := UB.out; clear a4 a5 a6 a8 hg3 hown3)
 have ez : (k ++ s).size = n + s.size := by rw [ByteArray.size_append, HN.out]
 have F0 := FS.out (k ++ s) (by rw [ez]; exact a2) (by rw [Jr]; exact A8.out)
 rw [ez] at F0
 obtain ⟨V5, hV5⟩ : ∃ V, V = (w3.setCell ⟨Bx, 0, none⟩ (.slice (some ⟨ga, 0, none⟩) (n + s.size) C)).setCell ⟨u, 4, none⟩ (.int .i64 0) := ⟨_, rfl⟩
 rw [<- hV5] at F0 ⊢
 have F0 := zdX F0
 have EZ := zdX ez
 have hmf : ∀ (fn : Fn) (first cap : Array Value) (w : World), (Instr.makeFunc fn first cap).run Tryz.prog w = .ok (.func fn first cap) w := fun _ _ _ _ => rfl
 have O0 : Hid (V5.ownsRow W.heap.size 21 1 (.slice none 0 0) 0 (rns [])) := zdX (World.ownsRow_nil _ _ _ _)
 obtain ⟨j0, hj0, jz0, jz1, jz2⟩ := info_parts infoR
 clear hV5 FS A8 a1 a2 a3 c5 cf5 c6 cf6 H3 H4 H5 X2 D2 B2 S2 SL SO O2 u5 uf5 UB NE ez hk2 hi hz0 hz1 hz2 hc hs1
 go_wp2_with fail
 go_loopw [6] (fun s6 wr => ∃ (A : Option Addr) (c' : Nat) (rest : ByteArray) (l : List Int) (f : Nat), l.length + rest.size <= 4 /\ Hid (FSt W u Bx ga wr A c' rest [.int .u8 (bI b0), .int .u8 (bI b1), .int .u8 (bI b2), .int .u8 (bI b3), .int .i64 0]) /\ Hid (wr.ownsRow W.heap.size 21 1 s6 l.length (rns l)) /\ Hid (rest.size <= f /\ zv (k ++ s) = (l ++ (zX f rest).1, (zX f rest).2))) (fun _ wr => Js wr Bx)
 case atStart => exact ⟨_, _, k ++ s, [], (k ++ s).size, by have := EZ.out; have := HN.out; have := HK.out; simp only [List.length_nil]; omega, F0, O0, zdX ⟨zdZ, by rw [List.nil_append]; rfl⟩⟩
 case round =>
  obtain ⟨A, c', rest, l, f, h4, hF, hO, hC⟩ := hrel
  clear F0 O0
  have LEN := zdX hF.out.len
  by_cases z : rest.size = 0
  ·have k5 := hF.out.box.c 0 _ rfl
   rw [z] at k5
   have CE : Hid (zv (k ++ s) = (l, zB)) := zdX (by rw [hC.out.2, zc5 _ _ z, List.append_nil])
   clear z h4 LEN hC
   go_wp2_with fail
   go_ret
   refine ⟨_, rfl, ?_, ?_, hF.out.mv⟩
   ·rw [CE.out]; exact hO.out
   ·rw [CE.out]; exact ⟨b0, b1, b2, b3, hF.out.dec, Nat.zero_le _, rfl⟩
  ·have rp : 0 < rest.size := by omega
   have rp2 : (0 : Int) < (rest.size : Int) := by omega
   have k5 := hF.out.box.c 0 _ rfl
   have kf5 := hF.out.box.f 0
   have bb := xB rest rp
   have FI := zdX (d_firstF rest rp (by omega) Bx wr (fun i hi => d_at2 rest Bx i hi A c' hF.out.cap wr (hF.out.box.c 0 _ rfl) hF.out.sees))
   have CAP := zdX hF.out.cap
   obtain ⟨ad2, rfl, _, _⟩ := hF.out.sees (by intro q; have := Lib.strCells_length rest; rw [q] at this; simp at this; omega)
   obtain ⟨f', rfl⟩ : ∃ f', f = f' + 1 := ⟨f - 1, by have := hC.out.1; omega⟩
   obtain ⟨⟨r, dd⟩, hD⟩ : ∃ D, D = decB rest := ⟨_, rfl⟩
   have ZX := zdX (show (rest.extract dd rest.size).size = rest.size - dd by rw [ByteArray.size_extract]; omega)
   cases hO2 : qT rest with
   | true =>
    have os := Z8 hO2
    have CE : Hid (zv (k ++ s) = (l, rest)) := zdX (by rw [hC.out.2, zc6 _ _ rp hO2, List.append_nil])
    rw [hO2, <- hD] at FI
    simp only at FI
    obtain ⟨V, hV⟩ : ∃ V, V = wr.drew.setRow u (([.int .u8 (bI b0), .int .u8 (bI b1), .int .u8 (bI b2), .int .u8 (bI b3), .int .i64 0].toArray : Array Value).toList.take 0 ++ Lib.strCells rest ++ ([.int .u8 (bI b0), .int .u8 (bI b1), .int .u8 (bI b2), .int .u8 (bI b3), .int .i64 0].toArray : Array Value).toList.drop (0 + (Lib.strCells rest).length)).toArray := ⟨_, rfl⟩
    obtain ⟨v4, vf4, EO, ED, EM⟩ := feed_end hF.out hO.out os hV
    have RC : (Builtin.copy_ #[27, 27] 3 #[.slice (some ⟨u, 0, none⟩) 4 4, .slice (some ad2) rest.size c']).run Tryz.prog wr.drew = .ok (.int .i64 (rest.size : Int)) V := by
     have := run_copy_row (P := Tryz.prog) wr.drew 27 27 3 5 u 0 4 4 ad2 rest.size c' _ _ (Lib.strCells rest) Tryz.underlying27 (by kernel_rfl) hF.out.dec (by rw [Lib.strCells_length]; exact (Nat.min_eq_left (by omega)).symm) (fun j x hj => by
      obtain ⟨ad3, e, _, hcell⟩ := hF.out.sees (by intro q; rw [q] at hj; simp at hj)
      cases e
      exact hcell j x hj) (by rw [Lib.strCells_length]; simp; omega) (Lib.strCells_oneCell rest)
     rw [this, hV, Lib.strCells_length]
     rfl
    have E1 := zdX EO
    have E2 := zdX ED
    have E3 := zdX EM
    clear hV EO ED EM hC hD bb z hF hO LEN os
    generalize rest.size = m at *
    go_wp2_with fail
    refine FI.out.mono ?_; rintro e w' ⟨rfl, rfl⟩
    go_upto_region 10 with fail
    go_region
    go_wp2_with fail
    go_ret
    exact ⟨_, rfl, by rw [CE.out]; exact E1.out, by rw [CE.out]; exact E2.out, E3.out⟩
   | false =>
    have CE : Hid (rest.size - dd <= f' /\ zv (k ++ s) = ((l ++ [(r : Int)]) ++ (zX f' (rest.extract dd rest.size)).1, (zX f' (rest.extract dd rest.size)).2)) := zdX (by
     have h1 := hC.out.1
     refine ⟨by rw [<- hD] at bb; simp only at bb; omega, ?_⟩
     rw [hC.out.2, cert_go _ _ rp hO2, <- hD]
     simp)
    rw [hO2, <- hD] at FI
    rw [<- hD] at bb
    simp only at FI bb
    have SLB := VQ (some ad2) rest.size c' dd (by omega)
    have F1 := zdX (hF.out.below ((Below.refl _ wr).alloc zdZ (.cells (rns [(r : Int)]).toArray 21)))
    have OA := zdX (hO.out.alloc (.cells (rns [(r : Int)]).toArray 21))
    have MVH := zdX hF.out.mv.size
    have NW2 := zdX (jd wr (rns [(r : Int)]) 21)
    have O1 := zdX (Kf [(r : Int)])
    have H2 : l.length + 1 <= maxLen := by unfold maxLen; omega
    have H3 : (l.length + 1) * 4 <= 140737488355328 := by omega
    have H4 : W.heap.size <= (wr.alloc (.cells (rns [(r : Int)]).toArray 21)).heap.size := by have := MVH.out; simp; omega
    have SC := zdX (fun wq (F : FSt W u Bx ga wq (some ad2) c' rest [.int .u8 (bI b0), .int .u8 (bI b1), .int .u8 (bI b2), .int .u8 (bI b3), .int .i64 0]) => F.lay (rest' := rest.extract dd rest.size) (A' := cutB (some ad2) c' dd) (c' := c' - dd) (by rw [ZX.out]; have := CAP.out; omega) (zc4 c' dd F.sees F.cap) (fun a e => by
     unfold cutB at e
     split at e
     ·exact F.gb a e
     ·simp at e
      rw [<- e, z8]
      exact F.gb ad2 rfl))
    have LT : Hid (dd <= rest.size /\ 1 <= dd) := zdX (by omega)
    have L4 : Hid ((l ++ [(r : Int)]).length + (rest.extract dd rest.size).size <= 4) := zdX (by rw [ZX.out, List.length_append]; simp; omega)
    rw [ZX.out] at SC
    clear hC hD hF hO bb z h4
    go_wp2_with fail
    refine FI.out.mono ?_; rintro e w' ⟨rfl, rfl⟩
    go_wp2_with (at_builtin; refine wpList_append_own _ rfl (.tmp 50) (.tmp 52) 111 rfl W.heap.size 21 j0 (.int .i32 0) 1 4 Tryz.underlying111 hj0 jz0 jz1 jz2 rfl (by decide) _ _ _ rfl OA.out ⟨w'.heap.size, 0, none⟩ 1 1 (rns [(r : Int)]) rfl rfl NW2.out O1.out H2 H3 H4 ?_; intro v4 w4 hown4 hg4 _; have F4 := zdX (F1.out.grown OA.out zdZ hg4); have p5 := F4.out.box.c 0 _ rfl; have pf5 := F4.out.box.f 0; have OW := zdX hown4; clear hown4 hg4)
    have F5 := zdX (SC.out _ F4.out)
    have O5 : Hid ((w4.setCell ⟨Bx, 0, none⟩ (.slice (cutB (some ad2) c' dd) (rest.size - dd) (c' - dd))).ownsRow W.heap.size 21 1 v4 (l ++ [(r : Int)]).length (rns (l ++ [(r : Int)]))) := zdX (by
     rw [List.length_append, Ke]
     refine Jt OW.out (fun g hg => heap_setCell_other w4 ⟨Bx, 0, none⟩ g _ ?_)
     obtain ⟨_, cu, hcu⟩ := hg
     exact F4.out.box.ne hcu (by decide))
    have LE5 := zdX F5.out.len
    go_roundw
    case rel => exact ⟨_, _, rest.extract dd rest.size, l ++ [(r : Int)], f', L4.out, F5, O5, zdX ⟨by rw [ZX.out]; exact CE.out.1, CE.out.2⟩⟩
    case measure =>
     have a := LE5.out
     have b := LEN.out
     have c := ZX.out
     have d := LT.out
     rw [a, b, c]
     omega
end
section
open Go Go.RowKit Go.Sort
section
variable {w0 : World} {F0 : List Nat} {tb : Nat} {t t' : Trm} {W W' : World} {L : Lay}
theorem St.setOpn (h : St w0 F0 tb t W) (x : Int) : St w0 F0 tb { t with opn := x } (W.setCell ⟨tb, 24, none⟩ (.int .i64 x)) := h.set _ 24 _ (fun _ => rfl) ⟨rfl, rfl, rfl, rfl, rfl, rfl, rfl⟩
theorem St.setState (h : St w0 F0 tb t W) (x : Int) : St w0 F0 tb { t with state := x } (W.setCell ⟨tb, 28, none⟩ (.int .i8 x)) := h.set _ 28 _ (fun _ => rfl) ⟨rfl, rfl, rfl, rfl, rfl, rfl, rfl⟩
set_option maxHeartbeats 8000000 in
set_option maxRecDepth 100000 in
theorem VT (h : St w0 F0 tb t W) (f : Fine t) (r : Int) : Calls Tryz.prog 71 #[.pointer (some ⟨tb, 0, none⟩), .int .i32 r] W (Vd w0 F0 tb (jp t r)) := by
 have w0' := f.w0
 have w1 := f.w1
 have h0' := f.h0
 have h1' := f.h1
 have ar := f.ar
 have x0 := f.x0
 have xw : t.cur.x <= 100000 := by have := f.cx; omega
 have nn : 0 <= t.w * t.h := Int.mul_nonneg w0' h0'
 have m1 := zdY (t.w * t.h) (by omega)
 have m2 := zdY (t.cur.x - 1) (by omega)
 have H0 := zdX h
 have HV := zdX (h.setOpn (-1))
 have F1 := zdX (jv f (-1))
 obtain ⟨u, hu⟩ : ∃ u, u = ({ t with opn := -1 } : Trm) := ⟨_, rfl⟩
 have ew : u.w = t.w := by rw [hu]
 have eh : u.h = t.h := by rw [hu]
 have ex : u.cur = t.cur := by rw [hu]
 have CE : jp t r = if u.w * u.h = 0 then u
   else if r = 8 then { (setX u (max 0 (u.cur.x - 1))) with pend := false }
   else if r = 9 then { (tabT u 1) with pend := false }
   else if r = 10 \/ r = 11 \/ r = 12 then { (zK u) with pend := false }
   else if r = 13 then { (setX u 0) with pend := false }
   else u := by rw [hu]; rfl
 rw [<- hu] at HV F1
 rw [CE]
 clear CE hu
 rw [<- ew, <- eh] at m1
 rw [<- ex] at m2 x0 xw
 obtain ⟨L1, B1⟩ := H0.out.bk
 dsimp only [trmV, setX, setY] at B1
 have k24 := B1.c 24 _ rfl
 have kf24 := B1.f 24
 clear B1
 clear h f ew eh ex nn ar w0' w1 h0' h1'
 go_enter Tryz.func71, Tryz.ntmps71
 go_upto_region 1 with fail
 obtain ⟨V, hV⟩ : ∃ V, V = W.setCell ⟨tb, 24, none⟩ (.int .i64 (-1)) := ⟨_, rfl⟩
 rw [<- hV] at HV ⊢
 clear hV k24 kf24 H0
 by_cases c : u.w * u.h = 0
 ·rw [if_pos c]
  obtain ⟨L1, B1⟩ := HV.out.bk
  dsimp only [trmV, setX, setY] at B1
  have k0 := fun d os => (B1.regrown d os).c 0 _ rfl
  have k1 := fun d os => (B1.regrown d os).c 1 _ rfl
  clear B1
  refine zg 11 (by kernel_rfl) (by kernel_rfl) ?_
  simp only [zd0, zd1, zd2, zd3]
  repeat (first | go_big_quiet_step (fail) | quiet_step (fail))
  refine wpQuiet_nil ?_
  intro _ hw'
  obtain ⟨⟨dq, osq⟩, hw''⟩ := hw'
  subst hw''
  have HV := zdX (HV.out.below (below_regrown V dq osq))
  clear k0 k1
  generalize grow (redrawn V dq) osq = W1 at *
  go_wp2_with fail
  go_end0
  exact ⟨⟨_, rfl⟩, HV.out⟩
 have P := zdX (F1.out.some c)
 rw [if_neg c]
 obtain ⟨L1, B1⟩ := HV.out.bk
 dsimp only [trmV, setX, setY] at B1
 have k0 := fun d os => (B1.regrown d os).c 0 _ rfl
 have k1 := fun d os => (B1.regrown d os).c 1 _ rfl
 clear B1
 refine zg 11 (by kernel_rfl) (by kernel_rfl) ?_
 simp only [zd0, zd1, zd2, zd3]
 repeat (first | go_big_quiet_step (fail) | quiet_step (fail))
 refine wpQuiet_nil ?_
 intro _ hw'
 obtain ⟨⟨dq, osq⟩, hw''⟩ := hw'
 subst hw''
 have HV := zdX (HV.out.below (below_regrown V dq osq))
 clear k0 k1
 generalize grow (redrawn V dq) osq = W1 at *
 by_cases c8 : r = 8
 ·rw [if_pos c8]
  subst c8
  have H2 := zdX ((HV.out.setX (max 0 (u.cur.x - 1))).setPend false)
  obtain ⟨L1, B1⟩ := HV.out.bk
  dsimp only [trmV, setX, setY] at B1
  have k3 := B1.c 3 _ rfl
  have kf3 := B1.f 3
  have k16 := B1.c 16 _ rfl
  have kf16 := B1.f 16
  clear B1
  clear HV
  go_wp2_with fail
  go_end0
  exact ⟨⟨_, rfl⟩, H2.out⟩
 rw [if_neg c8]
 have d8 : (r == 8) = false := by simpa using c8
 by_cases c9 : r = 9
 ·rw [if_pos c9]
  subst c9
  have CT := zdX (t_tab HV.out F1.out P.out 1 (Or.inl rfl))
  clear HV
  go_wp2_with fail
  refine CT.out.mono ?_; rintro e w2 ⟨⟨v, rfl⟩, h1⟩
  have H2 := zdX h1
  clear h1
  clear CT
  have H3 := zdX (H2.out.setPend false)
  obtain ⟨L1, B1⟩ := H2.out.bk
  dsimp only [trmV, setX, setY] at B1
  have k16 := B1.c 16 _ rfl
  have kf16 := B1.f 16
  clear B1
  clear H2
  go_wp2_with fail
  go_end0
  exact ⟨⟨_, rfl⟩, H3.out⟩
 rw [if_neg c9]
 have d9 : (r == 9) = false := by simpa using c9
 by_cases c10 : r = 10 \/ r = 11 \/ r = 12
 ·rw [if_pos c10]
  have CT := zdX (ZG HV.out F1.out P.out)
  clear HV
  rcases c10 with rfl | rfl | rfl
  ·go_wp2_with fail
   refine CT.out.mono ?_; rintro e w2 ⟨⟨v, rfl⟩, h1⟩
   have H2 := zdX h1
   clear h1
   clear CT
   have H3 := zdX (H2.out.setPend false)
   obtain ⟨L1, B1⟩ := H2.out.bk
   dsimp only [trmV, setX, setY] at B1
   have k16 := B1.c 16 _ rfl
   have kf16 := B1.f 16
   clear B1
   clear H2
   go_wp2_with fail
   go_end0
   exact ⟨⟨_, rfl⟩, H3.out⟩
  ·go_wp2_with fail
   refine CT.out.mono ?_; rintro e w2 ⟨⟨v, rfl⟩, h1⟩
   have H2 := zdX h1
   clear h1
   clear CT
   have H3 := zdX (H2.out.setPend false)
   obtain ⟨L1, B1⟩ := H2.out.bk
   dsimp only [trmV, setX, setY] at B1
   have k16 := B1.c 16 _ rfl
   have kf16 := B1.f 16
   clear B1
   clear H2
   go_wp2_with fail
   go_end0
   exact ⟨⟨_, rfl⟩, H3.out⟩
  ·go_wp2_with fail
   refine CT.out.mono ?_; rintro e w2 ⟨⟨v, rfl⟩, h1⟩
   have H2 := zdX h1
   clear h1
   clear CT
   have H3 := zdX (H2.out.setPend false)
   obtain ⟨L1, B1⟩ := H2.out.bk
   dsimp only [trmV, setX, setY] at B1
   have k16 := B1.c 16 _ rfl
   have kf16 := B1.f 16
   clear B1
   clear H2
   go_wp2_with fail
   go_end0
   exact ⟨⟨_, rfl⟩, H3.out⟩
 rw [if_neg c10]
 have d10 : (r == 10) = false := by simp; omega
 have d11 : (r == 11) = false := by simp; omega
 have d12 : (r == 12) = false := by simp; omega
 by_cases c13 : r = 13
 ·rw [if_pos c13]
  subst c13
  have H2 := zdX ((HV.out.setX 0).setPend false)
  obtain ⟨L1, B1⟩ := HV.out.bk
  dsimp only [trmV, setX, setY] at B1
  have k3 := B1.c 3 _ rfl
  have kf3 := B1.f 3
  have k16 := B1.c 16 _ rfl
  have kf16 := B1.f 16
  clear B1
  clear HV
  go_wp2_with fail
  go_end0
  exact ⟨⟨_, rfl⟩, H2.out⟩
 rw [if_neg c13]
 have d13 : (r == 13) = false := by simpa using c13
 have e10 : ¬ r = 10 := by omega
 have e11 : ¬ r = 11 := by omega
 have e12 : ¬ r = 12 := by omega
 clear c10
 go_wp2_with fail
 go_end0
 exact ⟨⟨_, rfl⟩, HV.out⟩
end
end
end Go.Proofs.YtmaofighbpnbiaaGreatDoor
