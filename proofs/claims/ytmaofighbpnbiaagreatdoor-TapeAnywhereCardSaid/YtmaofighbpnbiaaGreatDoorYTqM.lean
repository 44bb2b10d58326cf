/- The law's own helpers: beyond, same. -/
import Derived.Test.YtmaofighbpnbiaaGreatDoorYTqK
namespace Go.Proofs.YtmaofighbpnbiaaGreatDoor
open Go Go.RowKit Go.Sort
set_option linter.unusedVariables false
set_option linter.unusedSimpArgs false
section
def beyB (L : List FA) : Bool := decide (134217728 < L.length + (flatB L).length)
theorem flatB_take_le (L : List FA) (k : Nat) : (flatB (L.take k)).length ≤ (flatB L).length := by
 have e := congrArg (fun l => (flatB l).length) (List.take_append_drop k L)
 simp only [flatB_app, List.length_append] at e
 omega
set_option maxHeartbeats 4000000 in
set_option maxRecDepth 100000 in
theorem law_beyond (A : Option Addr) (c : Nat) (L : List FA) (B : Nat) (W : World) (D : FrsD W B A c L) : Calls Tryz.prog 13 #[.slice A L.length c] W fun e w' => e = .returned (.bool (beyB L)) ∧ w' = W := by
 have HD := Lib.hid D
 obtain ⟨n, hn⟩ : ∃ n, n = L.length := ⟨_, rfl⟩
 have HN := Lib.hid hn
 have nl : n ≤ 4398046511104 := by have := D.sz; omega
 rw [← hn]
 clear hn D
 go_enter Tryz.func13, Tryz.ntmps13
 go_wp2_with fail
 go_loopw [3, 4] (fun s3 s4 wr => ∃ (k z : Nat), k ≤ n ∧ s3 = .int .i64 (z : Int) ∧ s4 = .int .i64 (k : Int) ∧ z ≤ 134217728 ∧ Hid (z = k + (flatB (L.take k)).length) ∧ wr = W) (fun _ s4 _ => n - (intOf s4).toNat)
 case atStart => exact ⟨0, 0, Nat.zero_le _, rfl, rfl, by decide, Lib.hid (by simp [flatB]), rfl⟩
 case round =>
  obtain ⟨k, z, hk, rfl, rfl, zb, hz, rfl⟩ := hrel
  by_cases lt : k < n
  ·have kl : k < L.length := by rw [← HN.out]; exact lt
   obtain ⟨ad, rfl, lb, _, z2⟩ := HD.out.at k kl
   have BL := (HD.out.ok _ (List.getElem_mem kl)).b.sz
   have FT := congrArg List.length (flatB_take L k kl)
   rw [List.length_append] at FT
   have TL := flatB_take_le L (k + 1)
   have NZ := Lib.hid (show z + 1 + (L[k]).b.bs.length = (k + 1) + (flatB (L.take (k + 1))).length by have := hz.out; omega)
   have NG := Lib.hid (show 134217728 < z + 1 + (L[k]).b.bs.length → beyB L = true from fun h => decide_eq_true (by have := NZ.out; have := HN.out; omega))
   generalize hbb : (L[k]).b = bb at *
   obtain ⟨xA, xc, bs⟩ := bb
   dsimp only at z2 BL NZ NG
   have q0 : (0 : Int) ≤ (k : Int) := by omega
   have q5 : (k : Int) < (n : Int) := by omega
   have tn : (k : Int).toNat = k := by omega
   have wk : IntKind.i64.wrap ((k : Int) + 1) = (k : Int) + 1 := IntWalk.i64_in _ (by omega)
   have w1 : IntKind.i64.wrap ((z : Int) + 1) = (z : Int) + 1 := IntWalk.i64_in _ (by omega)
   have w2 : IntKind.i64.wrap ((z : Int) + 1 + (bs.length : Int)) = ((z + 1 + bs.length : Nat) : Int) := by rw [IntWalk.i64_in _ (by omega)]; omega
   obtain ⟨z', hz'⟩ : ∃ z', z' = z + 1 + bs.length := ⟨_, rfl⟩
   rw [← hz'] at w2 NZ NG
   clear FT TL hbb lb hz hz'
   by_cases big : 134217728 < z'
   ·have b1 : (134217728 : Int) < (z' : Int) := by omega
    have E := Lib.hid (NG.out big)
    clear NG NZ
    go_wp2_with fail
    go_ret
    exact ⟨by rw [E.out]; rfl, rfl⟩
   ·have b1 : ¬ (134217728 : Int) < (z' : Int) := by omega
    clear NG
    go_wp2_with fail
    go_roundw
    case rel => exact ⟨k + 1, z', by omega, rfl, by go_num, by omega, NZ, trivial⟩
    case measure => simp [intOf]; omega
  ·have e : k = n := by omega
   subst e
   have q5 : ¬ (k : Int) < (k : Int) := by omega
   have E : Hid (beyB L = false) := Lib.hid (decide_eq_false (by have h1 := hz.out; have h2 := HN.out; rw [h2, List.take_length] at h1; omega))
   clear hz
   go_wp2_with fail
   go_ret
   exact ⟨by rw [E.out]; rfl, rfl⟩
theorem conv_sees {w : World} {B : Nat} {x : BA} (D : ByteD w B x) : (convert 27 9 (.slice x.A x.bs.length x.c)).run Tryz.prog w = .ok (.string (barr x.bs)) w := by
 obtain ⟨A, c, bs⟩ := x
 cases A with
 | none =>
  have h1 : c = 0 := D.nil rfl
  have h2 : bs.length ≤ c := D.cap
  obtain rfl : bs = [] := List.eq_nil_of_length_eq_zero (by omega)
  subst h1
  exact Lib.run_convert_nil_bytes w _ _ 5 0 Tryz.underlying27 Tryz.underlying5 Tryz.underlying9
 | some ad =>
  dsimp only
  rw [run_convert_bytes_string w _ _ 5 (some ad) bs.length c Tryz.underlying27 Tryz.underlying5 Tryz.underlying9]
  have hl := run_loadCells_list (P := Tryz.prog) w ad (bts bs) (fun j u hu => by
   obtain ⟨a', e, _, k⟩ := D.sees (fun z => by have z2 : bts bs = [] := z; rw [z2] at hu; simp at hu)
   cases e
   exact k j u hu)
  rw [bts_len] at hl
  rw [run_bytesToString w _ bs.length c bs hl, barr_fold]
theorem byt_map_inj : ∀ {a b : List Int}, Byt a → Byt b → (a.map fun n : Int => UInt8.ofNat n.toNat) = (b.map fun n : Int => UInt8.ofNat n.toNat) → a = b
 | [], [], _, _, _ => rfl
 | [], y :: b, _, _, h => by simp at h
 | x :: a, [], _, _, h => by simp at h
 | x :: a, y :: b, ha, hb, h => by
  simp only [List.map_cons, List.cons.injEq] at h
  have x1 := ha x (by simp)
  have y1 := hb y (by simp)
  have e : x = y := by
   have := congrArg UInt8.toNat h.1
   simp only [UInt8.toNat_ofNat'] at this
   omega
  rw [e, byt_map_inj (fun z m => ha z (by simp [m])) (fun z m => hb z (by simp [m])) h.2]
theorem barr_inj {a b : List Int} (ha : Byt a) (hb : Byt b) (h : barr a = barr b) : a = b := by
 unfold barr at h
 have h := congrArg (fun s : ByteArray => s.data.toList) h
 simp only at h
 exact byt_map_inj ha hb h
theorem frms_ext {L M : List FA} (hl : L.length = M.length) (h : ∀ k, (h1 : k < L.length) → (h2 : k < M.length) → (L[k]).at_ = (M[k]).at_ ∧ (L[k]).b.bs = (M[k]).b.bs) : frms L = frms M := by
 unfold frms
 refine List.ext_getElem (by rw [List.length_map, List.length_map, hl]) (fun k a b => ?_)
 rw [List.length_map] at a b
 rw [List.getElem_map, List.getElem_map]
 have := h k a b
 unfold FA.frm
 rw [this.1, this.2]
def SamR (W : World) (l m : List Frm) (e : Ending) (w' : World) : Prop := ∃ b : Bool, e = .returned (.bool b) ∧ (b = true ↔ l = m) ∧ Below W.heap.size W w'
theorem samR_no {W w' : World} {l m : List Frm} (h : ¬ l = m) (b : Below W.heap.size W w') : SamR W l m (.returned (.bool false)) w' := ⟨false, rfl, ⟨fun z => (by cases z), fun z => absurd z h⟩, b⟩
theorem samR_yes {W w' : World} {l m : List Frm} (h : l = m) (b : Below W.heap.size W w') : SamR W l m (.returned (.bool true)) w' := ⟨true, rfl, ⟨fun _ => h, fun _ => rfl⟩, b⟩
set_option maxHeartbeats 8000000 in
set_option maxRecDepth 100000 in
theorem law_same30 (A A2 : Option Addr) (c c2 : Nat) (L M : List FA) (B B2 : Nat) (W : World) (D : FrsD W B A c L) (D2 : FrsD W B2 A2 c2 M) (hB : B ≤ W.heap.size) (hB2 : B2 ≤ W.heap.size) : Calls Tryz.prog 24 #[.slice A L.length c, .slice A2 M.length c2] W (SamR W (frms L) (frms M)) := by
 have HD := Lib.hid D
 have HD2 := Lib.hid D2
 obtain ⟨n, hn⟩ : ∃ n, n = L.length := ⟨_, rfl⟩
 obtain ⟨m, hm⟩ : ∃ m, m = M.length := ⟨_, rfl⟩
 have HN := Lib.hid hn
 have HM := Lib.hid hm
 have nl : n ≤ 4398046511104 := by have := D.sz; omega
 have ml : m ≤ 4398046511104 := by have := D2.sz; omega
 rw [← hn, ← hm]
 clear hn hm D D2
 by_cases ne : n = m
 case neg =>
  have ne' : ¬ (n : Int) = (m : Int) := by omega
  have NE : Hid (¬ frms L = frms M) := Lib.hid (fun z => ne (by have := congrArg List.length z; rw [frms_len, frms_len, ← HN.out, ← HM.out] at this; exact this))
  go_enter Tryz.func24, Tryz.ntmps24
  go_wp2_with fail
  go_ret
  exact samR_no NE.out (Below.refl _ _)
 subst ne
 go_enter Tryz.func24, Tryz.ntmps24
 go_wp2_with fail
 go_loopw [5] (fun s5 wr => ∃ (k : Nat), k ≤ n ∧ s5 = .int .i64 (k : Int) ∧ Hid (∀ j, (h1 : j < L.length) → (h2 : j < M.length) → j < k → (L[j]).at_ = (M[j]).at_ ∧ (L[j]).b.bs = (M[j]).b.bs) ∧ Hid (Below W.heap.size W wr)) (fun s5 _ => n - (intOf s5).toNat)
 case atStart => exact ⟨0, Nat.zero_le _, rfl, Lib.hid (fun j _ _ h => absurd h (Nat.not_lt_zero _)), Lib.hid (Below.refl _ _)⟩
 case round =>
  obtain ⟨k, hk, rfl, hs, hb⟩ := hrel
  by_cases lt : k < n
  ·have kl : k < L.length := by rw [← HN.out]; exact lt
   have km : k < M.length := by rw [← HM.out]; exact lt
   have F1 := HD.out.below hb.out hB
   have F2 := HD2.out.below hb.out hB2
   obtain ⟨ad, rfl, l1, y1, y2⟩ := F1.at k kl
   obtain ⟨ae, rfl, l2, z1, z2⟩ := F2.at k km
   have cx := fun q => conv_sees ((HD.out.below (below_drewN hb.out q) hB).ok _ (List.getElem_mem kl)).b
   have cy := fun q => conv_sees ((HD2.out.below (below_drewN hb.out q) hB2).ok _ (List.getElem_mem km)).b
   have rx := Lib.hid (F1.ok _ (List.getElem_mem kl)).b.rng
   have ry := Lib.hid (F2.ok _ (List.getElem_mem km)).b.rng
   have NS := Lib.hid (fun h : (L[k]).at_ = (M[k]).at_ ∧ (L[k]).b.bs = (M[k]).b.bs => show ∀ j, (h1 : j < L.length) → (h2 : j < M.length) → j < k + 1 → (L[j]).at_ = (M[j]).at_ ∧ (L[j]).b.bs = (M[j]).b.bs from fun j h1 h2 lj => by
    rcases Nat.lt_or_ge j k with q | q
    ·exact hs.out j h1 h2 q
    ·obtain rfl : j = k := by omega
     exact h)
   have NF := Lib.hid (fun h : frms L = frms M => show (L[k]).at_ = (M[k]).at_ ∧ (L[k]).b.bs = (M[k]).b.bs by
    have e1 := frms_get L k kl
    have e2 := frms_get M k km
    simp only [h] at e1
    rw [e1] at e2
    exact ⟨congrArg Frm.at_ e2, congrArg Frm.bs e2⟩)
   have q0 : (0 : Int) ≤ (k : Int) := by omega
   have q5 : (k : Int) < (n : Int) := by omega
   have tn : (k : Int).toNat = k := by omega
   have wk : IntKind.i64.wrap ((k : Int) + 1) = (k : Int) + 1 := IntWalk.i64_in _ (by omega)
   generalize L[k] = x at *
   generalize M[k] = y at *
   obtain ⟨xt, xA, xc, xs⟩ := x
   obtain ⟨yt, yA, yc, ys⟩ := y
   dsimp only at y1 y2 z1 z2 cx cy rx ry NS NF
   clear F1 F2 l1 l2 hs
   by_cases ct : xt = yt
   case neg =>
    have EN := Lib.hid (fun (V : World) (b : Below W.heap.size W V) => samR_no (l := frms L) (m := frms M) (fun z => ct (NF.out z).1) b)
    clear NS NF rx ry
    go_upto_region 6 with fail
    refine wp_region_draw_tail 25 (by kernel_rfl) (by kernel_rfl) ?_
    simp only [List.take_succ_cons, List.take_zero, List.drop_succ_cons, List.drop_zero]
    repeat (first | go_big_quiet_step (fail) | quiet_step (fail))
    refine wpQuiet_nil ?_
    intro _ hw'
    obtain ⟨nq, hw''⟩ := hw'
    subst hw''
    have BN := Lib.hid (below_drewN hb.out nq)
    go_wp2_with fail
    go_ret
    exact EN.out _ BN.out
   subst ct
   by_cases cb : xs = ys
   ·subst cb
    have NS := Lib.hid (NS.out ⟨rfl, rfl⟩)
    clear NF rx ry
    go_upto_region 6 with fail
    refine wp_region_draw_tail 25 (by kernel_rfl) (by kernel_rfl) ?_
    simp only [List.take_succ_cons, List.take_zero, List.drop_succ_cons, List.drop_zero]
    repeat (first | go_big_quiet_step (fail) | quiet_step (fail))
    refine wpQuiet_nil ?_
    intro _ hw'
    obtain ⟨nq, hw''⟩ := hw'
    subst hw''
    have BN := Lib.hid (below_drewN hb.out nq)
    go_wp2_with fail
    go_roundw
    case rel => exact ⟨k + 1, by omega, by go_num, NS, BN⟩
    case measure => simp [intOf]; omega
   ·have cz : ((barr xs).toList == (barr ys).toList) = false := by rw [eq_bytes]; exact decide_eq_false (fun z => cb (barr_inj rx.out ry.out z))
    have EN := Lib.hid (fun (V : World) (b : Below W.heap.size W V) => samR_no (l := frms L) (m := frms M) (fun z => cb (NF.out z).2) b)
    clear NS NF rx ry cb
    go_upto_region 6 with fail
    refine wp_region_draw_tail 25 (by kernel_rfl) (by kernel_rfl) ?_
    simp only [List.take_succ_cons, List.take_zero, List.drop_succ_cons, List.drop_zero]
    repeat (first | go_big_quiet_step (fail) | quiet_step (fail))
    refine wpQuiet_nil ?_
    intro _ hw'
    obtain ⟨nq, hw''⟩ := hw'
    subst hw''
    have BN := Lib.hid (below_drewN hb.out nq)
    go_wp2_with fail
    go_ret
    exact EN.out _ BN.out
  ·have e : k = n := by omega
   subst e
   have q5 : ¬ (k : Int) < (k : Int) := by omega
   have EQ : Hid (frms L = frms M) := Lib.hid (frms_ext (by rw [← HN.out, ← HM.out]) (fun j h1 h2 => hs.out j h1 h2 (by have := HN.out; omega)))
   clear hs
   go_wp2_with fail
   go_ret
   exact samR_yes EQ.out hb.out
end
end Go.Proofs.YtmaofighbpnbiaaGreatDoor
