/- What lies below tapes (kept of earlier texts: DfWn, DfAb, DfO, StyC, StyO, DfM, Rows2, StyS, Pair). -/
import Derived.Test.YtifoijbpbigaaaaGreatDoorDaFB
import Derived.Deep.QuietTactic
import Derived.WalkMore
import Derived.RangeFuncNested
import Derived.RangeFuncBound
import Derived.RangeFuncCalls
import Derived.RangeFuncLeaves
import Derived.Shelf.Abstract
import Derived.Shelf.RegionOpen
import Derived.WalkKit
import Derived.OwnWalkIn
import Derived.TacticsInMore
import Derived.LoopNIn
import Derived.LoopIn
import Derived.StillTailTactics
import Derived.Deep.Slices
import Derived.Laws.AppendOwnNone
import Derived.Maps.AppendAt
set_option linter.unusedVariables false
set_option linter.unusedSimpArgs false
namespace Go.Proofs.YtifoijbpbigaaaaGreatDoor
section
open Go.RowKit Go.Sort
def jC (l : List (Int × Int)) : List Value := l.flatMap fun p => [.int .i32 p.1, .int .i32 p.2]
set_option maxHeartbeats 8000000 in
set_option maxRecDepth 100000 in
theorem d_told (c : Nat) (hc : c < 9) (w : World) : Calls Tryz.prog 137 #[.int .i8 (c : Int)] w fun e w' => e = .returned (.slice (some ⟨w.heap.size, 0, none⟩) (qr c).length (qr c).length) /\ w' = w.alloc (.cells (jC (qr c)).toArray 191) := by
 have q : c = 0 \/ c = 1 \/ c = 2 \/ c = 3 \/ c = 4 \/ c = 5 \/ c = 6 \/ c = 7 \/ c = 8 := by omega
 rcases q with rfl | rfl | rfl | rfl | rfl | rfl | rfl | rfl | rfl
 all_goals
  go_enter Tryz.func137, Tryz.ntmps137
  go_wp2_with fail
  go_ret
  exact ⟨rfl, rfl⟩
end
section
open Go.RowKit Go.Sort
def SeesK (w : World) (g : Nat) (l : List (Int × Int)) : Prop := ∀ j, j < l.length -> w.cell? ⟨g, j * 2, none⟩ = some (.int .i32 (l.getD j (0, 0)).1) /\ w.cell? ⟨g, j * 2 + 1, none⟩ = some (.int .i32 (l.getD j (0, 0)).2)
theorem Qc : ∀ (l : List (Int × Int)) (j : Nat), j < l.length -> (jC l)[j * 2]? = some (.int .i32 (l.getD j (0, 0)).1) /\ (jC l)[j * 2 + 1]? = some (.int .i32 (l.getD j (0, 0)).2)
 | [], j, h => by cases h
 | p :: l, 0, _ => ⟨rfl, rfl⟩
 | p :: l, j + 1, h => by
  have ih := Qc l j (by simpa using h)
  have e : jC (p :: l) = .int .i32 p.1 :: .int .i32 p.2 :: jC l := rfl
  rw [e, show (j + 1) * 2 = j * 2 + 1 + 1 by omega]
  simpa using ih
theorem SeesK.new (w : World) (l : List (Int × Int)) (T : TypeId) : SeesK (w.alloc (.cells (jC l).toArray T)) w.heap.size l := fun j hj => by
 have h := Qc l j hj
 exact ⟨(qw w (jC l) T _ _ h.1).1, (qw w (jC l) T _ _ h.2).1⟩
theorem SeesK.below {w w' : World} {g B : Nat} {l : List (Int × Int)} (h : SeesK w g l) (hb : Below B w w') (hg : g < B) : SeesK w' g l := fun j hj =>
 ⟨(hb.cell (p := ⟨g, j * 2, none⟩) hg).trans (h j hj).1, (hb.cell (p := ⟨g, j * 2 + 1, none⟩) hg).trans (h j hj).2⟩
set_option maxHeartbeats 4000000 in
set_option maxRecDepth 100000 in
theorem d_w1 (g bl br i : Nat) (l : List (Int × Int)) (r : Int) (hi : i < l.length) (w : World) (hl : w.cell? ⟨bl, 0, none⟩ = some (.slice (some ⟨g, 0, none⟩) l.length l.length)) (hr : w.cell? ⟨br, 0, none⟩ = some (.int .i32 r)) (hK : SeesK w g l) :
  Calls Tryz.prog 145 #[.int .i64 (i : Int), .pointer (some ⟨bl, 0, none⟩), .pointer (some ⟨br, 0, none⟩)] w fun e w' => e = .returned (.bool (decide (r <= (l.getD i (0, 0)).2))) /\ ∃ q, w' = w.drewN q := by
 obtain ⟨_, c1⟩ := hK i hi
 clear hK
 generalize (l.getD i (0, 0)).2 = y at *
 generalize l.length = n at *
 go_enter Tryz.func145, Tryz.ntmps145
 go_wp2_with fail
 go_quiet (fail)
 go_wp2_with fail
 go_ret
 exact ⟨rfl, _, rfl⟩
theorem count_lo (p : Nat -> Bool) (n lo : Nat) (hl : lo <= n) (h1 : ∀ t, t < lo -> p t = false) (h2 : ∀ t, lo <= t -> t < n -> p t = true) : (List.range n).countP (fun i => !p i) = lo := by
 have e : List.range n = List.range lo ++ (List.range (n - lo)).map (lo + ·) := by
  rw [<- List.range_add]
  congr 1
  omega
 rw [e, List.countP_append]
 have a : (List.range lo).countP (fun i => !p i) = lo := by
  have := List.countP_eq_length.2 (fun i (hi : i ∈ List.range lo) => show (!p i) = true by rw [h1 i (List.mem_range.1 hi)]; rfl)
  rw [this, List.length_range]
 have b : ((List.range (n - lo)).map (lo + ·)).countP (fun i => !p i) = 0 := by
  refine List.countP_eq_zero.2 fun i hi => ?_
  obtain ⟨j, hj, rfl⟩ := List.mem_map.1 hi
  have := List.mem_range.1 hj
  rw [h2 (lo + j) (by omega) (by omega)]
  decide
 omega
set_option maxHeartbeats 8000000 in
set_option maxRecDepth 100000 in
theorem d_search (g bl br : Nat) (l : List (Int × Int)) (r : Int) (hn : l.length <= 1000) (hm : ∀ i j, i <= j -> j < l.length -> (l.getD i (0, 0)).2 <= (l.getD j (0, 0)).2) (w : World) (hl : w.cell? ⟨bl, 0, none⟩ = some (.slice (some ⟨g, 0, none⟩) l.length l.length)) (hr : w.cell? ⟨br, 0, none⟩ = some (.int .i32 r)) (hK : SeesK w g l) :
  Calls Tryz.prog 144 #[.int .i64 (l.length : Int), .func (.func 145) #[] #[.pointer (some ⟨bl, 0, none⟩), .pointer (some ⟨br, 0, none⟩)]] w fun e w' => e = .returned (.int .i64 (qt l r : Int)) /\ ∃ q, w' = w.drewN q := by
 have C := Vd (fun i hi (W : World) (h : ∃ q, W = w.drewN q) => d_w1 g bl br i l r hi W (by obtain ⟨q, rfl⟩ := h; exact hl) (by obtain ⟨q, rfl⟩ := h; exact hr) (by obtain ⟨q, rfl⟩ := h; exact hK))
 have AK : Hid (qt l r = (List.range l.length).countP fun i => !decide (r <= (l.getD i (0, 0)).2)) := Vd rfl
 have HM : Hid (∀ i j, i <= j -> j < l.length -> decide (r <= (l.getD i (0, 0)).2) = true -> decide (r <= (l.getD j (0, 0)).2) = true) := Vd (fun i j h1 h2 h3 => by
  have := hm i j h1 h2
  have := of_decide_eq_true h3
  exact decide_eq_true (by omega))
 obtain ⟨p, hp⟩ : ∃ p : Nat -> Bool, p = fun i => decide (r <= (l.getD i (0, 0)).2) := ⟨_, rfl⟩
 have C : Hid (∀ i, i < l.length -> ∀ W : World, (∃ q, W = w.drewN q) -> Calls Tryz.prog 145 #[.int .i64 (i : Int), .pointer (some ⟨bl, 0, none⟩), .pointer (some ⟨br, 0, none⟩)] W fun e w' => e = .returned (.bool (p i)) /\ ∃ q, w' = W.drewN q) := by rw [hp]; exact C
 have AK : Hid (qt l r = (List.range l.length).countP fun i => !p i) := by rw [hp]; exact AK
 have HM : Hid (∀ i j, i <= j -> j < l.length -> p i = true -> p j = true) := by rw [hp]; exact HM
 clear hp hm hl hr hK
 generalize qt l r = ak at *
 generalize l.length = n at *
 go_enter Tryz.func144, Tryz.ntmps144
 go_wp2_with fail
 go_loopw [5, 6, 7] (fun s5 s6 s7 wr => ∃ lo hi : Nat, s5 = .int .i64 lo /\ s6 = .int .i64 hi /\ lo <= hi /\ hi <= n /\ (∃ q, wr = w.drewN q) /\ Hid ((∀ t, t < lo -> p t = false) /\ (∀ t, hi <= t -> t < n -> p t = true))) (fun s5 s6 _ _ => (intOf s6).toNat - (intOf s5).toNat)
 case atStart => exact ⟨0, n, rfl, rfl, by omega, Vf, ⟨0, rfl⟩, Vd ⟨fun t h => by omega, fun t h1 h2 => by omega⟩⟩
 case round =>
  obtain ⟨lo, hi, rfl, rfl, h1, h2, hq, I⟩ := hrel
  by_cases lt : lo < hi
  ·obtain ⟨m, hmm⟩ : ∃ m, m = (lo + hi) / 2 := ⟨_, rfl⟩
   have m1 : lo <= m := by omega
   have m2 : m < hi := by omega
   have em : ((lo : Int) + (hi : Int)) / 2 = (m : Int) := by omega
   have CC := Vd (C.out m (by omega) _ hq)
   have HQ := Vd hq
   clear hmm hq
   go_wp2_with fail
   refine CC.out.mono ?_; rintro e w1 ⟨rfl, q1, rfl⟩
   have NQ : Hid (∃ q, wr.drewN q1 = w.drewN q) := Vd (by
    obtain ⟨q, e⟩ := HQ.out
    exact ⟨q + q1, by rw [e, World.drewN_drewN]⟩)
   cases hp : p m with
   | true =>
    go_wp2_with fail
    go_roundw
    case rel => exact ⟨lo, m, rfl, rfl, m1, by omega, NQ.out, Vd ⟨I.out.1, fun t t1 t2 => HM.out m t t1 t2 hp⟩⟩
    case measure => simp [intOf]; omega
   | false =>
    go_wp2_with fail
    go_roundw
    case rel =>
     refine ⟨m + 1, hi, by go_num, rfl, by omega, h2, NQ.out, Vd ⟨fun t ht => ?_, I.out.2⟩⟩
     cases ht2 : p t with
     | false => rfl
     | true =>
      have := HM.out t m (by omega) (by omega) ht2
      rw [hp] at this
      cases this
    case measure => simp [intOf]; omega
  ·have e : lo = hi := by omega
   subst e
   have R : Hid (ak = lo) := Vd (by rw [AK.out]; exact count_lo p n lo h2 I.out.1 I.out.2)
   go_wp2_with fail
   go_ret
   exact ⟨by rw [R.out]; rfl, hq⟩
set_option maxHeartbeats 8000000 in
set_option maxRecDepth 100000 in
theorem d_within (g : Nat) (l : List (Int × Int)) (r : Int) (hn : l.length <= 1000) (hm : ∀ i j, i <= j -> j < l.length -> (l.getD i (0, 0)).2 <= (l.getD j (0, 0)).2) (w : World) (hg : g < w.heap.size) (hK : SeesK w g l) :
  Calls Tryz.prog 136 #[.slice (some ⟨g, 0, none⟩) l.length l.length, .int .i32 r] w fun e w' => e = .returned (.bool (jb l r)) /\ Below w.heap.size w w' := by
 have hmf : ∀ (fn : Fn) (first cap : Array Value) (w : World), (Instr.makeFunc fn first cap).run Tryz.prog w = .ok (.func fn first cap) w := fun _ _ _ _ => rfl
 obtain ⟨W, hW⟩ : ∃ W, W = (w.alloc (.cells #[.slice (some ⟨g, 0, none⟩) l.length l.length] 175)).alloc (.cells #[.int .i32 r] 21) := ⟨_, rfl⟩
 have hB : Below w.heap.size w W := by rw [hW]; exact ((Below.refl _ w).alloc Vf _).alloc (by simp) _
 have K1 := hK.below hB hg
 have c1 : W.cell? ⟨w.heap.size, 0, none⟩ = some (.slice (some ⟨g, 0, none⟩) l.length l.length) := by rw [hW]; simp [go_sem]
 have c2 : W.cell? ⟨w.heap.size + 1, 0, none⟩ = some (.int .i32 r) := by rw [hW]; simp [go_sem]
 have SE := Vd (d_search g w.heap.size (w.heap.size + 1) l r hn hm W c1 c2 K1)
 have WK : Hid (jb l r = (decide (qt l r < l.length) && decide ((l.getD (qt l r) (0, 0)).1 <= r))) := Vd rfl
 have KA : Hid (qt l r < l.length -> W.cell? ⟨g, qt l r * 2, none⟩ = some (.int .i32 (l.getD (qt l r) (0, 0)).1)) := Vd (fun h => (K1 _ h).1)
 have HB := Vd hB
 generalize jb l r = wk at *
 generalize qt l r = ak at *
 generalize (l.getD ak (0, 0)).1 = y at *
 generalize l.length = n at *
 clear hm hK K1 hB
 go_enter Tryz.func136, Tryz.ntmps136
 go_wp2_with fail
 rw [<- hW]
 clear hW
 refine SE.out.mono ?_; rintro e w' ⟨rfl, q, rfl⟩
 by_cases lt : ak < n
 ·have k0 := KA.out lt
  have R : Hid (wk = decide (y <= r)) := Vd (by rw [WK.out, decide_eq_true lt]; rfl)
  go_wp2_with fail
  go_quiet (fail)
  go_wp2_with fail
  go_ret
  exact ⟨by rw [R.out]; rfl, HB.out.trans ⟨rfl, rfl, rfl, Vf, fun _ _ => rfl⟩⟩
 ·have R : Hid (wk = false) := Vd (by rw [WK.out, decide_eq_false lt]; rfl)
  go_wp2_with fail
  go_quiet (fail)
  go_wp2_with fail
  go_ret
  exact ⟨by rw [R.out]; rfl, HB.out.trans ⟨rfl, rfl, rfl, Vf, fun _ _ => rfl⟩⟩
end
section
open Go.RowKit Go.Sort
theorem Xm (r : Int) (f c : Nat) (h : jb (qr c) r = true) : qx r (f + 1) c = c := by unfold qx; rw [if_pos h]
theorem Xn (r : Int) (f c : Nat) (h : jb (qr c) r = false) : qx r (f + 1) c = qx r f (c + 1) := by
 conv => lhs; unfold qx
 rw [if_neg (by rw [h]; decide)]
set_option maxHeartbeats 8000000 in
set_option maxRecDepth 100000 in
theorem vr (r : Int) (w : World) : Calls Tryz.prog 117 #[.int .i32 r] w fun e w' => e = .returned (.int .i8 (za r)) /\ Below w.heap.size w w' := by
 have KI : Hid (za r = if r < 0 \/ 1114111 < r then 0 else qx r 9 0) := Vd (Zp r)
 have TO := Vd (fun c hc (W : World) => d_told c hc W)
 have WI : Hid (∀ c, c < 9 -> ∀ (W : World), Calls Tryz.prog 136 #[.slice (some ⟨W.heap.size, 0, none⟩) (qr c).length (qr c).length, .int .i32 r] (W.alloc (.cells (jC (qr c)).toArray 191)) fun e w' => e = .returned (.bool (jb (qr c) r)) /\ Below W.heap.size W w') := Vd (fun c hc W => by
  have hl := told_len ⟨c, hc⟩
  simp only at hl
  refine (d_within W.heap.size (qr c) r (by omega) (fun i j h1 h2 => JK ⟨c, hc⟩ ⟨i, by omega⟩ ⟨j, by omega⟩ h1 h2) _ (by simp) (SeesK.new W (qr c) _)).mono fun e w' h => ⟨h.1, ?_⟩
  exact zl ((Below.refl _ W).alloc Vf _) (by simp) h.2)
 have FH := Vd (Xm r)
 have FM := Vd (Xn r)
 generalize za r = kd at *
 by_cases h1 : r < 0
 ·have R : Hid (kd = 0) := Vd (by rw [KI.out, if_pos (Or.inl h1)])
  go_enter Tryz.func117, Tryz.ntmps117
  go_wp2_with fail
  go_ret
  exact ⟨by rw [R.out]; rfl, Below.refl _ _⟩
 by_cases h2 : 1114111 < r
 ·have R : Hid (kd = 0) := Vd (by rw [KI.out, if_pos (Or.inr h2)])
  go_enter Tryz.func117, Tryz.ntmps117
  go_wp2_with fail
  go_ret
  exact ⟨by rw [R.out]; rfl, Below.refl _ _⟩
 have R : Hid (kd = qx r 9 0) := Vd (by rw [KI.out, if_neg (by omega)])
 clear KI
 go_enter Tryz.func117, Tryz.ntmps117
 go_wp2_with fail
 go_loopw [3, 10] (fun s3 s10 wr => ∃ k : Nat, k <= 9 /\ s10 = .int .i8 k /\ Hid (qx r (9 - k) k = kd /\ Below w.heap.size w wr)) (fun _ s10 _ => 9 - (intOf s10).toNat)
 case atStart => exact ⟨0, by omega, rfl, Vd ⟨R.out.symm, Below.refl _ _⟩⟩
 case round =>
  obtain ⟨k, hk, rfl, hI⟩ := hrel
  by_cases lt : k < 9
  ·have T1 := Vd (TO.out k lt wr)
   have W1 := Vd (WI.out k lt wr)
   have FU : 9 - k = (9 - (k + 1)) + 1 := by omega
   have FK := hI.out.1
   rw [FU] at FK
   have FK := Vd FK
   have FH := Vd (FH.out (9 - (k + 1)) k)
   have FM := Vd (FM.out (9 - (k + 1)) k)
   clear FU
   generalize qr k = L at *
   go_wp2_with fail
   refine T1.out.mono ?_; rintro e w1 ⟨rfl, rfl⟩
   go_wp2_with fail
   refine W1.out.mono ?_; rintro e w1 ⟨rfl, hb1⟩
   have HB := Vd (hI.out.2.trans (hb1.mono hI.out.2.size))
   clear hb1
   cases hw : jb L r with
   | true =>
    have R2 : Hid (kd = (k : Int)) := Vd (by rw [<- FK.out]; exact FH.out hw)
    go_wp2_with fail
    go_ret
    exact ⟨by rw [R2.out]; rfl, HB.out⟩
   | false =>
    have NX : Hid (qx r (9 - (k + 1)) (k + 1) = kd /\ Below w.heap.size w w1) := Vd ⟨by rw [<- FK.out]; exact (FM.out hw).symm, HB.out⟩
    go_wp2_with fail
    go_roundw
    case rel => exact ⟨k + 1, by omega, by go_num, NX⟩
    case measure => simp [intOf]; omega
  ·have ek : k = 9 := by omega
   subst ek
   have R2 : Hid (kd = 9) := Vd (by rw [<- hI.out.1]; rfl)
   go_wp2_with fail
   go_ret
   exact ⟨by rw [R2.out]; rfl, hI.out.2⟩
theorem j4 (r : Int) : 0 <= za r /\ za r <= 9 := by
 rw [Zp]
 unfold jT
 split
 ·omega
 ·have h : ∀ f c, c + f <= 9 -> 0 <= qx r f c /\ qx r f c <= 9 := by
   intro f
   induction f with
   | zero => intro c _; unfold qx; omega
   | succ f ih =>
    intro c hc
    unfold qx
    split
    ·omega
    ·exact ih (c + 1) (by omega)
  exact h 9 0 (by decide)
def ofK (k : Int) : Int := if k = 1 \/ k = 2 \/ k = 3 \/ k = 4 then 0 else if k = 7 \/ k = 5 then 2 else 1
set_option maxHeartbeats 8000000 in
set_option maxRecDepth 100000 in
theorem d_Of (r : Int) (w : World) : Calls Tryz.prog 118 #[.int .i32 r] w fun e w' => e = .returned (.int .i64 (ofK (za r))) /\ Below w.heap.size w w' := by
 have KI := Vd (vr r w)
 have kr := j4 r
 generalize za r = k at *
 have q : k = 0 \/ k = 1 \/ k = 2 \/ k = 3 \/ k = 4 \/ k = 5 \/ k = 6 \/ k = 7 \/ k = 8 \/ k = 9 := by omega
 clear kr
 rcases q with rfl | rfl | rfl | rfl | rfl | rfl | rfl | rfl | rfl | rfl
 all_goals
  go_enter Tryz.func118, Tryz.ntmps118
  go_wp2_with fail
  refine KI.out.mono ?_; rintro e w1 ⟨rfl, hb1⟩
  go_wp2_with fail
  go_ret
  exact ⟨rfl, hb1⟩
set_option maxHeartbeats 8000000 in
set_option maxRecDepth 100000 in
theorem d_pic (k : Int) (h0 : 0 <= k) (h1 : k <= 9) (w : World) : Calls Tryz.prog 119 #[.int .i8 k] w fun e w' => e = .returned (.bool (picK k)) /\ w' = w := by
 have q : k = 0 \/ k = 1 \/ k = 2 \/ k = 3 \/ k = 4 \/ k = 5 \/ k = 6 \/ k = 7 \/ k = 8 \/ k = 9 := by omega
 rcases q with rfl | rfl | rfl | rfl | rfl | rfl | rfl | rfl | rfl | rfl
 all_goals
  go_enter Tryz.func119, Tryz.ntmps119
  go_wp2_with fail
  go_ret
  exact ⟨rfl, rfl⟩
end
section
open Go.RowKit Go.Sort
theorem wideP_at (l : List Int) (k : Int) (hk : k = za (l.getD 0 0)) (h1 : k ≠ 1) :
  ji l = if k = 8 /\ 1 < l.length /\ l.getD 1 0 = 65039 then 2 else if k = 6 /\ 1 < l.length /\ za (l.getD 1 0) = 6 then 2 else ofK k := by
 unfold ji ofK
 rw [<- hk, if_neg h1]
 by_cases c8 : k = 8 /\ 1 < l.length /\ l.getD 1 0 = 65039
 ·rw [if_pos c8, if_pos c8]
 ·rw [if_neg c8, if_neg c8]
  by_cases c6 : k = 6 /\ 1 < l.length /\ za (l.getD 1 0) = 6
  ·rw [if_pos c6, if_pos c6]
  ·rw [if_neg c6, if_neg c6]
   by_cases c2 : k = 2 \/ k = 4 \/ k = 3
   ·rw [if_pos c2, if_pos (show k = 1 \/ k = 2 \/ k = 3 \/ k = 4 by omega)]
   ·rw [if_neg c2, if_neg (show ¬ (k = 1 \/ k = 2 \/ k = 3 \/ k = 4) by omega)]
theorem qi (a : Addr) (n : Nat) (h : n ≠ 0) : (⟨a.block, a.off + n, none⟩ : Addr) = a.add n := by unfold Addr.add; rw [if_neg h]
theorem Qd (l : List Int) (base : Int) (f n : Nat) : zF l base (f + 1) n = if n < l.length /\ qF base (l.getD (n - 1) 0) (l.getD n 0) = true then zF l base f (n + 1) else n := by
 conv => lhs; unfold zF
set_option maxHeartbeats 16000000 in
set_option maxRecDepth 100000 in
theorem d_length (A : Option Addr) (c : Nat) (l : List Int) (hne : l ≠ []) (hl : l.length <= 35184372000000) (w : World) (S : Sees w w.heap.size A (rns l)) :
  Calls Tryz.prog 102 #[.slice A l.length c] w fun e w' => e = .returned (.tuple #[.int .i64 (zp l : Int), .int .i64 (ji l)]) /\ Below w.heap.size w w' := by
 have hp : 0 < l.length := List.length_pos_iff.2 hne
 obtain ⟨ad, rfl, hab, c0⟩ := jd S 0 hp
 have CC : Hid (∀ k, k < l.length -> ∀ W, Below w.heap.size w W -> W.cell? (ad.add k) = some (.int .i32 (l.getD k 0))) := Vd (fun k hk W hb => by
  obtain ⟨ad', e, b', c'⟩ := jd S k hk
  cases e
  exact (hb.cell (p := ad.add k) (by rw [zj]; exact hab)).trans c')
 have K0 := Vd (vr (l.getD 0 0))
 have O0 := Vd (d_Of (l.getD 0 0))
 have KK := Vd (fun r => vr r)
 have kr := j4 (l.getD 0 0)
 have FC : Hid (zp l = if za (l.getD 0 0) = 1 then 1 else zF l (za (l.getD 0 0)) (16 - qu l) (qu l)) := Vd rfl
 have WA := Vd (wideP_at l (za (l.getD 0 0)) rfl)
 have W1 : Hid (za (l.getD 0 0) = 1 -> ji l = 0) := Vd (fun h => by unfold ji; rw [if_pos h])
 have BK : Hid (qu l = if za (l.getD 0 0) = 6 /\ 1 < l.length /\ za (l.getD 1 0) = 6 then 2 else 1) := Vd rfl
 have GG : Hid (∀ f n, zF l (za (l.getD 0 0)) (f + 1) n = if n < l.length /\ qF (za (l.getD 0 0)) (l.getD (n - 1) 0) (l.getD n 0) = true then zF l (za (l.getD 0 0)) f (n + 1) else n) := Vd (Qd l _)
 generalize zp l = F at *
 generalize ji l = V at *
 generalize qu l = B0 at *
 clear hne S
 have c00 := CC.out 0 hp
 generalize l.getD 0 0 = r0 at *
 generalize za r0 = k0 at *
 obtain ⟨n, hn⟩ : ∃ n, n = l.length := ⟨_, rfl⟩
 rw [<- hn] at hp hl CC WA BK GG ⊢
 have HN := Vd hn
 have C00 := Vd c00
 clear hn c00
 have cx := C00.out w (Below.refl _ _)
 have ad0 : ad.add 0 = ad := by unfold Addr.add; rw [if_pos rfl]
 rw [ad0] at C00 cx
 go_enter Tryz.func102, Tryz.ntmps102
 go_wp2_with fail
 go_step3
 go_wp2_with fail
 refine (K0.out _).mono ?_; rintro e w1 ⟨rfl, hb1⟩
 have HB1 := Vd hb1
 clear hb1 cx
 by_cases k1 : k0 = 1
 ·subst k1
  have R : Hid (F = 1) := Vd (by rw [FC.out, if_pos rfl])
  have R2 : Hid (V = 0) := Vd (W1.out rfl)
  go_wp2_with fail
  rw [Exit.noGoto_ret]
  exact bodyPost_ret (v := .tuple #[.int .i64 1, .int .i64 0]) (by simp [results, Tryz.results102, go_sem]) rfl ⟨by rw [R.out, R2.out]; rfl, HB1.out⟩
 ·have WA := Vd (WA.out k1)
  have FC : Hid (F = zF l k0 (16 - B0) B0) := Vd (by rw [FC.out, if_neg k1])
  have cx := C00.out w1 HB1.out
  go_wp2_with fail
  refine (O0.out _).mono ?_; rintro e w2 ⟨rfl, hb2⟩
  have HB2 := Vd (zl HB1.out HB1.out.size hb2)
  clear hb2 cx
  go_upto_region 5 with fail
  obtain ⟨β, hβ⟩ : ∃ β : Bool, β = decide (k0 = 6 /\ 1 < n /\ za (l.getD 1 0) = 6) := ⟨_, rfl⟩
  have HB := Vd hβ
  clear hβ
  go_cut [30] from 17 to 30 (fun s30 wx => s30 = .bool β /\ Hid (Below w.heap.size w wx))
  case first =>
   by_cases k6 : k0 = 6
   ·subst k6
    by_cases lt : 1 < n
    ·have c1 := CC.out 1 lt w2 HB2.out
     rw [<- qi ad 1 (by decide)] at c1
     have E : Hid (β = (za (l.getD 1 0) == 6)) := Vd (by
      rw [HB.out]
      by_cases z : za (l.getD 1 0) = 6
      ·rw [z, decide_eq_true ⟨rfl, lt, rfl⟩]; rfl
      ·rw [decide_eq_false (fun h => z h.2.2)]
       exact (beq_eq_false_iff_ne.2 z).symm)
     generalize l.getD 1 0 = r1 at *
     go_wp2_with fail
     refine (KK.out r1 _).mono ?_; rintro e w3 ⟨rfl, hb3⟩
     have HB3 := Vd (zl HB2.out HB2.out.size hb3)
     clear hb3
     go_wp2_with fail
     go_meet
     exact ⟨by rw [E.out], HB3⟩
    ·have E : Hid (β = false) := Vd (by rw [HB.out]; exact decide_eq_false (fun h => lt h.2.1))
     go_wp2_with fail
     go_meet
     exact ⟨by rw [E.out], HB2⟩
   ·have E : Hid (β = false) := Vd (by rw [HB.out]; exact decide_eq_false (fun h => k6 h.1))
    have q : (k0 == 6) = false := beq_eq_false_iff_ne.2 k6
    go_wp2_with fail
    go_meet
    exact ⟨by rw [E.out], HB2⟩
  case rest =>
   obtain ⟨rfl, hb3⟩ := hcut
   obtain ⟨W3, hW3⟩ : ∃ w0, w0 = wc := ⟨_, rfl⟩
   subst hW3
   have HB3 := hb3
   clear HB2 hb3
   go_upto_if 30 with fail
   go_cut [5, 6] from 30 to 30 (fun s5 s6 wx => s5 = .int .i64 (B0 : Int) /\ s6 = .int .i64 (if k0 = 6 /\ 1 < n /\ za (l.getD 1 0) = 6 then 2 else ofK k0) /\ wx = W3)
   case first =>
    cases hb : β with
    | true =>
     have z : k0 = 6 /\ 1 < n /\ za (l.getD 1 0) = 6 := of_decide_eq_true (by rw [<- HB.out]; exact hb)
     have E : Hid (B0 = 2) := Vd (by rw [BK.out, if_pos z])
     have E2 : Hid ((if k0 = 6 /\ 1 < n /\ za (l.getD 1 0) = 6 then 2 else ofK k0) = 2) := Vd (if_pos z)
     clear z hb HB
     go_wp2_with fail
     go_meet
     exact ⟨by rw [E.out]; rfl, by rw [E2.out], rfl⟩
    | false =>
     have z : ¬ (k0 = 6 /\ 1 < n /\ za (l.getD 1 0) = 6) := of_decide_eq_false (by rw [<- HB.out]; exact hb)
     have E : Hid (B0 = 1) := Vd (by rw [BK.out, if_neg z])
     have E2 : Hid ((if k0 = 6 /\ 1 < n /\ za (l.getD 1 0) = 6 then 2 else ofK k0) = ofK k0) := Vd (if_neg z)
     clear z hb HB
     go_wp2_with fail
     go_meet
     exact ⟨by rw [E.out]; rfl, by rw [E2.out], rfl⟩
   case rest =>
    obtain ⟨rfl, rfl, rfl⟩ := hcut
    obtain ⟨W4, hW4⟩ : ∃ w0, w0 = wc := ⟨_, rfl⟩
    subst hW4
    obtain ⟨v6, hv6⟩ : ∃ v6 : Int, v6 = if k0 = 6 /\ 1 < n /\ za (l.getD 1 0) = 6 then 2 else ofK k0 := ⟨_, rfl⟩
    have VW : Hid (V = if k0 = 8 /\ 1 < n /\ l.getD 1 0 = 65039 then 2 else v6) := Vd (by rw [WA.out, hv6])
    rw [<- hv6]
    clear hv6 WA HB β
    obtain ⟨γ, hγ⟩ : ∃ γ : Bool, γ = decide (k0 = 8 /\ 1 < n /\ l.getD 1 0 = 65039) := ⟨_, rfl⟩
    have HG := Vd hγ
    clear hγ
    go_upto_region 7 with fail
    go_cut [43] from 31 to 43 (fun s43 wx => s43 = .bool γ /\ wx = W4)
    case first =>
     by_cases k8 : k0 = 8
     ·subst k8
      by_cases lt : 1 < n
      ·have c1 := CC.out 1 lt W4 HB3.out
       rw [<- qi ad 1 (by decide)] at c1
       have E : Hid (γ = (l.getD 1 0 == 65039)) := Vd (by
        rw [HG.out]
        by_cases z : l.getD 1 0 = 65039
        ·rw [z, decide_eq_true ⟨rfl, lt, rfl⟩]; rfl
        ·rw [decide_eq_false (fun h => z h.2.2)]
         exact (beq_eq_false_iff_ne.2 z).symm)
       generalize l.getD 1 0 = r1 at *
       go_wp2_with fail
       go_meet
       exact ⟨by rw [E.out], rfl⟩
      ·have E : Hid (γ = false) := Vd (by rw [HG.out]; exact decide_eq_false (fun h => lt h.2.1))
       go_wp2_with fail
       go_meet
       exact ⟨by rw [E.out], rfl⟩
     ·have E : Hid (γ = false) := Vd (by rw [HG.out]; exact decide_eq_false (fun h => k8 h.1))
      have q : (k0 == 8) = false := beq_eq_false_iff_ne.2 k8
      go_wp2_with fail
      go_meet
      exact ⟨by rw [E.out], rfl⟩
    case rest =>
     obtain ⟨rfl, rfl⟩ := hcut
     obtain ⟨W5, hW5⟩ : ∃ w0, w0 = wc := ⟨_, rfl⟩
     subst hW5
     go_upto_if 43 with fail
     go_cut [6] from 43 to 43 (fun s6 wx => s6 = .int .i64 V /\ wx = W5)
     case first =>
      cases hb : γ with
      | true =>
       have z : k0 = 8 /\ 1 < n /\ l.getD 1 0 = 65039 := of_decide_eq_true (by rw [<- HG.out]; exact hb)
       have E : Hid (V = 2) := Vd (by rw [VW.out, if_pos z])
       clear z hb HG
       go_wp2_with fail
       go_meet
       exact ⟨by rw [E.out], rfl⟩
      | false =>
       have z : ¬ (k0 = 8 /\ 1 < n /\ l.getD 1 0 = 65039) := of_decide_eq_false (by rw [<- HG.out]; exact hb)
       have E : Hid (V = v6) := Vd (by rw [VW.out, if_neg z])
       clear z hb HG
       go_wp2_with fail
       go_meet
       exact ⟨by rw [E.out], rfl⟩
     case rest =>
      obtain ⟨rfl, rfl⟩ := hcut
      clear HG VW γ
      go_wp2_with fail
      go_step3
      go_wp2_with fail
      have B1 : 1 <= B0 /\ B0 <= n /\ B0 <= 2 := by
       rw [BK.out]
       by_cases z : k0 = 6 /\ 1 < n /\ za (l.getD 1 0) = 6
       ·rw [if_pos z]; omega
       ·rw [if_neg z]; omega
      have PK := Vd (d_pic k0 kr.1 kr.2)
      clear BK k1 W1
      go_loopw [5] (fun s5 wr => ∃ m : Nat, 1 <= m /\ m <= n /\ m <= 16 /\ s5 = .int .i64 m /\ Hid (zF l k0 (16 - m) m = F /\ Below w.heap.size w wr)) (fun s5 _ => n - (intOf s5).toNat)
      case atStart => exact ⟨B0, B1.1, B1.2.1, by omega, rfl, Vd ⟨FC.out.symm, HB3.out⟩⟩
      case round =>
       obtain ⟨m, m1, m2, m3, rfl, hI⟩ := hrel
       clear B1
       by_cases lt : m < n
       ·by_cases l16 : m < 16
        ·have FU : 16 - m = (16 - (m + 1)) + 1 := by omega
         have GX := hI.out.1
         rw [FU, GG.out] at GX
         have NXT : Hid (qF k0 (l.getD (m - 1) 0) (l.getD m 0) = true -> zF l k0 (16 - (m + 1)) (m + 1) = F) := Vd (fun h => by rw [<- GX, if_pos ⟨lt, h⟩])
         have STP : Hid (qF k0 (l.getD (m - 1) 0) (l.getD m 0) = false -> F = m) := Vd (fun h => by rw [<- GX, if_neg (fun z => by rw [h] at z; cases z.2)])
         have cm := CC.out m lt wr hI.out.2
         have CA := Vd (fun W hb => CC.out (m - 1) (by omega) W hb)
         have HBW := Vd hI.out.2
         have TK : Hid (qF k0 (l.getD (m - 1) 0) (l.getD m 0) = if za (l.getD m 0) = 2 \/ za (l.getD m 0) = 4 \/ za (l.getD m 0) = 3 then true else if za (l.getD m 0) = 5 then picK k0 else if za (l.getD m 0) = 7 \/ za (l.getD m 0) = 8 then picK k0 && decide (za (l.getD (m - 1) 0) = 3) else false) := Vd rfl
         have KM := Vd (KK.out (l.getD m 0))
         have KA := Vd (KK.out (l.getD (m - 1) 0))
         have kmr := j4 (l.getD m 0)
         clear FU GX hI
         generalize qF k0 (l.getD (m - 1) 0) (l.getD m 0) = T at *
         generalize l.getD m 0 = rm at *
         generalize l.getD (m - 1) 0 = ra at *
         generalize za rm = km at *
         go_wp2_with fail
         refine (KM.out _).mono ?_; rintro e wx ⟨rfl, hbx⟩
         have HBx := Vd (zl HBW.out HBW.out.size hbx)
         clear hbx cm
         have q : km = 0 \/ km = 1 \/ km = 2 \/ km = 3 \/ km = 4 \/ km = 5 \/ km = 6 \/ km = 7 \/ km = 8 \/ km = 9 := by omega
         clear kmr
         rcases q with rfl | rfl | rfl | rfl | rfl | rfl | rfl | rfl | rfl | rfl
         ·have ST := Vd (STP.out (by rw [TK.out]; rfl))
          go_wp2_with fail
          rw [Exit.noGoto_ret]
          exact bodyPost_ret (v := .tuple #[.int .i64 (m : Int), .int .i64 V]) (by simp [results, Tryz.results102, go_sem]) rfl ⟨by rw [ST.out], HBx.out⟩
         ·have ST := Vd (STP.out (by rw [TK.out]; rfl))
          go_wp2_with fail
          rw [Exit.noGoto_ret]
          exact bodyPost_ret (v := .tuple #[.int .i64 (m : Int), .int .i64 V]) (by simp [results, Tryz.results102, go_sem]) rfl ⟨by rw [ST.out], HBx.out⟩
         ·have NX := Vd (NXT.out (by rw [TK.out]; rfl))
          go_wp2_with fail
          go_roundw
          case rel => exact ⟨m + 1, by omega, by omega, by omega, by go_num, Vd ⟨NX.out, HBx.out⟩⟩
          case measure => simp [intOf]; omega
         ·have NX := Vd (NXT.out (by rw [TK.out]; rfl))
          go_wp2_with fail
          go_roundw
          case rel => exact ⟨m + 1, by omega, by omega, by omega, by go_num, Vd ⟨NX.out, HBx.out⟩⟩
          case measure => simp [intOf]; omega
         ·have NX := Vd (NXT.out (by rw [TK.out]; rfl))
          go_wp2_with fail
          go_roundw
          case rel => exact ⟨m + 1, by omega, by omega, by omega, by go_num, Vd ⟨NX.out, HBx.out⟩⟩
          case measure => simp [intOf]; omega
         ·have TK : Hid (T = picK k0) := Vd (by rw [TK.out]; rfl)
          cases hpk : picK k0 with
          | true =>
           have NX := Vd (NXT.out (by rw [TK.out, hpk]))
           have PK := PK.out wx
           rw [hpk] at PK
           have PK := Vd PK
           clear hpk
           go_wp2_with fail
           refine PK.out.mono ?_; rintro e wy ⟨rfl, rfl⟩
           go_wp2_with fail
           go_roundw
           case rel => exact ⟨m + 1, by omega, by omega, by omega, by go_num, Vd ⟨NX.out, HBx.out⟩⟩
           case measure => simp [intOf]; omega
          | false =>
           have ST := Vd (STP.out (by rw [TK.out, hpk]))
           have PK := PK.out wx
           rw [hpk] at PK
           have PK := Vd PK
           clear hpk
           go_wp2_with fail
           refine PK.out.mono ?_; rintro e wy ⟨rfl, rfl⟩
           go_wp2_with fail
           rw [Exit.noGoto_ret]
           exact bodyPost_ret (v := .tuple #[.int .i64 (m : Int), .int .i64 V]) (by simp [results, Tryz.results102, go_sem]) rfl ⟨by rw [ST.out], HBx.out⟩
         ·have ST := Vd (STP.out (by rw [TK.out]; rfl))
          go_wp2_with fail
          rw [Exit.noGoto_ret]
          exact bodyPost_ret (v := .tuple #[.int .i64 (m : Int), .int .i64 V]) (by simp [results, Tryz.results102, go_sem]) rfl ⟨by rw [ST.out], HBx.out⟩
         ·have TW : Hid (T = (picK k0 && decide (za ra = 3))) := Vd (by rw [TK.out]; rfl)
          cases hpk : picK k0 with
          | true =>
           have PK := PK.out wx
           rw [hpk] at PK
           have PK := Vd PK
           have ca := CA.out wx HBx.out
           have em : ((m : Int) - 1) = ((m - 1 : Nat) : Int) := by omega
           have TV : Hid (T = decide (za ra = 3)) := Vd (by rw [TW.out, hpk]; rfl)
           clear hpk
           go_wp2_with fail
           refine PK.out.mono ?_; rintro e wy ⟨rfl, rfl⟩
           go_wp2_with fail
           refine (KA.out _).mono ?_; rintro e wz ⟨rfl, hbz⟩
           have HBx := Vd (zl HBx.out HBx.out.size hbz)
           clear hbz ca
           by_cases z : za ra = 3
           ·have NX := Vd (NXT.out (by rw [TV.out]; exact decide_eq_true z))
            rw [z]
            go_wp2_with fail
            go_roundw
            case rel => exact ⟨m + 1, by omega, by omega, by omega, by go_num, Vd ⟨NX.out, HBx.out⟩⟩
            case measure => simp [intOf]; omega
           ·have ST := Vd (STP.out (by rw [TV.out]; exact decide_eq_false z))
            have qz : (za ra != 3) = true := by rw [bne_iff_ne]; exact z
            go_wp2_with fail
            rw [Exit.noGoto_ret]
            exact bodyPost_ret (v := .tuple #[.int .i64 (m : Int), .int .i64 V]) (by simp [results, Tryz.results102, go_sem]) rfl ⟨by rw [ST.out], HBx.out⟩
          | false =>
           have ST := Vd (STP.out (by rw [TW.out, hpk]; rfl))
           have PK := PK.out wx
           rw [hpk] at PK
           have PK := Vd PK
           clear hpk
           go_wp2_with fail
           refine PK.out.mono ?_; rintro e wy ⟨rfl, rfl⟩
           go_wp2_with fail
           rw [Exit.noGoto_ret]
           exact bodyPost_ret (v := .tuple #[.int .i64 (m : Int), .int .i64 V]) (by simp [results, Tryz.results102, go_sem]) rfl ⟨by rw [ST.out], HBx.out⟩
         ·have TW : Hid (T = (picK k0 && decide (za ra = 3))) := Vd (by rw [TK.out]; rfl)
          cases hpk : picK k0 with
          | true =>
           have PK := PK.out wx
           rw [hpk] at PK
           have PK := Vd PK
           have ca := CA.out wx HBx.out
           have em : ((m : Int) - 1) = ((m - 1 : Nat) : Int) := by omega
           have TV : Hid (T = decide (za ra = 3)) := Vd (by rw [TW.out, hpk]; rfl)
           clear hpk
           go_wp2_with fail
           refine PK.out.mono ?_; rintro e wy ⟨rfl, rfl⟩
           go_wp2_with fail
           refine (KA.out _).mono ?_; rintro e wz ⟨rfl, hbz⟩
           have HBx := Vd (zl HBx.out HBx.out.size hbz)
           clear hbz ca
           by_cases z : za ra = 3
           ·have NX := Vd (NXT.out (by rw [TV.out]; exact decide_eq_true z))
            rw [z]
            go_wp2_with fail
            go_roundw
            case rel => exact ⟨m + 1, by omega, by omega, by omega, by go_num, Vd ⟨NX.out, HBx.out⟩⟩
            case measure => simp [intOf]; omega
           ·have ST := Vd (STP.out (by rw [TV.out]; exact decide_eq_false z))
            have qz : (za ra != 3) = true := by rw [bne_iff_ne]; exact z
            go_wp2_with fail
            rw [Exit.noGoto_ret]
            exact bodyPost_ret (v := .tuple #[.int .i64 (m : Int), .int .i64 V]) (by simp [results, Tryz.results102, go_sem]) rfl ⟨by rw [ST.out], HBx.out⟩
          | false =>
           have ST := Vd (STP.out (by rw [TW.out, hpk]; rfl))
           have PK := PK.out wx
           rw [hpk] at PK
           have PK := Vd PK
           clear hpk
           go_wp2_with fail
           refine PK.out.mono ?_; rintro e wy ⟨rfl, rfl⟩
           go_wp2_with fail
           rw [Exit.noGoto_ret]
           exact bodyPost_ret (v := .tuple #[.int .i64 (m : Int), .int .i64 V]) (by simp [results, Tryz.results102, go_sem]) rfl ⟨by rw [ST.out], HBx.out⟩
         ·have ST := Vd (STP.out (by rw [TK.out]; rfl))
          go_wp2_with fail
          rw [Exit.noGoto_ret]
          exact bodyPost_ret (v := .tuple #[.int .i64 (m : Int), .int .i64 V]) (by simp [results, Tryz.results102, go_sem]) rfl ⟨by rw [ST.out], HBx.out⟩
        ·have e16 : m = 16 := by omega
         subst e16
         obtain ⟨m, hm⟩ : ∃ m : Nat, m = 16 := ⟨_, rfl⟩
         have ST : Hid (F = 16) := Vd (by rw [<- hI.out.1]; rfl)
         have HBx := Vd hI.out.2
         go_wp2_with fail
         rw [Exit.noGoto_ret]
         exact bodyPost_ret (v := .tuple #[.int .i64 16, .int .i64 V]) (by simp [results, Tryz.results102, go_sem]) rfl ⟨by rw [ST.out]; rfl, HBx.out⟩
       ·have en : m = n := by omega
        have ST : Hid (F = m) := Vd (by
         rw [<- hI.out.1]
         exact Zq l k0 _ m (fun z => by have := z.1; rw [<- HN.out] at this; omega))
        have HBx := Vd hI.out.2
        go_wp2_with fail
        rw [Exit.noGoto_ret]
        exact bodyPost_ret (v := .tuple #[.int .i64 (m : Int), .int .i64 V]) (by simp [results, Tryz.results102, go_sem]) rfl ⟨by rw [ST.out], HBx.out⟩
end
section
open Go Go.RowKit Go.Sort
attribute [local go_sem] Oper.semAt_some
def plL : Int -> List (List Int × Int) -> List (Int × List Int × Int)
 | _, [] => []
 | p, c :: r => (p, c.1, c.2) :: plL (p + ((barr c.1).size : Int)) r
def encC (x : Int × List Int × Int) : Array Value := #[.int .i64 x.1, .agg #[.string (barr x.2.1), .int .i64 x.2.2]]
def lenV : Value -> Nat
 | .slice _ m _ => m
 | _ => 0
theorem Sees.drop {w : World} {B : Nat} {ad : Addr} {l : List Int} {k : Nat} (h : Sees w B (some ad) (rns l)) : Sees w B (some (ad.add k)) (rns (l.drop k)) := fun hne => by
 obtain ⟨ad', e, hb, hc⟩ := h (fun e => hne (by simp [rns] at e ⊢; rw [e]; simp))
 cases e
 refine ⟨_, rfl, by rw [zj]; exact hb, fun j u hj => ?_⟩
 have e : (ad.add k).add j = ad.add (k + j) := by
  unfold Addr.add
  by_cases k0 : k = 0
  ·subst k0; simp
  ·by_cases j0 : j = 0
   ·subst j0; simp
   ·rw [if_neg k0, if_neg j0, if_neg (by omega)]
    simp
    omega
 rw [e]
 refine hc (k + j) u ?_
 simp [rns, List.getElem?_drop] at hj ⊢
 exact hj
theorem Sees.take {w : World} {B : Nat} {A : Option Addr} {l : List Int} {k : Nat} (h : Sees w B A (rns l)) : Sees w B A (rns (l.take k)) := fun hne => by
 obtain ⟨ad, e, hb, hc⟩ := h (fun e => hne (by simp [rns] at e ⊢; rw [e]; simp))
 refine ⟨ad, e, hb, fun j u hj => hc j u ?_⟩
 simp [rns, List.getElem?_take] at hj ⊢
 exact hj.2
def KeepG (g : Nat) (W W' : World) : Prop := W.heap.size <= W'.heap.size /\ W'.heap[g]? = W.heap[g]?
theorem Sees.keepG {W W' : World} {g : Nat} {A : Option Addr} {xs : List Value} (h : Sees W W.heap.size A xs) (hA : ∀ ad, A = some ad -> ad.block = g) (k : KeepG g W W') : Sees W' W'.heap.size A xs := fun hne => by
 obtain ⟨ad, rfl, hb, hc⟩ := h hne
 refine ⟨ad, rfl, Nat.lt_of_lt_of_le hb k.1, fun j u hj => ?_⟩
 have e : W'.cell? (ad.add j) = W.cell? (ad.add j) := World.cell?_of_block (by rw [zj, hA ad rfl]; exact k.2)
 rw [e]
 exact hc j u hj
set_option maxHeartbeats 8000000 in
set_option maxRecDepth 100000 in
theorem d_all1 (n : Nat) (hn : 1 <= n) (y bn g : Nat) (A0 : Option Addr) (c0 : Nat) (l : List Int) (hl : l.length <= 35184372000000) (hc0 : l.length <= c0) (hr : ∀ r ∈ l, 0 <= r /\ r < 2097152) (J Jx : List (Int × List Int × Int) -> World -> Prop)
  (hJ : ∀ pre W W', J pre W -> Below W.heap.size W W' -> J pre W') (hA0 : ∀ ad, A0 = some ad -> ad.block = g)
  (hY : ∀ pre x W, J pre W -> pre.length < (plL 0 (clL l)).length -> YieldAt Fence.wide (n - 1) Tryz.prog y (encC x) W fun e W' =>
   (e = .returned (.bool true) /\ J (pre ++ [x]) W' /\ KeepG g W W') \/ (e = .returned (.bool false) /\ Jx (pre ++ [x]) W'))
  (W : World) (hbn : W.cell? ⟨bn, 0, none⟩ = some (.slice A0 l.length c0)) (hS : Sees W W.heap.size A0 (rns l)) (h0 : J [] W) :
  CallsIn Fence.wide n Tryz.prog 101 #[.func (.yield y) #[] #[], .pointer (some ⟨bn, 0, none⟩)] W fun e W' => (∃ v, e = .returned v) /\
   ((∃ ys, ys = plL 0 (clL l) /\ J ys W') \/ (∃ pre, pre <+: plL 0 (clL l) /\ Jx pre W')) := by
 refine callsIn_of_wp Tryz.func101 rfl trivial ?_ rfl
 simp only [Tryz.ntmps101, List.size_toArray, List.length_cons, List.length_nil, Nat.reduceAdd, Nat.reduceSub, Array.replicate_succ, Array.replicate_zero, List.push_toArray, List.append_toArray, List.nil_append, List.cons_append]
 gi_wp2_with fail
 gi_loopw [3, 4, 5, 6, 7] (fun s3 s4 s5 s6 s7 wr => ∃ (k : Nat) (p : Int) (pre : List (Int × List Int × Int)) (A : Option Addr) (c : Nat), k <= l.length /\ s3 = .int .i64 p /\ 0 <= p /\ p <= 4 * k /\ s4 = .slice A (l.length - k) c /\ l.length - k <= c /\
  plL 0 (clL l) = pre ++ plL p (clL (l.drop k)) /\ (∀ ad, A = some ad -> ad.block = g) /\ Sees wr wr.heap.size A (rns (l.drop k)) /\ J pre wr) (fun _ s4 _ _ _ _ => lenV s4)
 case atStart =>
  exact ⟨0, 0, [], A0, c0, by omega, rfl, by omega, by omega, by simp, by omega, by simp, hA0, by simpa using hS, h0⟩
 case round =>
  obtain ⟨k, p, pre, A, c, hk, rfl, p0, p1, rfl, hc, hx, hA, hs, hJs⟩ := hrel
  obtain ⟨m, hm⟩ : ∃ m, m = l.length - k := ⟨_, rfl⟩
  rw [<- hm] at hc ⊢
  by_cases lt : k < l.length
  ·have m0 : 0 < m := by omega
   have HM := Vd hm
   have ml : (l.drop k).length = m := by rw [List.length_drop]; exact hm.symm
   have hne : l.drop k ≠ [] := fun e => by rw [e] at ml; simp at ml; omega
   obtain ⟨ad, rfl, hab, _⟩ := jd hs 0 (by omega)
   have fb := xd (l.drop k) hne
   have SS := Vd hs
   have LN := Vd (d_length (some ad) c (l.drop k) hne (by omega) wr hs)
   rw [ml] at LN fb
   have CL : Hid (clL (l.drop k) = (zo ((l.drop k).take (zp (l.drop k))), ji (l.drop k)) :: clL (l.drop (k + zp (l.drop k)))) := Vd (by
    rw [kU _ hne, JM _ hne, List.drop_drop])
   have TR : Hid (∀ r ∈ (l.drop k).take (zp (l.drop k)), 0 <= r /\ r < 2097152) := Vd (fun r h => hr r (List.mem_of_mem_drop (List.mem_of_mem_take h)))
   have TL : ((l.drop k).take (zp (l.drop k))).length = zp (l.drop k) := by rw [List.length_take, ml]; omega
   have TS : Hid (∀ w', Below wr.heap.size wr w' -> Sees w' w'.heap.size (some ad) (rns ((l.drop k).take (zp (l.drop k))))) := Vd (fun w' hb => ((hs.below hb Vf).more hb.size).take)
   have SD : Hid (∀ w', KeepG g wr w' -> Sees w' w'.heap.size (some (ad.add (zp (l.drop k)))) (rns (l.drop (k + zp (l.drop k))))) := Vd (fun w' hb => by
    rw [<- List.drop_drop]
    exact (hs.keepG hA hb).drop)
   have hAA : ∀ (b : Prop) [Decidable b] ad', (if b then some ad else some (ad.add (zp (l.drop k)))) = some ad' -> ad'.block = g := fun b _ ad' e => by
    have := hA ad rfl
    split at e
    ·cases e; exact this
    ·cases e; rw [zj]; exact this
   have gw : g < wr.heap.size := by rw [<- hA ad rfl]; exact hab
   have BZ : Hid ((barr (zo ((l.drop k).take (zp (l.drop k))))).size <= 4 * zp (l.drop k)) := Vd (by
    have h := kS ((l.drop k).take (zp (l.drop k)))
    rw [TL] at h
    have e : (barr (zo ((l.drop k).take (zp (l.drop k))))).size = (zo ((l.drop k).take (zp (l.drop k)))).length := by
     show ((zo ((l.drop k).take (zp (l.drop k)))).map _).toArray.size = _
     simp
    omega)
   have JH := Vd hJs
   have HX := Vd hx
   have HAA := Vd hAA
   clear hAA hA
   clear hs hx hJs hne ml hm hbn hS h0
   generalize (l.drop k).take (zp (l.drop k)) = tk at *
   generalize ji (l.drop k) = wv at *
   generalize zp (l.drop k) = f at *
   gi_wp2_with fail
   refine ⟨trivial, (callsIn_wide.2 LN.out).mono ?_⟩
   rintro e w1 ⟨rfl, hb1⟩
   have TX := Vd (d_Text (some ad) c tk (by omega) TR.out w1 (TS.out w1 hb1))
   rw [TL] at TX
   have HB1 := Vd hb1
   clear hb1
   have fm : f <= m := fb.2.1
   have fcap : f <= c := by omega
   gi_wp2_with fail
   refine ⟨trivial, (callsIn_wide.2 TX.out).mono ?_⟩
   rintro e w2 ⟨rfl, hb2⟩
   have HB2 := Vd (zl HB1.out HB1.out.size hb2)
   clear hb2
   have J2 := hJ _ _ _ JH.out HB2.out
   obtain ⟨fn, tmps, assign, body, hy, hR⟩ := hY pre (p, zo tk, wv) w2 J2 (by rw [HX.out, CL.out]; simp [plL])
   simp only [encC] at hy
   clear J2
   gi_wp2_with fail
   refine hR.mono ?_
   rintro e W3 (⟨rfl, hJ3, hk3⟩ | ⟨rfl, hJx3⟩)
   ·have S3 := Vd (SD.out W3 ⟨Nat.le_trans HB2.out.size hk3.1, hk3.2.trans (HB2.out.block g gw)⟩)
    have J3 := Vd hJ3
    have szp : 0 <= ((barr (zo tk)).size : Int) := by omega
    have bz := BZ.out
    obtain ⟨sz, hsz⟩ : ∃ sz, sz = (barr (zo tk)).size := ⟨_, rfl⟩
    rw [<- hsz] at bz
    have HSZ := Vd hsz
    have NX : Hid (plL 0 (clL l) = (pre ++ [(p, zo tk, wv)]) ++ plL (p + (sz : Int)) (clL (l.drop (k + f)))) := Vd (by
     rw [HX.out, CL.out, List.append_assoc, HSZ.out]
     rfl)
    have bt : ((barr (zo tk)).size : Int) = (sz : Int) := by rw [hsz]
    clear hJ3 hk3 hR hy hsz szp
    gi_wp2_with fail
    go_roundw
    case rel =>
     have hm := HM.out
     refine ⟨k + f, p + sz, pre ++ [(p, zo tk, wv)], _, c - f, by omega, rfl, by omega, by omega, by rw [show l.length - (k + f) = m - f by omega], by omega, NX.out, HAA.out _, ?_, J3.out⟩
     by_cases cf : c = f
     ·rw [if_pos cf]
      have e : l.drop (k + f) = [] := List.drop_eq_nil_of_le (by omega)
      rw [e]
      exact Sees.nil _ _ _
     ·rw [if_neg cf]
      exact S3.out
    case measure => simp [lenV]; omega
   ·have JX := Vd hJx3
    have NP : Hid ((pre ++ [(p, zo tk, wv)]) <+: plL 0 (clL l)) := Vd (by
     rw [HX.out, CL.out]
     exact ⟨plL (p + ((barr (zo tk)).size : Int)) (clL (l.drop (k + f))), by rw [List.append_assoc]; rfl⟩)
    clear hJx3 hR hy
    gi_wp2_with fail
    refine bodyPost_ret (results_none rfl _ _ _) rfl ?_
    exact ⟨⟨_, rfl⟩, .inr ⟨_, NP.out, JX.out⟩⟩
  ·have m0 : m = 0 := by omega
   subst m0
   have R : Hid (plL 0 (clL l) = pre) := Vd (by
    rw [hx, List.drop_eq_nil_of_le (by omega), kT]
    simp [plL])
   have JH := Vd hJs
   clear hx hs hJs
   gi_wp2_with fail
   go_end0
   exact ⟨⟨_, rfl⟩, .inl ⟨pre, R.out.symm, JH.out⟩⟩
theorem xL {w : World} {base n : Nat} {T : TypeId} {v : Value} {xs : List Value} (h : w.ownsRow base T 1 v n xs) : ∃ A c, v = .slice A n c := by
 rcases (xK h).2 with ⟨rfl, rfl⟩ | ⟨g, c, rfl, _⟩
 ·exact ⟨_, _, rfl⟩
 ·exact ⟨_, _, rfl⟩
theorem d_stops (n : Nat) (hn : 1 <= n) (bn g : Nat) (A0 : Option Addr) (c0 : Nat) (l : List Int) (hl : l.length <= 35184372000000) (hc0 : l.length <= c0) (hr : ∀ r ∈ l, 0 <= r /\ r < 2097152) (hA0 : ∀ ad, A0 = some ad -> ad.block = g) (w : World) (hb : bn < w.heap.size)
  (hbn : w.cell? ⟨bn, 0, none⟩ = some (.slice A0 l.length c0)) (hS : Sees w w.heap.size A0 (rns l)) :
  SeqStopsK Fence.wide n Tryz.prog 101 #[.pointer (some ⟨bn, 0, none⟩)] encC (KeepG g) (fun ys => ys = plL 0 (clL l)) (fun pre => pre <+: plL 0 (clL l)) (plL 0 (clL l)).length w := fun y J Jx W hW hJ _ hY h0 =>
 d_all1 n hn y bn g A0 c0 l hl hc0 hr J Jx (fun pre W W' h hb' => hJ pre W W' none h ⟨hb'.os, hb'.tape, hb'.output, hb'.size, fun k hk _ => hb'.block k hk⟩ (fun r e => by cases e)) hA0 hY W ((hW.cell (p := ⟨bn, 0, none⟩) hb).trans hbn) ((hS.below hW Vf).more hW.size) h0
set_option maxHeartbeats 8000000 in
set_option maxRecDepth 100000 in
theorem d_All (s : ByteArray) (hs : s.size <= 35184372000000) (w : World) : Calls Tryz.prog 85 #[.string s] w fun e w' => ∃ b A c, e = .returned (.func (.func 101) #[] #[.pointer (some ⟨b, 0, none⟩)]) /\ w.heap.size <= b /\ b < w'.heap.size /\ w'.cell? ⟨b, 0, none⟩ = some (.slice A (zt s).length c) /\ (zt s).length <= c /\ (∀ ad, A = some ad -> w.heap.size <= ad.block /\ ad.block < w'.heap.size) /\ Sees w' w'.heap.size A (rns (zt s)) /\ Below w.heap.size w w' := by
 have hmf : ∀ (fn : Fn) (first cap : Array Value) (w : World), (Instr.makeFunc fn first cap).run Tryz.prog w = .ok (.func fn first cap) w := fun _ _ _ _ => rfl
 have RN := Vd (d_Runes s hs)
 generalize zt s = l at *
 go_enter Tryz.func85, Tryz.ntmps85
 go_wp2_with fail
 refine (RN.out _).mono ?_; rintro e w1 ⟨v, rfl, ho, hb⟩
 obtain ⟨A, c, rfl⟩ := xL ho
 have hc : l.length <= c := by
  rcases (xK ho).2 with ⟨q, z⟩ | ⟨g', c', q, _, _, h, _⟩
  ·omega
  ·cases q; exact h
 have hA : ∀ ad, A = some ad -> w.heap.size <= ad.block /\ ad.block < w1.heap.size := fun ad e => by
  rcases (xK ho).2 with ⟨q, z⟩ | ⟨g', c', q, h1, h2, _, _⟩
  ·injection q with q1 q2 q3; rw [q1] at e; cases e
  ·injection q with q1 q2 q3; rw [q1] at e; cases e; exact ⟨h1, h2⟩
 have SS := Sees.of_own ho
 go_wp2_with fail
 go_ret
 refine ⟨w1.heap.size, A, c, rfl, hb.size, by simp, by simp [go_sem], hc, fun ad e => ⟨(hA ad e).1, by have := (hA ad e).2; simp; omega⟩, ?_, hb.alloc hb.size _⟩
 exact (SS.below ((Below.refl _ w1).alloc Vf _) Vf).more (by simp)
end
section
open Go Go.RowKit Go.Sort
attribute [local go_sem] Oper.semAt_some
def clV (c : ByteArray × Int) : List Value := [.string c.1, .int .i64 c.2]
def cls (l : List (ByteArray × Int)) : List Value := l.flatMap clV
theorem Qe (l : List (ByteArray × Int)) : (cls l).length = l.length * 2 := by
 induction l with
 | nil => rfl
 | cons c l ih =>
  have e : cls (c :: l) = clV c ++ cls l := by unfold cls; exact List.flatMap_cons ..
  rw [e, List.length_append, ih, List.length_cons]
  simp [clV]
  omega
theorem vt (a b : List (ByteArray × Int)) : cls (a ++ b) = cls a ++ cls b := by unfold cls; exact List.flatMap_append
def unpl (x : Int × List Int × Int) : ByteArray × Int := (barr x.2.1, x.2.2)
theorem plL_un : ∀ (p : Int) (l : List (List Int × Int)), (plL p l).map unpl = l.map fun c => (barr c.1, c.2)
 | _, [] => rfl
 | p, c :: r => by
  unfold plL
  rw [List.map_cons, plL_un _ r, List.map_cons]
  rfl
theorem infoC : (Tryz.prog.info? 109).map (fun i => (i.zero, i.size, i.bytes)) = some (some (.agg #[.string ⟨#[]⟩, .int .i64 0]), 2, 24) := by kernel_rfl
theorem je {w : World} {base base' n sz : Nat} {T : TypeId} {v : Value} {xs : List Value} (h : w.ownsRow base T sz v n xs) (hb : base' <= base) : w.ownsRow base' T sz v n xs := by
 refine ⟨h.1, ?_⟩
 rcases h.2 with a | ⟨g, cap, cur, h1, h2, h3⟩
 ·exact Or.inl a
 ·exact Or.inr ⟨g, cap, cur, h1, Nat.le_trans hb h2, h3⟩
theorem KeepG.put {w : World} {g : Nat} (hg : g < w.heap.size) (W : World) (l : Nat) (o o' : Obj) (hl : w.heap.size <= l) (h : W.heap[l]? = some o) (_ : o.isCells = false) (_ : o.isWalk = false) : KeepG g W (W.putObj l o') :=
 ⟨(grownBy_putObj' W l o').size, World.putObj_heap_other (by omega)⟩
theorem KeepG.trans {g : Nat} {A B C : World} (h : KeepG g A B) (k : KeepG g B C) : KeepG g A C := ⟨Nat.le_trans h.1 k.1, k.2.trans h.2⟩
set_option maxHeartbeats 8000000 in
set_option maxRecDepth 100000 in
theorem Xo (n : Nat) (hn : 3 <= n) (s : ByteArray) (hs : s.size <= 1000000000000) (w : World) : CallsIn Fence.wide n Tryz.prog 68 #[.string s] w fun e w' => ∃ v, e = .returned v /\ w'.ownsRow w.heap.size 109 2 v (zu s).length (cls (zu s)) /\ Below w.heap.size w w' := by
 have h1 : 1 <= n := by omega
 obtain ⟨i0, hi, hz0, hz1, hz2⟩ := info_parts infoC
 have AL := Vd (d_All s (by omega))
 have RG := Vd (Zi _ s rfl)
 have RL := x7 _ s rfl
 have SP : Hid (zu s = (plL 0 (clL (zt s))).map unpl) := Vd (by rw [plL_un]; rfl)
 have PN : Hid ((plL 0 (clL (zt s))).length <= s.size) := Vd (by
  have := jv s
  rw [SP.out, List.length_map] at this
  exact this)
 generalize zu s = SB at *
 generalize zt s = l at *
 refine callsIn_of_wp_marks Tryz.func68 rfl trivial ?_ rfl
 simp only [Tryz.ntmps68, List.size_toArray, List.length_cons, List.length_nil, Nat.reduceAdd, Nat.reduceSub, Array.replicate_succ, Array.replicate_zero, List.push_toArray, List.append_toArray, List.nil_append, List.cons_append]
 gi_wp2_with fail
 refine ⟨trivial, (callsIn_wide.2 (AL.out _)).mono ?_⟩
 rintro e w1 ⟨b, A, c, rfl, hb0, hb1, hbn, hc, hA, hS, hB⟩
 have bO : Boxed w1 w.heap.size 106 (.slice none 0 0) := (hB.block _ (by simp)).trans (Boxed.new w _ _)
 have HB : Below w.heap.size w w1 := zl (by go_grown) (by simp) hB
 obtain ⟨g, hg1, hg2, hg3⟩ : ∃ g, w.heap.size < g /\ g < w1.heap.size /\ ∀ ad, A = some ad -> ad.block = g := by
  rcases A with _ | ad
  ·exact ⟨b, by simp at hb0; omega, hb1, fun ad e => by cases e⟩
  ·have := hA ad rfl
   simp at this
   exact ⟨ad.block, by omega, this.2, fun ad' e => by cases e; rfl⟩
 clear hA hB hb0
 gi_wp2_with fail
 have ST := d_stops (n - 1) (by omega) b g A c l (by omega) hc RG.out hg3 w1 hb1 hbn hS
 obtain ⟨N1, hN1⟩ : ∃ N1, N1 = w1.heap.size := ⟨_, rfl⟩
 refine wpIn_rangeFunc_ownH (α := Int × List Int × Int) rfl h1 (gf := 101) (lb := #[.pointer (some ⟨b, 0, none⟩)]) rfl trivial (enters_of Tryz.func101 (by kernel_rfl) rfl)
  ST KeepG.trans (KeepG.put hg2) (Below.refl _ _) (fun _ => rfl)
  (fun (pre : List (Int × List Int × Int)) (W : World) => (∃ v, Boxed W w.heap.size 106 v /\ W.ownsRow N1 109 2 v pre.length (cls (pre.map unpl)) /\ True) /\ (Below w.heap.size w W /\ N1 <= W.heap.size))
  (fun _ _ _ => False)
  (OwnFrom.and (Own.from (holdsRow_own N1 w.heap.size 106 109 2 (fun (pre : List (Int × List Int × Int)) => pre.length) (fun pre => cls (pre.map unpl)) (fun _ _ => True)) _) (OwnFrom.and (ownFrom_below Vf HB.size) (fun _ X Y row hs hg _ => Nat.le_trans hs hg.size)))
  (fun _ _ _ _ _ hs _ _ => hs)
  ⟨⟨_, bO, World.ownsRow_nil _ _ _ _, trivial⟩, HB, by rw [hN1]; exact Vf⟩
  (fun (x : Int × List Int × Int) a' W => ∃ Bx, w.heap.size < Bx /\ W.heap[Bx]? = some (.cells #[.string (barr x.2.1), .int .i64 x.2.2] 109 (0, 0)) /\ a' = { tmps := #[.string s, undef, .slice none 0 0, .pointer (some ⟨w.heap.size, 0, none⟩), undef, .pointer (some ⟨Bx, 0, none⟩), .string s, .func (.func 101) #[] #[.pointer (some ⟨b, 0, none⟩)], .int .i64 x.1, .agg #[.string (barr x.2.1), .int .i64 x.2.2], undef, undef, undef, undef, undef], defers := [] })
  (fun x a' _ X Y row hs hg hr => by
   obtain ⟨Bx, h1, h2, h3⟩ := hs
   refine ⟨Bx, h1, (hg.block Bx (Array.getElem?_eq_some_iff.1 h2).1 (fun e => ?_)).trans h2, h3⟩
   obtain ⟨_, o, ho, hc⟩ := hr Bx e.symm
   rw [h2] at ho
   cases ho
   cases hc)
  ?assign ?body ?done ?stop
 case assign =>
  rintro y pre x W K ⟨⟨v, hv, hrow, _⟩, hB1, hN⟩ hK
  simp only [encC]
  gi_wp2_with fail
  have hsz := hB1.size
  exact hK _ _ ((KeepsOthers.alloc _ _).from _) ⟨by simp, ((Below.refl W.heap.size W).alloc Vf _).block g (by omega)⟩ ⟨⟨v, hv.alloc _, hrow.alloc _, trivial⟩, hB1.alloc hsz _, by simp; omega⟩ ⟨W.heap.size, hv.lt, World.alloc_heap_new W _, rfl⟩
 case body =>
  rintro y pre ⟨px, tx, wd⟩ a' W hl ⟨r, hr⟩ ⟨⟨v, hv, hrow, _⟩, hB1, hN⟩ ⟨Bx, hBx, hX, rfl⟩ hlt
  have cO := hv.cell
  have cX0 : W.cell? ⟨Bx, 0, none⟩ = some (.string (barr tx)) := by simp [World.cell?, hX]
  have cX1 : W.cell? ⟨Bx, 1, none⟩ = some (.int .i64 wd) := by simp [World.cell?, hX]
  have hpn := PN.out
  have hsz := hB1.size
  have NX : Hid (cls ((pre ++ [(px, tx, wd)]).map unpl) = cls (pre.map unpl) ++ [.string (barr tx), .int .i64 wd]) := Vd (by
   rw [List.map_append, vt]
   rfl)
  have LX : Hid ((pre ++ [(px, tx, wd)]).length = pre.length + 1) := Vd (by simp)
  clear hX
  generalize hbs : barr tx = bs at *
  clear hbs
  gi_wp2_with (gi_at_builtin; refine wpListIn_append_own _ rfl (.tmp 10) (.tmp 12) 106 rfl N1 109 i0 (.agg #[.string ⟨#[]⟩, .int .i64 0]) 2 24 Tryz.underlying106 hi hz0 hz1 hz2 rfl (by decide) _ pre.length _ rfl (hrow.alloc _) ⟨W.heap.size, 0, none⟩ 1 1 [.string bs, .int .i64 wd] rfl rfl (qL W _ _) (by simp [Value.oneCell']) (by unfold maxLen; omega) (by omega) (by simp; omega) ?_; intro v' w3 hown' hgrow _; obtain ⟨g', cap', rfl⟩ := ownsRow_succ hown'; obtain ⟨hv1, hv2, hr2, hk2, hb2⟩ := hv.appended (show 106 ≠ 109 by decide) (je hrow (show w.heap.size <= N1 by omega)) hsz Vf (je hown' (show w.heap.size <= N1 by omega)) hgrow; have hc1 := hv1.cell; have hf1 := hv1.frozen)
  have vb : ∀ k, v.ownBlock = some k -> N1 <= k := fun k e => (hrow.lt k e).1
  have e3 : w3.heap[g]? = W.heap[g]? := (hgrow.block g (by simp; omega) (fun e => by have := vb g e.symm; omega)).trans (((Below.refl W.heap.size W).alloc Vf _).block g (by omega))
  have e4 : w3.heap.size ≥ W.heap.size := Nat.le_trans (by simp) hgrow.size
  refine ⟨hk2.from _, ⟨hb2.size, (Below.heap_setCell _ _ _ _ (show g ≠ w.heap.size by omega)).trans e3⟩, ⟨_, hv2, ?_⟩, hB1.trans hb2, by rw [<- hN1]; exact Nat.le_trans hN hb2.size⟩
  rw [NX.out, LX.out]
  have q := hown'.kept (grownBy_setCell' w3 w.heap.size (.slice (some ⟨g', 0, none⟩) (pre.length + 1) cap')) (Or.inr (fun e => by
   have h1 := (hown'.lt _ e).1
   omega))
  rw [hN1] at q
  exact q
 case done =>
  rintro D ys W hD rfl ⟨⟨v, hv, hrow, _⟩, hB1, hN⟩ hK
  have hc := hv.cell
  gi_wp2_with fail
  refine ⟨by simp, .inl ⟨_, _, rfl, run_takeDeferred hK, ?_⟩⟩
  refine ⟨_, results_tmp rfl _ _ _, v, rfl, ?_, hB1.trans (belowK_b (w := w) Vf W D _ _ (by have := HB.size; omega) hK rfl rfl)⟩
  rw [SP.out]
  have q := ownsRow_putObj (je hrow (show w.heap.size <= N1 by have := HB.size; omega)) (.deferred none) hK rfl
  rw [List.length_map]
  exact q
 case stop =>
  rintro D c pre W _ _ h _
  exact h.elim
theorem ku (s : ByteArray) (hs : s.size <= 1000000000000) (w : World) : Calls Tryz.prog 68 #[.string s] w fun e w' => ∃ v, e = .returned v /\ w'.ownsRow w.heap.size 109 2 v (zu s).length (cls (zu s)) /\ Below w.heap.size w w' :=
 callsIn_wide.1 (Xo 5 (by decide) s hs w)
end
section
open Go.RowKit Go.Sort
theorem kv {w : World} {base : Nat} {T : TypeId} {v : Value} {n : Nat} {xs : List Value} (h : w.ownsRow base T 2 v n xs) : (v = .slice none 0 0 /\ n = 0) \/ ∃ g c, v = .slice (some ⟨g, 0, none⟩) n c /\ base <= g /\ g < w.heap.size /\ n <= c /\ c <= maxLen /\ ∀ j u, xs[j]? = some u -> w.cell? ⟨g, j, none⟩ = some u := by
 rcases h.2 with a | ⟨g, cap, cur, h1, h2, h3, h4⟩
 ·exact Or.inl a
 ·refine Or.inr ⟨g, cap, h1, h2, (Array.getElem?_eq_some_iff.1 h3).1, h4.1, h4.2.1, fun j u hj => ?_⟩
  have q := h.cells (g := g) (by rw [h1]; rfl) j u hj
  have e : ((⟨g, 0, none⟩ : Addr).add j) = ⟨g, j, none⟩ := by
   unfold Addr.add
   split
   ·rename_i z; rw [z]
   ·simp
  rwa [e] at q
def oneV (s : ByteArray) : Option Int -> Value
 | some u => .tuple #[.agg #[.string s, .int .i64 u], .bool true]
 | none => .tuple #[.agg #[.string ⟨#[]⟩, .int .i64 0], .bool false]
set_option maxHeartbeats 8000000 in
set_option maxRecDepth 100000 in
theorem d_One (s : ByteArray) (hs : s.size <= 1000000000000) (w : World) : Calls Tryz.prog 94 #[.string s] w fun e w' => e = .returned (oneV s (oneB s)) /\ Below w.heap.size w w' := by
 have SP := Vd (ku s hs)
 have SL := jv s
 have O0 : Hid (zu s = [] -> oneB s = none) := Vd (fun h => by unfold oneB; rw [h])
 have O1 : Hid (∀ c, zu s = [c] -> oneB s = if c.1 = s then some c.2 else none) := Vd (fun c h => by unfold oneB; rw [h])
 have O2 : Hid (∀ c d r, zu s = c :: d :: r -> oneB s = none) := Vd (fun c d r h => by unfold oneB; rw [h])
 generalize oneB s = o at *
 generalize zu s = L at *
 go_enter Tryz.func94, Tryz.ntmps94
 go_wp2_with fail
 refine (SP.out _).mono ?_; rintro e w1 ⟨v, rfl, ho, hb⟩
 have z0 : w1.cell? ⟨w.heap.size, 0, none⟩ = some (.string ⟨#[]⟩) := (hb.cell (p := ⟨w.heap.size, 0, none⟩) (by simp)).trans (by simp [go_sem])
 have z1 : w1.cell? ⟨w.heap.size, 1, none⟩ = some (.int .i64 0) := (hb.cell (p := ⟨w.heap.size, 1, none⟩) (by simp)).trans (by simp [go_sem])
 have f0 : w1.frozen? ⟨w.heap.size, 0, none⟩ = false := (hb.frozen (p := ⟨w.heap.size, 0, none⟩) (by simp)).trans (by simp [go_sem])
 have f1 : w1.frozen? ⟨w.heap.size, 1, none⟩ = false := (hb.frozen (p := ⟨w.heap.size, 1, none⟩) (by simp)).trans (by simp [go_sem])
 have HB := Vd (show Below w.heap.size w w1 from zl (by go_grown) (by simp) hb)
 have FN := kv ho
 clear ho hb
 rcases L with _ | ⟨⟨ct, cw⟩, _ | ⟨d, r⟩⟩
 ·have R := Vd (O0.out rfl)
  rcases FN with ⟨rfl, _⟩ | ⟨g, c, rfl, _⟩
  all_goals
   go_wp2_with fail
   refine bodyPost_ret (v := .tuple #[.agg #[.string ⟨#[]⟩, .int .i64 0], .bool false]) (by simp [results, Tryz.results94, go_sem, z0, z1]) rfl ⟨by rw [R.out]; rfl, ?_⟩
   exact (HB.out.setCell Vf _).setCell Vf _
 ·have RR := Vd (O1.out _ rfl)
  rcases FN with ⟨_, h⟩ | ⟨g, c, rfl, hg0, hg1, _, _, hc⟩
  ·cases h
  ·have c0 : w1.cell? ⟨g, 0, none⟩ = some (.string ct) := hc 0 _ rfl
   have c1 : w1.cell? ⟨g, 1, none⟩ = some (.int .i64 cw) := hc 1 _ rfl
   have ne : w.heap.size ≠ g := by simp at hg0; omega
   simp only [List.length_cons, List.length_nil]
   by_cases e : ct = s
   ·have q : (ct.toList == s.toList) = true := by rw [x8]; exact decide_eq_true e
    have R : Hid (o = some cw) := Vd (by rw [RR.out]; exact if_pos e)
    go_wp2_with fail
    refine bodyPost_ret (v := .tuple #[.agg #[.string s, .int .i64 cw], .bool true]) (by simp [results, Tryz.results94, go_sem, z0, z1, e]) rfl ⟨by rw [R.out]; rfl, ?_⟩
    exact (HB.out.setCell Vf _).setCell Vf _
   ·have q : (ct.toList == s.toList) = false := by rw [x8]; exact decide_eq_false e
    have R : Hid (o = none) := Vd (by rw [RR.out]; exact if_neg e)
    go_wp2_with fail
    refine bodyPost_ret (v := .tuple #[.agg #[.string ⟨#[]⟩, .int .i64 0], .bool false]) (by simp [results, Tryz.results94, go_sem, z0, z1]) rfl ⟨by rw [R.out]; rfl, ?_⟩
    exact (HB.out.setCell Vf _).setCell Vf _
 ·have R := Vd (O2.out _ _ _ rfl)
  rcases FN with ⟨_, h⟩ | ⟨g, c, rfl, hg0, hg1, _, _, hc⟩
  ·cases h
  ·obtain ⟨n, hn⟩ : ∃ n, n = (((ct, cw) :: d :: r).length) := ⟨_, rfl⟩
   rw [<- hn]
   have q : ((n : Int) == 1) = false := by simp; rw [hn]; simp; omega
   have q2 : ((n : Int) != 1) = true := by simp; rw [hn]; simp; omega
   clear hn SL hc
   go_wp2_with fail
   refine bodyPost_ret (v := .tuple #[.agg #[.string ⟨#[]⟩, .int .i64 0], .bool false]) (by simp [results, Tryz.results94, go_sem, z0, z1]) rfl ⟨by rw [R.out]; rfl, ?_⟩
   exact (HB.out.setCell Vf _).setCell Vf _
end
section
open Go.RowKit
abbrev styV (f b : Int) (a : B8) : Value := .agg #[.int .i32 f, .int .i32 b, .int .u8 (bI a)]
theorem Tells.still {k : Nat} {args : Array Value} {v : Value} (h : Tells k args v) {w : World} : Calls Tryz.prog k args w fun e w'' => e = .returned v /\ w'' = w :=
 (h w).mono fun _ _ ⟨he, hm⟩ => ⟨he, hm.symm⟩
theorem Qf (c : Int) : Tells 61 #[.int .i32 c] (.int .i32 (plC c)) := by
 intro w
 by_cases h1 : c = 1
 ·subst h1
  go_enter Tryz.func61, Tryz.ntmps61
  go_wp2
  go_ret
  exact ⟨rfl, rfl⟩
 ·cases h : zE c
  all_goals
   have H : Hid (plC c = if zE c = true then c else 0) := by unfold plC cnt Hid; rw [if_neg h1]
   go_enter Tryz.func61, Tryz.ntmps61
   go_wp2_with (go_at_call 78; refine (kV _ _).mono ?_; rintro e w' ⟨rfl, rfl⟩; rw [h])
   go_ret
   exact ⟨zC (by rw [H.out, h]; simp), rfl⟩
theorem st_said (c : Int) : Tells 82 #[.int .i32 c] (.int .i32 (cnt c)) := by
 intro w
 cases h : zE c
 all_goals
  have H : Hid (cnt c = if zE c = true then c else 0) := rfl
  go_enter Tryz.func82, Tryz.ntmps82
  go_wp2_with (go_at_call 78; refine (kV _ _).mono ?_; rintro e w' ⟨rfl, rfl⟩; rw [h])
  go_ret
  exact ⟨zC (by rw [H.out, h]; simp), rfl⟩
set_option maxHeartbeats 4000000 in
set_option maxRecDepth 100000 in
theorem vu (f b : Int) (a : B8) : Gives 40 #[styV f b a] (styV (plC f) (plC b) a) := by
 intro w
 go_enter Tryz.func40, Tryz.ntmps40
 go_wp2_with fail
 refine wp_region_still_tail 9 (by kernel_rfl) (by kernel_rfl) ?_
 change wpStill _ _ (World.drew _) _ _ _
 simp only [Vg, Vh, Vi, Vj]
 repeat (first | still_step | still_call (Qf _).still)
 refine wpStill_nil ?_
 change wpList _ _ _ _ _ (World.drew _)
 go_wp2_with fail
 exact bodyPost_ret (v := styV (plC f) (plC b) a) (by simp [results, Tryz.results40, go_sem]) rfl ⟨rfl, by go_grown⟩
theorem Qg (c : Int) (hl : -2147483648 <= c) (hh : c <= 2147483647) : Tells 89 #[.int .i32 c] (.bool (zE c)) := by
 intro w
 have hc : zE c = decide (qH c ≠ 0 \/ c = 0) := by
  unfold zE
  rw [decide_eq_decide]
  rcases jY c with ⟨h, hk, hn⟩ | ⟨h, h', hk, hn⟩ | ⟨h, h', hk, hn⟩ | ⟨h, h2, h3, hk, hn⟩
  ·rw [hk]; omega
  ·rw [hk]; omega
  ·rw [hk]; omega
  ·rw [hk]; omega
 have H := Vd hc; clear hc
 by_cases k : qH c = 0
 ·have H2 := Vd k
  have g : (qH c != 0) = false := by rw [k]; rfl
  clear k
  by_cases z : c = 0
  all_goals
   have Z := Vd z
   first | (have g2 : (c == 0) = true := by simp [z]) | (have g2 : (c == 0) = false := by simp [z])
   clear z
   go_enter Tryz.func89, Tryz.ntmps89
   go_wp2_with (go_at_call 90; refine (qO _ hl hh _).mono ?_; rintro e w' ⟨rfl, rfl⟩)
   go_ret
   exact ⟨zv (by rw [H.out]; symm; first | exact decide_eq_true (Or.inr Z.out) | exact decide_eq_false (fun h => h.elim (fun h => h H2.out) Z.out)), rfl⟩
 ·have H2 := Vd k
  have g : (qH c != 0) = true := by rw [bne_iff_ne]; exact k
  clear k
  go_enter Tryz.func89, Tryz.ntmps89
  go_wp2_with (go_at_call 90; refine (qO _ hl hh _).mono ?_; rintro e w' ⟨rfl, rfl⟩)
  go_ret
  exact ⟨zv (by rw [H.out]; symm; exact decide_eq_true (Or.inl H2.out)), rfl⟩
theorem Qh (c : Int) (hl : -2147483648 <= c) (hh : c <= 2147483647) : Tells 74 #[.int .i32 c] (.int .i32 (plC c)) := by
 intro w
 by_cases h1 : c = 1
 ·subst h1
  go_enter Tryz.func74, Tryz.ntmps74
  go_wp2_with (go_at_call 89; refine (Qg 1 (by decide) (by decide) _).mono ?_; rintro e w' ⟨rfl, rfl⟩; rw [show zE 1 = true from rfl])
  go_ret
  exact ⟨rfl, rfl⟩
 ·cases h : zE c
  all_goals
   have H : Hid (plC c = if zE c = true then c else 0) := by unfold plC cnt Hid; rw [if_neg h1]
   go_enter Tryz.func74, Tryz.ntmps74
   go_wp2_with (go_at_call 89; refine (Qg _ hl hh _).mono ?_; rintro e w' ⟨rfl, rfl⟩; rw [h])
   go_ret
   exact ⟨zC (by rw [H.out, h]; simp), rfl⟩
abbrev zh (c : Int) : Prop := -2147483648 <= c /\ c <= 2147483647
set_option maxHeartbeats 4000000 in
theorem kw (f b : Int) (a : B8) (hf : zh f) (hb : zh b) : Gives 57 #[styV f b a] (styV (plC f) (plC b) a) := by
 intro w
 have C1 := Vd (Qh f hf.1 hf.2)
 have C2 := Vd (Qh b hb.1 hb.2)
 clear hf hb
 go_enter Tryz.func57, Tryz.ntmps57
 go_wp2_with fail
 refine (C1.out _).mono ?_; rintro e w' ⟨rfl, rfl⟩
 go_wp2_with fail
 refine (C2.out _).mono ?_; rintro e w' ⟨rfl, rfl⟩
 go_wp2_with fail
 exact bodyPost_ret (v := styV (plC f) (plC b) a) (by simp [results, Tryz.results57, go_sem]) rfl ⟨rfl, by go_grown⟩
end
section
open Go.RowKit Go.Sort
theorem xo (a : Addr) (m n : Nat) : (a.add m).add n = a.add (m + n) := Go.Deep.add_add a m n
theorem vv (a : Addr) (n : Nat) (h : n ≠ 0) : (⟨a.block, a.off + n, none⟩ : Addr) = a.add n := by unfold Addr.add; rw [if_neg h]
def patL (p : Pat) : List Value := [.int .i32 p.fg, .int .i32 p.bg, .int .u8 (bI p.add), .int .u8 (bI p.drop)]
def SeesP (w : World) (B : Nat) (A : Option Addr) (ps : List Pat) : Prop :=
 ps ≠ [] -> ∃ ad, A = some ad /\ ad.block < B /\ ∀ j p, ps[j]? = some p -> ∀ i u, (patL p)[i]? = some u -> w.cell? (ad.add (j * 4 + i)) = some u
set_option maxHeartbeats 4000000 in
set_option maxRecDepth 100000 in
theorem st_Over (s : Sty) (A : Option Addr) (c : Nat) (ps : List Pat) (w : World) (hS : SeesP w w.heap.size A ps) (hn : ps.length <= 100000000000000) :
  Calls Tryz.prog 66 #[styV s.fg s.bg s.at_, .slice A ps.length c] w fun e w' => e = .returned (styV (jW s ps).fg (jW s ps).bg (jW s ps).at_) /\ Below w.heap.size w w' := by
 obtain ⟨n, hnn⟩ : ∃ n, n = ps.length := ⟨_, rfl⟩
 have HN := Vd hnn
 rw [<- hnn] at hn ⊢
 have HS := Vd hS
 clear hS hnn
 go_enter Tryz.func66, Tryz.ntmps66
 go_wp2_with fail
 refine (vu _ _ _ _).mono ?_; rintro e w1 ⟨rfl, hb1⟩
 have q1 : C3 w1 w.heap.size (.int .i32 s.fg) (.int .i32 s.bg) (.int .u8 (bI s.at_)) := C3.keep (by constructor <;> simp [go_sem]) hb1 (by simp; omega)
 have q2 : C3 w1 (w.heap.size + 1) (.int .i32 0) (.int .i32 0) (.int .u8 0) := C3.keep (by constructor <;> simp [go_sem]) hb1 (by simp)
 have hB1 : Below w.heap.size w w1 := zl (by go_grown) (by simp; omega) hb1
 clear hb1
 have q1' := q1.put (.int .i32 (plC s.fg)) (.int .i32 (plC s.bg)) (.int .u8 (bI s.at_))
 have q2' := ((q2.far (b' := w.heap.size) (o := 0) (y := .int .i32 (plC s.fg)) (by omega)).far (b' := w.heap.size) (o := 1) (y := .int .i32 (plC s.bg)) (by omega)).far (b' := w.heap.size) (o := 2) (y := .int .u8 (bI s.at_)) (by omega)
 have hB1' : Below w.heap.size w (((w1.setCell ⟨w.heap.size, 0, none⟩ (.int .i32 (plC s.fg))).setCell ⟨w.heap.size, 1, none⟩ (.int .i32 (plC s.bg))).setCell ⟨w.heap.size, 2, none⟩ (.int .u8 (bI s.at_))) := ((hB1.setCell Vf _).setCell Vf _).setCell Vf _
 have Q1 := Vd q1'
 have Q2 := Vd q2'
 have HB := Vd hB1'
 obtain ⟨a0, a1, a2, f0, f1, f2⟩ := q1
 clear q2 q1' q2' hB1 hB1'
 go_wp2_with fail
 go_loopw [13] (fun i wr => ∃ (k : Nat) (t : Sty), k <= n /\ i = .int .i64 k /\ Hid (t = (ps.take k).foldl jK (zf s)) /\ Hid (C3 wr w.heap.size (.int .i32 t.fg) (.int .i32 t.bg) (.int .u8 (bI t.at_)) /\ C3 wr (w.heap.size + 1) (.int .i32 0) (.int .i32 0) (.int .u8 0) /\ Below w.heap.size w wr)) (fun i _ => n - (intOf i).toNat)
 case atStart => exact ⟨0, zf s, by omega, rfl, Vd rfl, Vd ⟨Q1.out, Q2.out, HB.out⟩⟩
 case round =>
  obtain ⟨k, t, hk, rfl, ht, hc⟩ := hrel
  by_cases lt : k < n
  ·have kl : k < ps.length := by have := HN.out; omega
   obtain ⟨ad, rfl, hab, hcell⟩ := HS.out (fun e => by rw [e] at kl; cases kl)
   have hc1 := hcell k _ (List.getElem?_eq_getElem kl)
   obtain ⟨p, hp0⟩ : ∃ p, p = ps[k] := ⟨_, rfl⟩
   rw [<- hp0] at hc1
   obtain ⟨h1, h2, h3⟩ := hc.out
   have cell : ∀ i u, (patL p)[i]? = some u -> wr.cell? (ad.add (k * 4 + i)) = some u := fun i u hu => (h3.cell (p := ad.add (k * 4 + i)) (by rw [zj]; exact hab)).trans (hc1 i u hu)
   have z0 : wr.cell? (ad.add (k * 4)) = some (.int .i32 p.fg) := cell 0 _ rfl
   have z1 : wr.cell? ⟨(ad.add (k * 4)).block, (ad.add (k * 4)).off + 1, none⟩ = some (.int .i32 p.bg) := by rw [vv _ 1 (by decide), xo]; exact cell 1 _ rfl
   have z2 : wr.cell? ⟨(ad.add (k * 4)).block, (ad.add (k * 4)).off + 2, none⟩ = some (.int .u8 (bI p.add)) := by rw [vv _ 2 (by decide), xo]; exact cell 2 _ rfl
   have z3 : wr.cell? ⟨(ad.add (k * 4)).block, (ad.add (k * 4)).off + 3, none⟩ = some (.int .u8 (bI p.drop)) := by rw [vv _ 3 (by decide), xo]; exact cell 3 _ rfl
   have l0 := h1.lt
   have T1 : Hid (t.at_ &&& ~~~p.drop ||| p.add = (jK t p).at_) := Vd rfl
   have F1 : Hid ((jK t p).fg = if cnt p.fg = 0 then t.fg else plC (cnt p.fg)) := Vd (by
    show layC t.fg (cnt p.fg) = _
    rw [Zu]; unfold layC; split <;> rfl)
   have F2 : Hid ((jK t p).bg = if cnt p.bg = 0 then t.bg else plC (cnt p.bg)) := Vd (by
    show layC t.bg (cnt p.bg) = _
    rw [Zu]; unfold layC; split <;> rfl)
   have NT : Hid (jK t p = (ps.take (k + 1)).foldl jK (zf s)) := Vd (by
    rw [List.take_succ_eq_append_getElem kl, List.foldl_append, <- ht.out, hp0]; rfl)
   obtain ⟨a0, a1, a2, f0, f1, f2⟩ := h1
   clear h2 h3 cell hc1 hcell hp0
   by_cases c1 : cnt p.fg = 0
   all_goals by_cases c2 : cnt p.bg = 0
   all_goals
    have F1 := F1.out
    have F2 := F2.out
    first | rw [if_pos c1] at F1 | rw [if_neg c1] at F1
    first | rw [if_pos c2] at F2 | rw [if_neg c2] at F2
    have F1 := Vd F1
    have F2 := Vd F2
    first | (have g1 : (cnt p.fg != 0) = true := by rw [bne_iff_ne]; exact c1) | (have g1 : (cnt p.fg != 0) = false := by rw [c1]; rfl)
    first | (have g2 : (cnt p.bg != 0) = true := by rw [bne_iff_ne]; exact c2) | (have g2 : (cnt p.bg != 0) = false := by rw [c2]; rfl)
    clear c1 c2
    go_wp2_with (first | (go_at_call 82; refine (st_said _ _).mono ?_; rintro e w' ⟨rfl, rfl⟩) | (go_at_call 61; refine (Qf _ _).mono ?_; rintro e w' ⟨rfl, rfl⟩))
    go_roundw
    case rel =>
     refine ⟨k + 1, jK t p, by omega, by go_num, NT, ?_⟩
     have ne : w.heap.size + 1 ≠ w.heap.size := by omega
     have K := hc.out.1
     have K2 := hc.out.2.1
     have K3 := hc.out.2.2
     refine Vd ⟨?_, ?_, ?_⟩
     ·rw [F1.out, F2.out, <- T1.out]
      first | with_reducible exact ((K.set2 _).set2 _).alloc _ | with_reducible exact (((K.set2 _).set2 _).set1 _).alloc _ | with_reducible exact (((K.set2 _).set2 _).set0 _).alloc _ | with_reducible exact ((((K.set2 _).set2 _).set0 _).set1 _).alloc _
     ·first | with_reducible exact ((K2.far ne).far ne).alloc _ | with_reducible exact (((K2.far ne).far ne).far ne).alloc _ | with_reducible exact ((((K2.far ne).far ne).far ne).far ne).alloc _
     ·refine Below.alloc ?_ (by simp; omega) _
      first | with_reducible exact (K3.setCell Vf _).setCell Vf _ | with_reducible exact ((K3.setCell Vf _).setCell Vf _).setCell Vf _ | with_reducible exact (((K3.setCell Vf _).setCell Vf _).setCell Vf _).setCell Vf _
    case measure => simp [intOf]; omega
  ·have ek : k = n := by omega
   subst ek
   have TT : Hid (t = jW s ps) := Vd (by rw [ht.out, HN.out, List.take_length]; rfl)
   obtain ⟨h1, h2, h3⟩ := hc.out
   have H3 := Vd h3
   obtain ⟨a0, a1, a2, f0, f1, f2⟩ := h1
   obtain ⟨b0, b1, b2, g0, g1, g2⟩ := h2
   clear h3
   go_wp2_with fail
   refine bodyPost_ret (v := styV (jW s ps).fg (jW s ps).bg (jW s ps).at_) (by rw [<- TT.out]; simp [results, Tryz.results66, go_sem, b0, b1, b2]) rfl ⟨rfl, ?_⟩
   exact ((H3.out.setCell (Nat.le_succ _) _).setCell (Nat.le_succ _) _).setCell (Nat.le_succ _) _
end
section
open Go.RowKit Go.Sort
def celV (c : Cel) : List Value := [.string c.text, .int .i8 c.wide, .int .i32 c.st.fg, .int .i32 c.st.bg, .int .u8 (bI c.st.at_)]
def zc (l : List Cel) : List Value := l.flatMap celV
theorem jM (a : Cel) (r : List Cel) : zc (a :: r) = celV a ++ zc r := by unfold zc; exact List.flatMap_cons ..
theorem xq (a b : List Cel) : zc (a ++ b) = zc a ++ zc b := by unfold zc; exact List.flatMap_append
theorem jo (l : List Cel) : (zc l).length = l.length * 5 := by
 induction l with
 | nil => rfl
 | cons a l ih => rw [jM, List.length_append, ih, List.length_cons]; simp [celV]; omega
theorem kx (l : List Cel) : ∀ k, zc (l.drop k) = (zc l).drop (k * 5) := by
 induction l with
 | nil => intro k; simp [zc]
 | cons a l ih =>
  intro k
  cases k with
  | zero => simp
  | succ k =>
   rw [List.drop_succ_cons, ih, jM, show (k + 1) * 5 = 5 + k * 5 by omega, <- List.drop_drop]
   rfl
theorem ky (l : List Cel) : ∀ k, zc (l.take k) = (zc l).take (k * 5) := by
 induction l with
 | nil => intro k; simp [zc]
 | cons a l ih =>
  intro k
  cases k with
  | zero => simp [zc]
  | succ k =>
   rw [List.take_succ_cons, jM, ih, jM, show (k + 1) * 5 = 5 + k * 5 by omega, List.take_add]
   rfl
theorem over0 (s : Sty) (W : World) : Calls Tryz.prog 66 #[styV s.fg s.bg s.at_, .slice none 0 0] W fun e w' => e = .returned (styV (zf s).fg (zf s).bg (zf s).at_) /\ Below W.heap.size W w' :=
 st_Over s none 0 [] W (fun h => absurd rfl h) (by simp)
structure C5 (w : World) (b : Nat) (x0 x1 x2 x3 x4 : Value) : Prop where
 c0 : w.cell? ⟨b, 0, none⟩ = some x0
 c1 : w.cell? ⟨b, 1, none⟩ = some x1
 c2 : w.cell? ⟨b, 2, none⟩ = some x2
 c3 : w.cell? ⟨b, 3, none⟩ = some x3
 c4 : w.cell? ⟨b, 4, none⟩ = some x4
theorem C5.keep {w w' : World} {B b : Nat} {x0 x1 x2 x3 x4 : Value} (h : C5 w b x0 x1 x2 x3 x4) (hb : Below B w w') (hB : b < B) : C5 w' b x0 x1 x2 x3 x4 :=
 ⟨(hb.cell (p := ⟨b, 0, none⟩) hB).trans h.c0, (hb.cell (p := ⟨b, 1, none⟩) hB).trans h.c1, (hb.cell (p := ⟨b, 2, none⟩) hB).trans h.c2, (hb.cell (p := ⟨b, 3, none⟩) hB).trans h.c3, (hb.cell (p := ⟨b, 4, none⟩) hB).trans h.c4⟩
theorem C5.lt {w : World} {b : Nat} {x0 x1 x2 x3 x4 : Value} (h : C5 w b x0 x1 x2 x3 x4) : b < w.heap.size := block_lt_of_cell h.c0
theorem C5.regrown {w : World} {b : Nat} {x0 x1 x2 x3 x4 : Value} (h : C5 w b x0 x1 x2 x3 x4) (d : Nat) (os : Array Obj) : C5 (grow (redrawn w d) os) b x0 x1 x2 x3 x4 := h.keep (below_regrown w d os) h.lt
structure C2 (w : World) (b : Nat) (x0 x1 : Value) : Prop where
 c0 : w.cell? ⟨b, 0, none⟩ = some x0
 c1 : w.cell? ⟨b, 1, none⟩ = some x1
theorem C2.keep {w w' : World} {B b : Nat} {x0 x1 : Value} (h : C2 w b x0 x1) (hb : Below B w w') (hB : b < B) : C2 w' b x0 x1 :=
 ⟨(hb.cell (p := ⟨b, 0, none⟩) hB).trans h.c0, (hb.cell (p := ⟨b, 1, none⟩) hB).trans h.c1⟩
theorem C2.lt {w : World} {b : Nat} {x0 x1 : Value} (h : C2 w b x0 x1) : b < w.heap.size := block_lt_of_cell h.c0
theorem C2.regrown {w : World} {b : Nat} {x0 x1 : Value} (h : C2 w b x0 x1) (d : Nat) (os : Array Obj) : C2 (grow (redrawn w d) os) b x0 x1 := h.keep (below_regrown w d os) h.lt
theorem vw {w : World} {B : Nat} {A : Option Addr} {a : Cel} {r : List Cel} (h : Sees w B A (zc (a :: r))) : ∃ ad, A = some ad /\ ad.block < B /\ w.cell? ad = some (.string a.text) /\ w.cell? ⟨ad.block, ad.off + 1, none⟩ = some (.int .i8 a.wide) /\ w.cell? ⟨ad.block, ad.off + 2, none⟩ = some (.int .i32 a.st.fg) /\ w.cell? ⟨ad.block, ad.off + 3, none⟩ = some (.int .i32 a.st.bg) /\ w.cell? ⟨ad.block, ad.off + 4, none⟩ = some (.int .u8 (bI a.st.at_)) := by
 rw [jM] at h
 obtain ⟨ad, e, hb, hc⟩ := h (by simp [celV])
 refine ⟨ad, e, hb, ?_, ?_, ?_, ?_, ?_⟩
 ·have := hc 0 (.string a.text) rfl
  rwa [show ad.add 0 = ad by unfold Addr.add; rw [if_pos rfl]] at this
 ·rw [qi ad 1 (by decide)]; exact hc 1 _ rfl
 ·rw [qi ad 2 (by decide)]; exact hc 2 _ rfl
 ·rw [qi ad 3 (by decide)]; exact hc 3 _ rfl
 ·rw [qi ad 4 (by decide)]; exact hc 4 _ rfl
theorem cel_two {w W : World} {ad : Addr} {B : Nat} {a b : Cel} {r : List Cel} (h : Sees w B (some ad) (zc (a :: b :: r))) (hb : Below w.heap.size w W) (hab : ad.block < w.heap.size) : W.cell? ⟨ad.block, ad.off + 5, none⟩ = some (.string b.text) /\ W.cell? ⟨ad.block, ad.off + 5 + 1, none⟩ = some (.int .i8 b.wide) /\ W.cell? ⟨ad.block, ad.off + 5 + 2, none⟩ = some (.int .i32 b.st.fg) /\ W.cell? ⟨ad.block, ad.off + 5 + 3, none⟩ = some (.int .i32 b.st.bg) /\ W.cell? ⟨ad.block, ad.off + 5 + 4, none⟩ = some (.int .u8 (bI b.st.at_)) := by
 rw [jM, jM] at h
 obtain ⟨ad', e, _, hc⟩ := h (by simp [celV])
 cases e
 have g : ∀ k, k ≠ 0 -> (⟨ad.block, ad.off + k, none⟩ : Addr) = ad.add k := fun k hk => qi ad k hk
 refine ⟨?_, ?_, ?_, ?_, ?_⟩
 ·rw [g 5 (by decide)]; exact (hb.cell (p := ad.add 5) (by rw [zj]; exact hab)).trans (hc 5 _ rfl)
 ·rw [Nat.add_assoc, g (5 + 1) (by decide)]; exact (hb.cell (p := ad.add 6) (by rw [zj]; exact hab)).trans (hc 6 _ rfl)
 ·rw [Nat.add_assoc, g (5 + 2) (by decide)]; exact (hb.cell (p := ad.add 7) (by rw [zj]; exact hab)).trans (hc 7 _ rfl)
 ·rw [Nat.add_assoc, g (5 + 3) (by decide)]; exact (hb.cell (p := ad.add 8) (by rw [zj]; exact hab)).trans (hc 8 _ rfl)
 ·rw [Nat.add_assoc, g (5 + 4) (by decide)]; exact (hb.cell (p := ad.add 9) (by rw [zj]; exact hab)).trans (hc 9 _ rfl)
theorem Sees.dropV {w : World} {B : Nat} {ad : Addr} {xs : List Value} (k : Nat) (h : Sees w B (some ad) xs) : Sees w B (some (ad.add k)) (xs.drop k) := fun hne => by
 obtain ⟨ad', e, hb, hc⟩ := h (fun e => hne (by rw [e]; simp))
 cases e
 refine ⟨_, rfl, by rw [zj]; exact hb, fun j u hj => ?_⟩
 rw [xo]
 refine hc (k + j) u ?_
 rw [List.getElem?_drop] at hj
 exact hj
theorem Sees.takeV {w : World} {B : Nat} {A : Option Addr} {xs : List Value} (k : Nat) (h : Sees w B A xs) : Sees w B A (xs.take k) := fun hne => by
 obtain ⟨ad, e, hb, hc⟩ := h (fun e => hne (by rw [e]; simp))
 refine ⟨ad, e, hb, fun j u hj => hc j u ?_⟩
 rw [List.getElem?_take] at hj
 split at hj
 ·exact hj
 ·cases hj
end
section
open Go.RowKit
structure Rw where
 lo : Nat
 hi : Nat
 T : TypeId
 sz : Nat
 v : Value
 n : Nat
 xs : List Value
structure Row1 (w : World) (r : Rw) : Prop where
 own : w.ownsRow r.lo r.T r.sz r.v r.n r.xs
 top : ∀ g, r.v.ownBlock = some g -> g < r.hi
structure Rows (W0 w : World) (rs : List Rw) : Prop where
 all : ∀ r ∈ rs, Row1 w r /\ W0.heap.size <= r.lo /\ r.hi <= w.heap.size
 ord : rs.Pairwise fun r s => r.hi <= s.lo
 bel : Below W0.heap.size W0 w
end
section
open Go.RowKit Go.Sort
def ints (l : List Int) : List Value := l.map (.int .i64)
theorem kC (a b : List Int) : ints (a ++ b) = ints a ++ ints b := by simp [ints]
def sumD (l : List Int) : Int := (l.map digN).sum
theorem Xp (l : List Int) (x : Int) : sumD (l ++ [x]) = sumD l + digN x := by unfold sumD; simp
theorem Xq (l : List Int) : 0 <= sumD l /\ sumD l <= 3 * l.length := by
 unfold sumD
 induction l with
 | nil => simp
 | cons x r ih =>
  rw [List.map_cons, List.sum_cons, List.length_cons]
  have := kY x
  have : digN x <= 3 := by unfold digN; split; decide; split <;> decide
  omega
set_option maxHeartbeats 4000000 in
set_option maxRecDepth 100000 in
theorem Qi (A : Option Addr) (c : Nat) (xs : List Int) (hx : ∀ x ∈ xs, 0 <= x /\ x < 1000) (hm : xs.length <= 1000) (w : World) (h : Sees w w.heap.size A (ints xs)) :
  Calls Tryz.prog 84 #[.slice A xs.length c] w fun e w' => e = .returned (.int .i64 (zZ xs)) /\ w = w' := by
 have F := Vd (fun (k : Nat) (hk : k < xs.length) => h.at (k := k) (by simpa [ints] using hk))
 have HX := Vd hx
 obtain ⟨n, hn⟩ : ∃ n, n = xs.length := ⟨_, rfl⟩
 have HN := Vd hn
 rw [<- hn] at hm ⊢
 have SB := Vd (fun k => Xq (xs.take k))
 clear h hx hn
 go_enter Tryz.func84, Tryz.ntmps84
 go_wp2_with fail
 go_loop [3, 11] (fun s i => ∃ (k : Nat) (z : Int), k <= n /\ i = .int .i64 k /\ s = .int .i64 z /\ Hid (z = (n : Int) - 1 + sumD (xs.take k))) (fun _ i => n - (intOf i).toNat)
 case atStart => exact ⟨0, _, by omega, rfl, rfl, Vd (by simp [sumD])⟩
 case round =>
  obtain ⟨k, z, hk, rfl, rfl, hz⟩ := hrel
  have zb : -1 <= z /\ z <= 4000 := by
   have := SB.out k
   have l := List.length_take_le k xs
   have e := hz.out
   have := HN.out
   omega
  obtain ⟨zb1, zb2⟩ := zb
  by_cases lt : k < n
  ·have kl : k < xs.length := by have := HN.out; omega
   obtain ⟨ad, rfl, hb, hc0⟩ := F.out k kl
   have NX : Hid (sumD (xs.take (k + 1)) = sumD (xs.take k) + digN xs[k]) := Vd (by rw [List.take_succ_eq_append_getElem kl, Xp])
   obtain ⟨x0, x1⟩ := HX.out xs[k] (List.getElem_mem _)
   have hc : w.cell? (ad.add k) = some (.int .i64 xs[k]) := by rw [hc0]; simp [ints]
   clear hc0
   generalize xs[k] = x at *
   by_cases t1 : x < 10
   ·have D : Hid (digN x = 1) := Vd (by unfold digN; rw [if_pos t1])
    go_wp2_with fail
    go_rounds 1
    go_round
    case rel => exact ⟨k + 1, _, by omega, by go_num, rfl, Vd (by rw [NX.out, D.out, hz.out]; omega)⟩
    case measure => simp [intOf]; omega
   by_cases t2 : x < 100
   ·have D : Hid (digN x = 2) := Vd (by unfold digN; rw [if_neg t1, if_pos t2])
    have e1 : x / 10 < 10 := by omega
    have e2 : 0 <= x / 10 := by omega
    go_wp2_with fail
    go_rounds 2
    go_round
    case rel => exact ⟨k + 1, _, by omega, by go_num, rfl, Vd (by rw [NX.out, D.out, hz.out]; omega)⟩
    case measure => simp [intOf]; omega
   ·have D : Hid (digN x = 3) := Vd (by unfold digN; rw [if_neg t1, if_neg t2])
    have e1 : 10 <= x / 10 := by omega
    have e3 : x / 10 / 10 < 10 := by omega
    have e4 : 0 <= x / 10 / 10 := by omega
    go_wp2_with fail
    go_rounds 3
    go_round
    case rel => exact ⟨k + 1, _, by omega, by go_num, rfl, Vd (by rw [NX.out, D.out, hz.out]; omega)⟩
    case measure => simp [intOf]; omega
  ·have e : k = n := by omega
   subst e
   have E : Hid (z = zZ xs) := Vd (by rw [hz.out, HN.out, List.take_length]; unfold zZ sumD; omega)
   go_wp2_with fail
   go_ret
   exact ⟨zC E.out, rfl⟩
theorem xM : (Tryz.prog.info? 3).map (fun i => (i.zero, i.size, i.bytes)) = some (some (.int .i64 0), 1, 8) := by kernel_rfl
theorem newsL (w : World) (l : List Value) (T : TypeId) : ∀ (j : Nat) (u : Value), l[j]? = some u -> (w.alloc (.cells l.toArray T)).cell? ((⟨w.heap.size, 0, none⟩ : Addr).add j) = some u := by
 intro j u h
 have hj : j < l.length := (List.getElem?_eq_some_iff.1 h).1
 have e : ((⟨w.heap.size, 0, none⟩ : Addr).add j) = ⟨w.heap.size, j, none⟩ := by
  unfold Addr.add
  split
  ·rename_i z; rw [z]
  ·simp
 rw [e]
 simp [go_sem, h]
theorem vy {w w' : World} {row : Option Nat} {o : Obj} (h : (w.alloc o).grownBy w' row) : w.grownBy w' row :=
 ⟨h.os, h.tape, h.output, Nat.le_trans (by simp) h.size, fun i hi hr => (h.block i (by simp; omega) hr).trans (((Below.refl w.heap.size w).alloc Vf o).block i hi)⟩
def AppRet (lo : Nat) (w : World) (v : Value) (ys : List Int) (e : Ending) (w' : World) : Prop :=
 ∃ v', e = .returned v' /\ w'.ownsRow lo 3 1 v' ys.length (ints ys) /\ w.grownBy w' v.ownBlock /\ (v'.ownBlock = v.ownBlock \/ ∃ g, v'.ownBlock = some g /\ w.heap.size <= g)
theorem Qj (n : Int) : bits .and .i64 n 255 = n % 256 := by
 have h : (BitVec.ofInt 64 255).toNat = 2 ^ 8 - 1 := by decide
 have k : (BitVec.ofInt 64 n &&& BitVec.ofInt 64 255).toNat = (n % ((2 ^ 64 : Nat) : Int)).toNat % 2 ^ 8 := by
  rw [BitVec.toNat_and, BitVec.toNat_ofInt, h, Nat.and_two_pow_sub_one_eq_mod]
 show IntKind.i64.wrap ((BitVec.ofInt 64 n &&& BitVec.ofInt 64 255).toNat : Nat) = n % 256
 rw [k, IntKind.wrap_i64]
 omega
set_option maxHeartbeats 4000000 in
set_option maxRecDepth 100000 in
theorem kD (lo : Nat) (v : Value) (xs : List Int) (c base : Int) (hc : qm c) (hb0 : 0 <= base) (hb1 : base <= 1000) (hm : xs.length <= 1000) (w : World) (hlo : lo <= w.heap.size) (h : w.ownsRow lo 3 1 v xs.length (ints xs)) :
  Calls Tryz.prog 83 #[v, .int .i32 c, .int .i64 base] w (AppRet lo w v (xs ++ colL c base)) := by
 obtain ⟨i0, hi0, hz0, hz1, hz2⟩ := info_parts xM
 have O1 := Vd (fun (l : List Int) (hl : l.length <= 5) => show ∀ (v' : Value) (w3 : World), w3.ownsRow lo 3 1 v' (xs.length + l.length) (ints xs ++ ints l) -> (w.alloc (.cells (ints l).toArray 3)).grownBy w3 v.ownBlock -> (v'.ownBlock = v.ownBlock \/ v'.ownBlock = some (w.alloc (.cells (ints l).toArray 3)).heap.size) -> AppRet lo w v (xs ++ l) (.returned v') w3 from
  fun v' w3 a b d => ⟨v', rfl, by rw [List.length_append, kC]; exact a, vy b, d.imp id fun e => ⟨_, e, by simp⟩⟩)
 have H := Vd (fun (l : List Int) => h.alloc (.cells (ints l).toArray 3))
 have NL := Vd (fun (l : List Int) => newsL w (ints l) 3)
 obtain ⟨n, hn⟩ : ∃ n, n = xs.length := ⟨_, rfl⟩
 have HN := Vd hn
 have H2 : ∀ k, k <= 5 -> xs.length + k <= maxLen /\ (xs.length + k) * 8 <= 140737488355328 := fun k hk => by unfold maxLen; omega
 have H2 := Vd H2
 have H4 : ∀ l : List Int, lo <= (w.alloc (.cells (ints l).toArray 3)).heap.size := fun l => by simp; omega
 have H4 := Vd H4
 have H1 := Vd (fun (l : List Int) => show ∀ u ∈ ints l, u.oneCell' = true from fun u hu => by
  unfold ints at hu
  obtain ⟨x, _, rfl⟩ := List.mem_map.1 hu
  rfl)
 clear h hn hm hlo
 rcases hc with rfl | ⟨c0, c1⟩ | ⟨c0, c1⟩
 ·have E : Hid (colL 0 base = [base + 9]) := Vd rfl
  go_enter Tryz.func83, Tryz.ntmps83
  go_wp2_with (at_builtin; refine wpList_append_own_at _ rfl (.tmp 11) (.tmp 14) 38 rfl lo 3 i0 (.int .i64 0) 1 8 Tryz.underlying38 hi0 hz0 hz1 hz2 rfl (by decide) v xs.length (ints xs) rfl (H.out [base + 9]) ⟨w.heap.size, 0, none⟩ 1 1 (ints [base + 9]) rfl rfl (NL.out [base + 9]) (H1.out _) (H2.out 1 (by decide)).1 (H2.out 1 (by decide)).2 (H4.out [base + 9]) ?_; intro v' w3 hown3 hg3 _ hat3)
  have R := O1.out [base + 9] (by simp) v' w3 hown3 hg3 hat3
  have R := Vd R
  clear hown3 hg3 hat3
  go_wp2_with fail
  go_ret
  rw [E.out]
  exact R.out
 ·by_cases t1 : 272 <= c
  ·have E : Hid (colL c base = [base + 8, 5, c - 256]) := Vd (by unfold colL; rw [if_neg (by omega), if_neg (by omega), if_pos t1])
   go_enter Tryz.func83, Tryz.ntmps83
   go_wp2_with (at_builtin; refine wpList_append_own_at _ rfl (.tmp 37) (.tmp 43) 38 rfl lo 3 i0 (.int .i64 0) 1 8 Tryz.underlying38 hi0 hz0 hz1 hz2 rfl (by decide) v xs.length (ints xs) rfl (H.out [base + 8, 5, c - 256]) ⟨w.heap.size, 0, none⟩ 3 3 (ints [base + 8, 5, c - 256]) rfl rfl (NL.out [base + 8, 5, c - 256]) (H1.out _) (H2.out 3 (by decide)).1 (H2.out 3 (by decide)).2 (H4.out [base + 8, 5, c - 256]) ?_; intro v' w3 hown3 hg3 _ hat3)
   have R := O1.out [base + 8, 5, c - 256] (by simp) v' w3 hown3 hg3 hat3
   have R := Vd R
   clear hown3 hg3 hat3
   go_wp2_with fail
   go_ret
   rw [E.out]
   exact R.out
  by_cases t2 : 264 <= c
  ·have E : Hid (colL c base = [base + 60 + (c - 256 - 8)]) := Vd (by unfold colL; rw [if_neg (by omega), if_neg (by omega), if_neg t1, if_pos t2, show c - 256 - 8 = c - 264 by omega])
   go_enter Tryz.func83, Tryz.ntmps83
   go_wp2_with (at_builtin; refine wpList_append_own_at _ rfl (.tmp 48) (.tmp 56) 38 rfl lo 3 i0 (.int .i64 0) 1 8 Tryz.underlying38 hi0 hz0 hz1 hz2 rfl (by decide) v xs.length (ints xs) rfl (H.out [base + 60 + (c - 256 - 8)]) ⟨w.heap.size, 0, none⟩ 1 1 (ints [base + 60 + (c - 256 - 8)]) rfl rfl (NL.out [base + 60 + (c - 256 - 8)]) (H1.out _) (H2.out 1 (by decide)).1 (H2.out 1 (by decide)).2 (H4.out [base + 60 + (c - 256 - 8)]) ?_; intro v' w3 hown3 hg3 _ hat3)
   have R := O1.out [base + 60 + (c - 256 - 8)] (by simp) v' w3 hown3 hg3 hat3
   have R := Vd R
   clear hown3 hg3 hat3
   go_wp2_with fail
   go_ret
   rw [E.out]
   exact R.out
  ·have E : Hid (colL c base = [base + (c - 256)]) := Vd (by unfold colL; rw [if_neg (by omega), if_neg (by omega), if_neg t1, if_neg t2])
   go_enter Tryz.func83, Tryz.ntmps83
   go_wp2_with (at_builtin; refine wpList_append_own_at _ rfl (.tmp 58) (.tmp 64) 38 rfl lo 3 i0 (.int .i64 0) 1 8 Tryz.underlying38 hi0 hz0 hz1 hz2 rfl (by decide) v xs.length (ints xs) rfl (H.out [base + (c - 256)]) ⟨w.heap.size, 0, none⟩ 1 1 (ints [base + (c - 256)]) rfl rfl (NL.out [base + (c - 256)]) (H1.out _) (H2.out 1 (by decide)).1 (H2.out 1 (by decide)).2 (H4.out [base + (c - 256)]) ?_; intro v' w3 hown3 hg3 _ hat3)
   have R := O1.out [base + (c - 256)] (by simp) v' w3 hown3 hg3 hat3
   have R := Vd R
   clear hown3 hg3 hat3
   go_wp2_with fail
   go_ret
   rw [E.out]
   exact R.out
 ·obtain ⟨N, hN⟩ : ∃ N, N = c - 16777216 := ⟨_, rfl⟩
  have E : Hid (colL c base = [base + 8, 2, N / 65536, N / 256 % 256, N % 256]) := Vd (by unfold colL; rw [if_neg (by omega), if_pos c0, <- hN])
  have n0 : 0 <= N := by omega
  have n1 : N < 16777216 := by omega
  have ec : c = N + 16777216 := by omega
  subst ec
  have en : N + 16777216 - 16777216 = N := by omega
  have b1 := Qj (N / 256)
  have b2 := Qj N
  clear hN
  go_enter Tryz.func83, Tryz.ntmps83
  go_wp2_with (at_builtin; refine wpList_append_own_at _ rfl (.tmp 22) (.tmp 32) 38 rfl lo 3 i0 (.int .i64 0) 1 8 Tryz.underlying38 hi0 hz0 hz1 hz2 rfl (by decide) v xs.length (ints xs) rfl (H.out [base + 8, 2, N / 65536, N / 256 % 256, N % 256]) ⟨w.heap.size, 0, none⟩ 5 5 (ints [base + 8, 2, N / 65536, N / 256 % 256, N % 256]) rfl rfl (NL.out [base + 8, 2, N / 65536, N / 256 % 256, N % 256]) (H1.out _) (H2.out 5 (by decide)).1 (H2.out 5 (by decide)).2 (H4.out [base + 8, 2, N / 65536, N / 256 % 256, N % 256]) ?_; intro v' w3 hown3 hg3 _ hat3)
  have R := O1.out [base + 8, 2, N / 65536, N / 256 % 256, N % 256] (by simp) v' w3 hown3 hg3 hat3
  have R := Vd R
  clear hown3 hg3 hat3
  go_wp2_with fail
  go_ret
  rw [E.out]
  exact R.out
end
section
open Go Go.RowKit Go.Sort
structure Pair (W0 w : World) (v1 v2 : Value) (l1 l2 : List Int) : Prop where
 o1 : w.ownsRow W0.heap.size 3 1 v1 l1.length (ints l1)
 o2 : w.ownsRow W0.heap.size 3 1 v2 l2.length (ints l2)
 ap : ∀ g, v1.ownBlock = some g -> v2.ownBlock ≠ some g
 be : Below W0.heap.size W0 w
theorem Pair.one {W0 w w' : World} {v1 v2 v1' : Value} {l1 l2 l1' : List Int} (h : Pair W0 w v1 v2 l1 l2) (ho : w'.ownsRow W0.heap.size 3 1 v1' l1'.length (ints l1')) (hg : w.grownBy w' v1.ownBlock)
  (ha : v1'.ownBlock = v1.ownBlock \/ ∃ g, v1'.ownBlock = some g /\ w.heap.size <= g) : Pair W0 w' v1' v2 l1' l2 where
 o1 := ho
 o2 := h.o2.kept hg (by
  cases e : v2.ownBlock with
  | none => exact Or.inl rfl
  | some g => exact Or.inr fun q => h.ap g q.symm e)
 ap := fun g hg1 hg2 => by
  rcases ha with a | ⟨g', a, b⟩
  ·exact h.ap g (a ▸ hg1) hg2
  ·rw [a] at hg1
   cases hg1
   have := (h.o2.lt g hg2).2
   omega
 be := h.be.grown hg h.be.size (fun k hk => (h.o1.lt k hk).1)
theorem Pair.two {W0 w w' : World} {v1 v2 v2' : Value} {l1 l2 l2' : List Int} (h : Pair W0 w v1 v2 l1 l2) (ho : w'.ownsRow W0.heap.size 3 1 v2' l2'.length (ints l2')) (hg : w.grownBy w' v2.ownBlock)
  (ha : v2'.ownBlock = v2.ownBlock \/ ∃ g, v2'.ownBlock = some g /\ w.heap.size <= g) : Pair W0 w' v1 v2' l1 l2' where
 o2 := ho
 o1 := h.o1.kept hg (by
  cases e : v1.ownBlock with
  | none => exact Or.inl rfl
  | some g => exact Or.inr fun q => h.ap g e q.symm)
 ap := fun g hg1 hg2 => by
  rcases ha with a | ⟨g', a, b⟩
  ·exact h.ap g hg1 (a ▸ hg2)
  ·rw [a] at hg2
   cases hg2
   have := (h.o1.lt g hg1).2
   omega
 be := h.be.grown hg h.be.size (fun k hk => (h.o2.lt k hk).1)
theorem jN {ops : Array Oper} {rest : List Oper} {o : Oper} {a : Act} {Q : Exit -> Act -> World -> Prop} {W0 w : World} {v1 v2 : Value} {l1 l2 : List Int} (P : Pair W0 w v1 v2 l1 l2) (s x : Operand) (n : Int) (hm : l1.length <= 1000) (hgd : o.guard = none)
  (ho : o.op = .call { callee := .builtin .append, args := #[s, x], argTypes := #[38, 38] }) (hs : a.eval s = v1) (hx : a.eval x = .slice (some ⟨w.heap.size, 0, none⟩) 1 1)
  (h : ∀ v' w', Hid (Pair W0 w' v' v2 (l1 ++ [n]) l2) -> wpList Tryz.prog ops Q rest (a.put o.dst v') w') : wpList Tryz.prog ops Q (o :: rest) a (w.alloc (.cells #[.int .i64 n] 3)) := by
 obtain ⟨i0, hi0, hz0, hz1, hz2⟩ := info_parts xM
 refine wpList_append_own_at _ hgd s x 38 ho W0.heap.size 3 i0 (.int .i64 0) 1 8 Tryz.underlying38 hi0 hz0 hz1 hz2 rfl (by decide) v1 l1.length (ints l1) hs (P.o1.alloc _) ⟨w.heap.size, 0, none⟩ 1 1 (ints [n]) hx rfl (newsL w (ints [n]) 3)
  (fun u hu => by simp [ints] at hu; subst hu; rfl) (by unfold maxLen; omega) (by omega) (by have := P.be.size; simp; omega) ?_
 intro v' w' h1 h2 _ h4
 refine h v' w' (Vd (P.one ?_ (vy h2) ?_))
 ·rw [List.length_append, kC]; exact h1
 ·rcases h4 with e | e
  ·exact Or.inl e
  ·exact Or.inr ⟨_, e, by simp⟩
theorem Qk {ops : Array Oper} {rest : List Oper} {o : Oper} {a : Act} {Q : Exit -> Act -> World -> Prop} {W0 w : World} {v1 v2 : Value} {l1 l2 : List Int} (P : Pair W0 w v1 v2 l1 l2) (s x : Operand) (n : Int) (hm : l2.length <= 1000) (hgd : o.guard = none)
  (ho : o.op = .call { callee := .builtin .append, args := #[s, x], argTypes := #[38, 38] }) (hs : a.eval s = v2) (hx : a.eval x = .slice (some ⟨w.heap.size, 0, none⟩) 1 1)
  (h : ∀ v' w', Hid (Pair W0 w' v1 v' l1 (l2 ++ [n])) -> wpList Tryz.prog ops Q rest (a.put o.dst v') w') : wpList Tryz.prog ops Q (o :: rest) a (w.alloc (.cells #[.int .i64 n] 3)) := by
 obtain ⟨i0, hi0, hz0, hz1, hz2⟩ := info_parts xM
 refine wpList_append_own_at _ hgd s x 38 ho W0.heap.size 3 i0 (.int .i64 0) 1 8 Tryz.underlying38 hi0 hz0 hz1 hz2 rfl (by decide) v2 l2.length (ints l2) hs (P.o2.alloc _) ⟨w.heap.size, 0, none⟩ 1 1 (ints [n]) hx rfl (newsL w (ints [n]) 3)
  (fun u hu => by simp [ints] at hu; subst hu; rfl) (by unfold maxLen; omega) (by omega) (by have := P.be.size; simp; omega) ?_
 intro v' w' h1 h2 _ h4
 refine h v' w' (Vd (P.two ?_ (vy h2) ?_))
 ·rw [List.length_append, kC]; exact h1
 ·rcases h4 with e | e
  ·exact Or.inl e
  ·exact Or.inr ⟨_, e, by simp⟩
def tkK (g : B8) (k : Nat) : List Int := ((List.range k).filter fun i => decide (2 <= i) && g.getLsbD i).map offN
def stK (g : B8) (k : Nat) : List Int := ((List.range k).filter fun i => g.getLsbD i).map onN
theorem Ql (g : B8) (k : Nat) (h : 2 <= k) : tkK g (k + 1) = if g.getLsbD k = true then tkK g k ++ [offN k] else tkK g k := by
 unfold tkK
 rw [List.range_succ, List.filter_append, List.map_append]
 cases e : g.getLsbD k
 ·simp [e]
 ·simp [e, h]
theorem kE (g : B8) (k : Nat) : stK g (k + 1) = if g.getLsbD k = true then stK g k ++ [onN k] else stK g k := by
 unfold stK
 rw [List.range_succ, List.filter_append, List.map_append]
 cases e : g.getLsbD k
 ·simp [e]
 ·simp [e]
theorem kF (g : B8) (k : Nat) : (tkK g k).length <= k := by unfold tkK; rw [List.length_map]; exact Nat.le_trans (List.length_filter_le _ _) (by simp)
theorem xN (g : B8) (k : Nat) : (stK g k).length <= k := by unfold stK; rw [List.length_map]; exact Nat.le_trans (List.length_filter_le _ _) (by simp)
theorem Qm (g : B8) : tkK g 2 = [] := by unfold tkK; simp [List.range_succ]
theorem kG (g : B8) : tkK g 8 = jw g := rfl
theorem xO (g : B8) : stK g 8 = setL g := rfl
end
end Go.Proofs.YtifoijbpbigaaaaGreatDoor
