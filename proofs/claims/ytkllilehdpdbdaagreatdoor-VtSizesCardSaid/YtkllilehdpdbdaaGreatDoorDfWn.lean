/- The class of a number, the program's side: the walks. -/
import Derived.Test.YtkllilehdpdbdaaGreatDoorDfUc
import Derived.Test.YtkllilehdpdbdaaGreatDoorDfTx
import Derived.Deep.QuietTactic
namespace Go.Proofs.YtkllilehdpdbdaaGreatDoor
open Go.RowKit Go.Sort
set_option linter.unusedVariables false

def flatK (l : List (Int × Int)) : List Value := l.flatMap fun p => [.int .i32 p.1, .int .i32 p.2]

set_option maxHeartbeats 8000000 in
set_option maxRecDepth 100000 in
theorem d_told (c : Nat) (hc : c < 9) (w : World) : Calls Tryz.prog 83 #[.int .i8 (c : Int)] w fun e w' => e = .returned (.slice (some ⟨w.heap.size, 0, none⟩) (toldK c).length (toldK c).length) ∧ w' = w.alloc (.cells (flatK (toldK c)).toArray 161) := by
  have q : c = 0 ∨ c = 1 ∨ c = 2 ∨ c = 3 ∨ c = 4 ∨ c = 5 ∨ c = 6 ∨ c = 7 ∨ c = 8 := by omega
  rcases q with rfl | rfl | rfl | rfl | rfl | rfl | rfl | rfl | rfl
  all_goals
    go_enter Tryz.func83, Tryz.ntmps83
    go_wp2_with fail
    go_ret
    exact ⟨rfl, rfl⟩
end Go.Proofs.YtkllilehdpdbdaaGreatDoor

/- The class of a number, the program's side: the search and Kind. -/
namespace Go.Proofs.YtkllilehdpdbdaaGreatDoor
open Go.RowKit Go.Sort
set_option linter.unusedVariables false

/-- a block that shows stretches -/
def SeesK (w : World) (g : Nat) (l : List (Int × Int)) : Prop := ∀ j, j < l.length → w.cell? ⟨g, j * 2, none⟩ = some (.int .i32 (l.getD j (0, 0)).1) ∧ w.cell? ⟨g, j * 2 + 1, none⟩ = some (.int .i32 (l.getD j (0, 0)).2)
theorem flatK_at : ∀ (l : List (Int × Int)) (j : Nat), j < l.length → (flatK l)[j * 2]? = some (.int .i32 (l.getD j (0, 0)).1) ∧ (flatK l)[j * 2 + 1]? = some (.int .i32 (l.getD j (0, 0)).2)
  | [], j, h => by cases h
  | p :: l, 0, _ => ⟨rfl, rfl⟩
  | p :: l, j + 1, h => by
    have ih := flatK_at l j (by simpa using h)
    have e : flatK (p :: l) = .int .i32 p.1 :: .int .i32 p.2 :: flatK l := rfl
    rw [e, show (j + 1) * 2 = j * 2 + 1 + 1 by omega]
    simpa using ih
theorem SeesK.new (w : World) (l : List (Int × Int)) (T : TypeId) : SeesK (w.alloc (.cells (flatK l).toArray T)) w.heap.size l := fun j hj => by
  have h := flatK_at l j hj
  exact ⟨(new_cell w (flatK l) T _ _ h.1).1, (new_cell w (flatK l) T _ _ h.2).1⟩
theorem SeesK.below {w w' : World} {g B : Nat} {l : List (Int × Int)} (h : SeesK w g l) (hb : Below B w w') (hg : g < B) : SeesK w' g l := fun j hj =>
  ⟨(hb.cell (p := ⟨g, j * 2, none⟩) hg).trans (h j hj).1, (hb.cell (p := ⟨g, j * 2 + 1, none⟩) hg).trans (h j hj).2⟩

set_option maxHeartbeats 4000000 in
set_option maxRecDepth 100000 in
theorem d_w1 (g bl br i : Nat) (l : List (Int × Int)) (r : Int) (hi : i < l.length) (w : World) (hl : w.cell? ⟨bl, 0, none⟩ = some (.slice (some ⟨g, 0, none⟩) l.length l.length)) (hr : w.cell? ⟨br, 0, none⟩ = some (.int .i32 r)) (hK : SeesK w g l) :
    Calls Tryz.prog 110 #[.int .i64 (i : Int), .pointer (some ⟨bl, 0, none⟩), .pointer (some ⟨br, 0, none⟩)] w fun e w' => e = .returned (.bool (decide (r ≤ (l.getD i (0, 0)).2))) ∧ ∃ q, w' = w.drewN q := by
  obtain ⟨_, c1⟩ := hK i hi
  clear hK
  generalize (l.getD i (0, 0)).2 = y at *
  generalize l.length = n at *
  go_enter Tryz.func110, Tryz.ntmps110
  go_wp2_with fail
  go_quiet (fail)
  go_wp2_with fail
  go_ret
  exact ⟨rfl, _, rfl⟩

theorem count_lo (p : Nat → Bool) (n lo : Nat) (hl : lo ≤ n) (h1 : ∀ t, t < lo → p t = false) (h2 : ∀ t, lo ≤ t → t < n → p t = true) : (List.range n).countP (fun i => !p i) = lo := by
  have e : List.range n = List.range lo ++ (List.range (n - lo)).map (lo + ·) := by
    rw [← List.range_add]
    congr 1
    omega
  rw [e, List.countP_append]
  have a : (List.range lo).countP (fun i => !p i) = lo := by
    have := List.countP_eq_length.2 (fun i (hi : i ∈ List.range lo) => show (!p i) = true by rw [h1 i (List.mem_range.1 hi)]; rfl)
    rw [this, List.length_range]
  have b : ((List.range (n - lo)).map (lo + ·)).countP (fun i => !p i) = 0 := by
    refine List.countP_eq_zero.2 fun i hi => ?_
    obtain ⟨j, hj, rfl⟩ := List.mem_map.1 hi
    have := List.mem_range.1 hj
    rw [h2 (lo + j) (by omega) (by omega)]
    decide
  omega

set_option maxHeartbeats 8000000 in
set_option maxRecDepth 100000 in
theorem d_search (g bl br : Nat) (l : List (Int × Int)) (r : Int) (hn : l.length ≤ 1000) (hm : ∀ i j, i ≤ j → j < l.length → (l.getD i (0, 0)).2 ≤ (l.getD j (0, 0)).2) (w : World) (hl : w.cell? ⟨bl, 0, none⟩ = some (.slice (some ⟨g, 0, none⟩) l.length l.length)) (hr : w.cell? ⟨br, 0, none⟩ = some (.int .i32 r)) (hK : SeesK w g l) :
    Calls Tryz.prog 109 #[.int .i64 (l.length : Int), .func (.func 110) #[] #[.pointer (some ⟨bl, 0, none⟩), .pointer (some ⟨br, 0, none⟩)]] w fun e w' => e = .returned (.int .i64 (aheadK l r : Int)) ∧ ∃ q, w' = w.drewN q := by
  have C := Lib.hid (fun i hi (W : World) (h : ∃ q, W = w.drewN q) => d_w1 g bl br i l r hi W (by obtain ⟨q, rfl⟩ := h; exact hl) (by obtain ⟨q, rfl⟩ := h; exact hr) (by obtain ⟨q, rfl⟩ := h; exact hK))
  have AK : Hid (aheadK l r = (List.range l.length).countP fun i => !decide (r ≤ (l.getD i (0, 0)).2)) := Lib.hid rfl
  have HM : Hid (∀ i j, i ≤ j → j < l.length → decide (r ≤ (l.getD i (0, 0)).2) = true → decide (r ≤ (l.getD j (0, 0)).2) = true) := Lib.hid (fun i j h1 h2 h3 => by
    have := hm i j h1 h2
    have := of_decide_eq_true h3
    exact decide_eq_true (by omega))
  obtain ⟨p, hp⟩ : ∃ p : Nat → Bool, p = fun i => decide (r ≤ (l.getD i (0, 0)).2) := ⟨_, rfl⟩
  have C : Hid (∀ i, i < l.length → ∀ W : World, (∃ q, W = w.drewN q) → Calls Tryz.prog 110 #[.int .i64 (i : Int), .pointer (some ⟨bl, 0, none⟩), .pointer (some ⟨br, 0, none⟩)] W fun e w' => e = .returned (.bool (p i)) ∧ ∃ q, w' = W.drewN q) := by rw [hp]; exact C
  have AK : Hid (aheadK l r = (List.range l.length).countP fun i => !p i) := by rw [hp]; exact AK
  have HM : Hid (∀ i j, i ≤ j → j < l.length → p i = true → p j = true) := by rw [hp]; exact HM
  clear hp hm hl hr hK
  generalize aheadK l r = ak at *
  generalize l.length = n at *
  go_enter Tryz.func109, Tryz.ntmps109
  go_wp2_with fail
  go_loopw [5, 6, 7] (fun s5 s6 s7 wr => ∃ lo hi : Nat, s5 = .int .i64 lo ∧ s6 = .int .i64 hi ∧ lo ≤ hi ∧ hi ≤ n ∧ (∃ q, wr = w.drewN q) ∧ Hid ((∀ t, t < lo → p t = false) ∧ (∀ t, hi ≤ t → t < n → p t = true))) (fun s5 s6 _ _ => (intOf s6).toNat - (intOf s5).toNat)
  case atStart => exact ⟨0, n, rfl, rfl, by omega, Nat.le_refl _, ⟨0, rfl⟩, Lib.hid ⟨fun t h => by omega, fun t h1 h2 => by omega⟩⟩
  case round =>
    obtain ⟨lo, hi, rfl, rfl, h1, h2, hq, I⟩ := hrel
    by_cases lt : lo < hi
    · obtain ⟨m, hmm⟩ : ∃ m, m = (lo + hi) / 2 := ⟨_, rfl⟩
      have m1 : lo ≤ m := by omega
      have m2 : m < hi := by omega
      have em : ((lo : Int) + (hi : Int)) / 2 = (m : Int) := by omega
      have CC := Lib.hid (C.out m (by omega) _ hq)
      have HQ := Lib.hid hq
      clear hmm hq
      go_wp2_with fail
      refine CC.out.mono ?_; rintro e w1 ⟨rfl, q1, rfl⟩
      have NQ : Hid (∃ q, wr.drewN q1 = w.drewN q) := Lib.hid (by
        obtain ⟨q, e⟩ := HQ.out
        exact ⟨q + q1, by rw [e, World.drewN_drewN]⟩)
      cases hp : p m with
      | true =>
        go_wp2_with fail
        go_roundw
        case rel => exact ⟨lo, m, rfl, rfl, m1, by omega, NQ.out, Lib.hid ⟨I.out.1, fun t t1 t2 => HM.out m t t1 t2 hp⟩⟩
        case measure => simp [intOf]; omega
      | false =>
        go_wp2_with fail
        go_roundw
        case rel =>
          refine ⟨m + 1, hi, by go_num, rfl, by omega, h2, NQ.out, Lib.hid ⟨fun t ht => ?_, I.out.2⟩⟩
          cases ht2 : p t with
          | false => rfl
          | true =>
            have := HM.out t m (by omega) (by omega) ht2
            rw [hp] at this
            cases this
        case measure => simp [intOf]; omega
    · have e : lo = hi := by omega
      subst e
      have R : Hid (ak = lo) := Lib.hid (by rw [AK.out]; exact count_lo p n lo h2 I.out.1 I.out.2)
      go_wp2_with fail
      go_ret
      exact ⟨by rw [R.out]; rfl, hq⟩

set_option maxHeartbeats 8000000 in
set_option maxRecDepth 100000 in
theorem d_within (g : Nat) (l : List (Int × Int)) (r : Int) (hn : l.length ≤ 1000) (hm : ∀ i j, i ≤ j → j < l.length → (l.getD i (0, 0)).2 ≤ (l.getD j (0, 0)).2) (w : World) (hg : g < w.heap.size) (hK : SeesK w g l) :
    Calls Tryz.prog 82 #[.slice (some ⟨g, 0, none⟩) l.length l.length, .int .i32 r] w fun e w' => e = .returned (.bool (withinK l r)) ∧ Below w.heap.size w w' := by
  have hmf : ∀ (fn : Fn) (first cap : Array Value) (w : World), (Instr.makeFunc fn first cap).run Tryz.prog w = .ok (.func fn first cap) w := fun _ _ _ _ => rfl
  obtain ⟨W, hW⟩ : ∃ W, W = (w.alloc (.cells #[.slice (some ⟨g, 0, none⟩) l.length l.length] 139)).alloc (.cells #[.int .i32 r] 21) := ⟨_, rfl⟩
  have hB : Below w.heap.size w W := by rw [hW]; exact ((Below.refl _ w).alloc (Nat.le_refl _) _).alloc (by simp) _
  have K1 := hK.below hB hg
  have c1 : W.cell? ⟨w.heap.size, 0, none⟩ = some (.slice (some ⟨g, 0, none⟩) l.length l.length) := by rw [hW]; simp [go_sem]
  have c2 : W.cell? ⟨w.heap.size + 1, 0, none⟩ = some (.int .i32 r) := by rw [hW]; simp [go_sem]
  have SE := Lib.hid (d_search g w.heap.size (w.heap.size + 1) l r hn hm W c1 c2 K1)
  have WK : Hid (withinK l r = (decide (aheadK l r < l.length) && decide ((l.getD (aheadK l r) (0, 0)).1 ≤ r))) := Lib.hid rfl
  have KA : Hid (aheadK l r < l.length → W.cell? ⟨g, aheadK l r * 2, none⟩ = some (.int .i32 (l.getD (aheadK l r) (0, 0)).1)) := Lib.hid (fun h => (K1 _ h).1)
  have HB := Lib.hid hB
  generalize withinK l r = wk at *
  generalize aheadK l r = ak at *
  generalize (l.getD ak (0, 0)).1 = y at *
  generalize l.length = n at *
  clear hm hK K1 hB
  go_enter Tryz.func82, Tryz.ntmps82
  go_wp2_with fail
  rw [← hW]
  clear hW
  refine SE.out.mono ?_; rintro e w' ⟨rfl, q, rfl⟩
  by_cases lt : ak < n
  · have k0 := KA.out lt
    have R : Hid (wk = decide (y ≤ r)) := Lib.hid (by rw [WK.out, decide_eq_true lt]; rfl)
    go_wp2_with fail
    go_quiet (fail)
    go_wp2_with fail
    go_ret
    exact ⟨by rw [R.out]; rfl, below_drewN (below_drewN HB.out _) _⟩
  · have R : Hid (wk = false) := Lib.hid (by rw [WK.out, decide_eq_false lt]; rfl)
    go_wp2_with fail
    go_quiet (fail)
    go_wp2_with fail
    go_ret
    exact ⟨by rw [R.out]; rfl, below_drewN (below_drewN HB.out _) _⟩
end Go.Proofs.YtkllilehdpdbdaaGreatDoor

/- The class and the width of a number, the program's side. -/
namespace Go.Proofs.YtkllilehdpdbdaaGreatDoor
open Go.RowKit Go.Sort
set_option linter.unusedVariables false

theorem firstK_hit (r : Int) (f c : Nat) (h : withinK (toldK c) r = true) : firstK r (f + 1) c = c := by unfold firstK; rw [if_pos h]
theorem firstK_miss (r : Int) (f c : Nat) (h : withinK (toldK c) r = false) : firstK r (f + 1) c = firstK r f (c + 1) := by
  conv => lhs; unfold firstK
  rw [if_neg (by rw [h]; decide)]

set_option maxHeartbeats 8000000 in
set_option maxRecDepth 100000 in
theorem d_Kind (r : Int) (w : World) : Calls Tryz.prog 62 #[.int .i32 r] w fun e w' => e = .returned (.int .i8 (kindI r)) ∧ Below w.heap.size w w' := by
  have KI : Hid (kindI r = if r < 0 ∨ 1114111 < r then 0 else firstK r 9 0) := Lib.hid (kinds_same r)
  have TO := Lib.hid (fun c hc (W : World) => d_told c hc W)
  have WI : Hid (∀ c, c < 9 → ∀ (W : World), Calls Tryz.prog 82 #[.slice (some ⟨W.heap.size, 0, none⟩) (toldK c).length (toldK c).length, .int .i32 r] (W.alloc (.cells (flatK (toldK c)).toArray 161)) fun e w' => e = .returned (.bool (withinK (toldK c) r)) ∧ Below W.heap.size W w') := Lib.hid (fun c hc W => by
    have hl := told_len ⟨c, hc⟩
    simp only at hl
    refine (d_within W.heap.size (toldK c) r (by omega) (fun i j h1 h2 => told_rise ⟨c, hc⟩ ⟨i, by omega⟩ ⟨j, by omega⟩ h1 h2) _ (by simp) (SeesK.new W (toldK c) _)).mono fun e w' h => ⟨h.1, ?_⟩
    exact below_call ((Below.refl _ W).alloc (Nat.le_refl _) _) (by simp) h.2)
  have FH := Lib.hid (firstK_hit r)
  have FM := Lib.hid (firstK_miss r)
  generalize kindI r = kd at *
  by_cases h1 : r < 0
  · have R : Hid (kd = 0) := Lib.hid (by rw [KI.out, if_pos (Or.inl h1)])
    go_enter Tryz.func62, Tryz.ntmps62
    go_wp2_with fail
    go_ret
    exact ⟨by rw [R.out]; rfl, Below.refl _ _⟩
  by_cases h2 : 1114111 < r
  · have R : Hid (kd = 0) := Lib.hid (by rw [KI.out, if_pos (Or.inr h2)])
    go_enter Tryz.func62, Tryz.ntmps62
    go_wp2_with fail
    go_ret
    exact ⟨by rw [R.out]; rfl, Below.refl _ _⟩
  have R : Hid (kd = firstK r 9 0) := Lib.hid (by rw [KI.out, if_neg (by omega)])
  clear KI
  go_enter Tryz.func62, Tryz.ntmps62
  go_wp2_with fail
  go_loopw [3, 10] (fun s3 s10 wr => ∃ k : Nat, k ≤ 9 ∧ s10 = .int .i8 k ∧ Hid (firstK r (9 - k) k = kd ∧ Below w.heap.size w wr)) (fun _ s10 _ => 9 - (intOf s10).toNat)
  case atStart => exact ⟨0, by omega, rfl, Lib.hid ⟨R.out.symm, Below.refl _ _⟩⟩
  case round =>
    obtain ⟨k, hk, rfl, hI⟩ := hrel
    by_cases lt : k < 9
    · have T1 := Lib.hid (TO.out k lt wr)
      have W1 := Lib.hid (WI.out k lt wr)
      have FU : 9 - k = (9 - (k + 1)) + 1 := by omega
      have FK := hI.out.1
      rw [FU] at FK
      have FK := Lib.hid FK
      have FH := Lib.hid (FH.out (9 - (k + 1)) k)
      have FM := Lib.hid (FM.out (9 - (k + 1)) k)
      clear FU
      generalize toldK k = L at *
      go_wp2_with fail
      refine T1.out.mono ?_; rintro e w1 ⟨rfl, rfl⟩
      go_wp2_with fail
      refine W1.out.mono ?_; rintro e w1 ⟨rfl, hb1⟩
      have HB := Lib.hid (hI.out.2.trans (hb1.mono hI.out.2.size))
      clear hb1
      cases hw : withinK L r with
      | true =>
        have R2 : Hid (kd = (k : Int)) := Lib.hid (by rw [← FK.out]; exact FH.out hw)
        go_wp2_with fail
        go_ret
        exact ⟨by rw [R2.out]; rfl, HB.out⟩
      | false =>
        have NX : Hid (firstK r (9 - (k + 1)) (k + 1) = kd ∧ Below w.heap.size w w1) := Lib.hid ⟨by rw [← FK.out]; exact (FM.out hw).symm, HB.out⟩
        go_wp2_with fail
        go_roundw
        case rel => exact ⟨k + 1, by omega, by go_num, NX⟩
        case measure => simp [intOf]; omega
    · have ek : k = 9 := by omega
      subst ek
      have R2 : Hid (kd = 9) := Lib.hid (by rw [← hI.out.1]; rfl)
      go_wp2_with fail
      go_ret
      exact ⟨by rw [R2.out]; rfl, hI.out.2⟩

theorem kindI_rng (r : Int) : 0 ≤ kindI r ∧ kindI r ≤ 9 := by
  rw [kinds_same]
  unfold kindP
  split
  · omega
  · have h : ∀ f c, c + f ≤ 9 → 0 ≤ firstK r f c ∧ firstK r f c ≤ 9 := by
      intro f
      induction f with
      | zero => intro c _; unfold firstK; omega
      | succ f ih =>
        intro c hc
        unfold firstK
        split
        · omega
        · exact ih (c + 1) (by omega)
    exact h 9 0 (by decide)
def ofK (k : Int) : Int := if k = 1 ∨ k = 2 ∨ k = 3 ∨ k = 4 then 0 else if k = 7 ∨ k = 5 then 2 else 1

set_option maxHeartbeats 8000000 in
set_option maxRecDepth 100000 in
theorem d_Of (r : Int) (w : World) : Calls Tryz.prog 161 #[.int .i32 r] w fun e w' => e = .returned (.int .i64 (ofK (kindI r))) ∧ Below w.heap.size w w' := by
  have KI := Lib.hid (d_Kind r w)
  have kr := kindI_rng r
  generalize kindI r = k at *
  have q : k = 0 ∨ k = 1 ∨ k = 2 ∨ k = 3 ∨ k = 4 ∨ k = 5 ∨ k = 6 ∨ k = 7 ∨ k = 8 ∨ k = 9 := by omega
  clear kr
  rcases q with rfl | rfl | rfl | rfl | rfl | rfl | rfl | rfl | rfl | rfl
  all_goals
    go_enter Tryz.func161, Tryz.ntmps161
    go_wp2_with fail
    refine KI.out.mono ?_; rintro e w1 ⟨rfl, hb1⟩
    go_wp2_with fail
    go_ret
    exact ⟨rfl, hb1⟩

set_option maxHeartbeats 8000000 in
set_option maxRecDepth 100000 in
theorem d_pic (k : Int) (h0 : 0 ≤ k) (h1 : k ≤ 9) (w : World) : Calls Tryz.prog 162 #[.int .i8 k] w fun e w' => e = .returned (.bool (picK k)) ∧ w' = w := by
  have q : k = 0 ∨ k = 1 ∨ k = 2 ∨ k = 3 ∨ k = 4 ∨ k = 5 ∨ k = 6 ∨ k = 7 ∨ k = 8 ∨ k = 9 := by omega
  rcases q with rfl | rfl | rfl | rfl | rfl | rfl | rfl | rfl | rfl | rfl
  all_goals
    go_enter Tryz.func162, Tryz.ntmps162
    go_wp2_with fail
    go_ret
    exact ⟨rfl, rfl⟩
end Go.Proofs.YtkllilehdpdbdaaGreatDoor
