/- The nearest colour of the palette: distances and both searches. -/
import Derived.Test.YtkllilehdpdbdaaDoorColC
import Derived.Lib.QuietBelow
namespace Go.Proofs.YtkllilehdpdbdaaDoor
open Go.RowKit

def dist (a b c x y z : Int) : Int := (a - x) * (a - x) + (b - y) * (b - y) + (c - z) * (c - z)

theorem sq_le (a x : Int) (h0 : 0 ≤ a) (h1 : a ≤ 255) (g0 : 0 ≤ x) (g1 : x ≤ 255) : 0 ≤ (a - x) * (a - x) ∧ (a - x) * (a - x) ≤ 65025 := by
  constructor
  · rcases Int.le_total 0 (a - x) with h | h
    · exact Int.mul_nonneg h h
    · exact Int.mul_nonneg_of_nonpos_of_nonpos h h
  · rcases Int.le_total 0 (a - x) with h | h
    · have := Int.mul_le_mul (show a - x ≤ 255 by omega) (show a - x ≤ 255 by omega) h (by omega)
      omega
    · have := Int.mul_le_mul (show -(a - x) ≤ 255 by omega) (show -(a - x) ≤ 255 by omega) (by omega) (by omega)
      rw [Int.neg_mul_neg] at this
      omega

theorem dist_comm (a b c x y z : Int) : dist a b c x y z = dist x y z a b c := by
  unfold dist
  have e : ∀ p q : Int, (p - q) * (p - q) = (q - p) * (q - p) := fun p q => by rw [← Int.neg_mul_neg, Int.neg_sub]
  rw [e a x, e b y, e c z]

set_option maxHeartbeats 4000000 in
theorem tint_far (a b c x y z : Int) (ha : 0 ≤ a ∧ a ≤ 255) (hb : 0 ≤ b ∧ b ≤ 255) (hc : 0 ≤ c ∧ c ≤ 255) (hx : 0 ≤ x ∧ x ≤ 255) (hy : 0 ≤ y ∧ y ≤ 255) (hz : 0 ≤ z ∧ z ≤ 255) :
    Gives 46 #[arr3 a b c, arr3 x y z] (.int .i64 (dist a b c x y z)) := by
  intro w
  obtain ⟨p0, p1⟩ := sq_le a x ha.1 ha.2 hx.1 hx.2
  obtain ⟨q0, q1⟩ := sq_le b y hb.1 hb.2 hy.1 hy.2
  obtain ⟨r0, r1⟩ := sq_le c z hc.1 hc.2 hz.1 hz.2
  have H : Hid (dist a b c x y z = (a - x) * (a - x) + (b - y) * (b - y) + (c - z) * (c - z)) := rfl
  obtain ⟨ha0, ha1⟩ := ha; obtain ⟨hb0, hb1⟩ := hb; obtain ⟨hc0, hc1⟩ := hc
  obtain ⟨hx0, hx1⟩ := hx; obtain ⟨hy0, hy1⟩ := hy; obtain ⟨hz0, hz1⟩ := hz
  have d1 : IntKind.i64.wrap (a - x) = a - x := IntWalk.i64_in _ (by omega)
  have d2 : IntKind.i64.wrap (b - y) = b - y := IntWalk.i64_in _ (by omega)
  have d3 : IntKind.i64.wrap (c - z) = c - z := IntWalk.i64_in _ (by omega)
  go_enter Tryd.func46, Tryd.ntmps46
  go_wp2_with fail
  refine wp_loop_rounds 4 ?_
  rw [rounds_succ]
  go_wp2_with fail
  go_quiet (fail)
  go_wp2_with fail
  rw [rounds_succ]
  go_wp2_with fail
  go_quiet (fail)
  go_wp2_with fail
  rw [rounds_succ]
  go_wp2_with fail
  go_quiet (fail)
  go_wp2_with fail
  rw [rounds_succ]
  go_wp2_with fail
  go_ret
  exact ⟨ret_int (by rw [H.out]), below_drewN (by go_grown) _⟩


/-- the best of the first k colours from lo on (k at least 1) -/
def bst (D : Int → Int) (lo : Int) : Nat → Int
  | 0 => lo
  | k + 1 => if D (lo + (k : Int)) < D (bst D lo k) then lo + (k : Int) else bst D lo k

theorem bst_range (D : Int → Int) (lo : Int) (k : Nat) : lo ≤ bst D lo k ∧ bst D lo k ≤ lo + (k : Int) := by
  induction k with
  | zero => simp [bst]
  | succ k ih =>
    unfold bst
    split <;> omega

/-- none is nearer; of those that are as near none comes ahead -/
theorem bst_best (D : Int → Int) (lo : Int) (k : Nat) (i : Nat) (hi : i < k) : D (bst D lo k) < D (lo + (i : Int)) ∨ (D (bst D lo k) = D (lo + (i : Int)) ∧ bst D lo k ≤ lo + (i : Int)) := by
  induction k with
  | zero => omega
  | succ k ih =>
    unfold bst
    split
    · rename_i h
      by_cases e : i = k
      · subst e; exact Or.inr ⟨rfl, Int.le_refl _⟩
      · rcases ih (by omega) with x | ⟨x, y⟩ <;> exact Or.inl (by omega)
    · rename_i h
      by_cases e : i = k
      · subst e
        have := (bst_range D lo i).2
        rcases Int.lt_or_eq_of_le (show D (bst D lo i) ≤ D (lo + (i : Int)) by omega) with x | x
        · exact Or.inl x
        · exact Or.inr ⟨x, this⟩
      · exact ih (by omega)
end Go.Proofs.YtkllilehdpdbdaaDoor

/- The program's search for the nearest colour. -/
namespace Go.Proofs.YtkllilehdpdbdaaDoor
open Go.RowKit

def palD (r g b : Int) (n : Int) : Int := dist r g b (pr n) (pg n) (pb n)

theorem pal_range (n : Int) (h0 : 0 ≤ n) (h1 : n < 256) : (0 ≤ pr n ∧ pr n ≤ 255) ∧ (0 ≤ pg n ∧ pg n ≤ 255) ∧ (0 ≤ pb n ∧ pb n ≤ 255) := by
  have h := ch_range (n + 256)
  have e1 : chR (n + 256) = pr n := by unfold chR; rw [if_neg (by omega), if_pos (by omega), show n + 256 - 256 = n by omega]
  have e2 : chG (n + 256) = pg n := by unfold chG; rw [if_neg (by omega), if_pos (by omega), show n + 256 - 256 = n by omega]
  have e3 : chB (n + 256) = pb n := by unfold chB; rw [if_neg (by omega), if_pos (by omega), show n + 256 - 256 = n by omega]
  rw [e1, e2, e3] at h
  exact h

theorem pal_bound (r g b n : Int) (hr : 0 ≤ r ∧ r ≤ 255) (hg : 0 ≤ g ∧ g ≤ 255) (hb : 0 ≤ b ∧ b ≤ 255) (h0 : 0 ≤ n) (h1 : n < 256) : 0 ≤ palD r g b n ∧ palD r g b n ≤ 195075 := by
  obtain ⟨x, y, z⟩ := pal_range n h0 h1
  have p := sq_le r (pr n) hr.1 hr.2 x.1 x.2
  have q := sq_le g (pg n) hg.1 hg.2 y.1 y.2
  have t := sq_le b (pb n) hb.1 hb.2 z.1 z.2
  unfold palD dist
  omega

set_option maxHeartbeats 8000000 in
theorem tint_nearest (r g b : Int) (hr : 0 ≤ r ∧ r ≤ 255) (hg : 0 ≤ g ∧ g ≤ 255) (hb : 0 ≤ b ∧ b ≤ 255) (lo : Int) (m : Nat) (l0 : 0 ≤ lo) (l1 : lo + m ≤ 256) (hi : Int) (hhi : hi = lo + m) :
    Gives 38 #[arr3 r g b, .int .i64 lo, .int .i64 hi] (.int .i32 (256 + bst (palD r g b) lo m)) := by
  intro w
  have BR := fun k => bst_range (palD r g b) lo k
  have BRH := Lib.hid BR
  have PB := Lib.hid (fun n h0 h1 => pal_bound r g b n hr hg hb h0 h1)
  have HI := Lib.hid hhi
  have hi1 : hi ≤ 256 := by omega
  have lohi : lo ≤ hi := by omega
  have CP := Lib.hid (fun n h0 h1 => tint_place n h0 h1)
  have CF := Lib.hid (fun n h0 h1 => tint_far r g b (pr n) (pg n) (pb n) hr hg hb (pal_range n h0 h1).1 (pal_range n h0 h1).2.1 (pal_range n h0 h1).2.2)
  clear BR hhi
  go_enter Tryd.func38, Tryd.ntmps38
  go_wp2_with fail
  go_loopw [7, 8, 9] (fun best least n wr => ∃ (k : Nat) (B L N : Int), best = .int .i64 B ∧ least = .int .i64 L ∧ n = .int .i64 N ∧ lo ≤ N ∧ N ≤ hi ∧ Hid (k ≤ m ∧ N = lo + (k : Int) ∧ B = bst (palD r g b) lo k ∧ (k = 0 → L = 9223372036854775807) ∧ (k ≠ 0 → L = palD r g b B)) ∧ Below (w.heap.size + 1) (w.alloc (.cells #[.int .u8 r, .int .u8 g, .int .u8 b] 69)) wr) (fun _ _ n _ => (hi - intOf n).toNat)
  case atStart => exact ⟨0, lo, 9223372036854775807, lo, rfl, rfl, rfl, by omega, by omega, Lib.hid ⟨by omega, by simp, rfl, fun _ => rfl, fun h => absurd rfl h⟩, Below.refl _ _⟩
  case round =>
    obtain ⟨k, B, L, N, rfl, rfl, rfl, n0, n1, hk, hbw⟩ := hrel
    by_cases c : N < hi
    · have hN : 0 ≤ N ∧ N < 256 := ⟨by omega, by omega⟩
      have cP := Lib.hid (CP.out N hN.1 hN.2)
      have cF := Lib.hid (CF.out N hN.1 hN.2)
      have pbd := PB.out N hN.1 hN.2
      have c0 : wr.cell? ⟨w.heap.size, 0, none⟩ = some (.int .u8 r) := by rw [hbw.cell (p := ⟨w.heap.size, 0, none⟩) (by simp)]; simp
      have c1 : wr.cell? ⟨w.heap.size, 1, none⟩ = some (.int .u8 g) := by rw [hbw.cell (p := ⟨w.heap.size, 1, none⟩) (by simp)]; simp
      have c2 : wr.cell? ⟨w.heap.size, 2, none⟩ = some (.int .u8 b) := by rw [hbw.cell (p := ⟨w.heap.size, 2, none⟩) (by simp)]; simp
      have q0 := fun d os => cell_regrown c0 d os
      have q1 := fun d os => cell_regrown c1 d os
      have q2 := fun d os => cell_regrown c2 d os
      clear c0 c1 c2
      obtain ⟨Dn, hD⟩ : ∃ Dn, Dn = palD r g b N := ⟨_, rfl⟩
      have cF : Hid (Gives 46 #[arr3 r g b, arr3 (pr N) (pg N) (pb N)] (.int .i64 Dn)) := by rw [hD]; exact cF
      rw [← hD] at pbd
      have HD := Lib.hid hD
      obtain ⟨d0, d1⟩ := pbd
      clear hD
      go_wp2_with fail
      refine wp_region_quiet_below (by kernel_rfl) (by kernel_rfl) ?_
      repeat (quiet_step (first | exact (cP.out _).regrown_of | exact (cF.out _).regrown_of))
      refine wpQuiet_nil ?_
      intro _ hw'
      obtain ⟨⟨dq, osq⟩, hw''⟩ := hw'
      subst hw''
      have hb3 := hbw.trans ((below_regrown wr dq osq).mono (by simpa using hbw.size))
      clear q0 q1 q2
      have bs : bst (palD r g b) lo (k + 1) = if palD r g b (lo + (k : Int)) < palD r g b (bst (palD r g b) lo k) then lo + (k : Int) else bst (palD r g b) lo k := rfl
      by_cases lt : Dn < L
      · have HN : Hid (k + 1 ≤ m ∧ N + 1 = lo + ((k + 1 : Nat) : Int) ∧ N = bst (palD r g b) lo (k + 1) ∧ (k + 1 = 0 → Dn = 9223372036854775807) ∧ (k + 1 ≠ 0 → Dn = palD r g b N)) := by
          obtain ⟨h1, h2, h3, h4, h5⟩ := hk.out
          refine Lib.hid ⟨by have := HI.out; omega, by omega, ?_, fun h => by omega, fun _ => HD.out⟩
          rw [bs, ← h2, ← h3]
          by_cases k0 : k = 0
          · subst k0
            have : B = N := by rw [h3, h2]; simp [bst]
            rw [this]; simp
          · rw [← h5 k0, ← HD.out, if_pos lt]
        clear bs hk
        go_wp2_with fail
        go_roundw
        case rel => exact ⟨k + 1, N, Dn, N + 1, rfl, rfl, rfl, by omega, by omega, HN, hb3⟩
        case measure => simp [intOf]; omega
      · have HN : Hid (k + 1 ≤ m ∧ N + 1 = lo + ((k + 1 : Nat) : Int) ∧ B = bst (palD r g b) lo (k + 1) ∧ (k + 1 = 0 → L = 9223372036854775807) ∧ (k + 1 ≠ 0 → L = palD r g b B)) := by
          obtain ⟨h1, h2, h3, h4, h5⟩ := hk.out
          have k0 : k ≠ 0 := fun h => by have := h4 h; omega
          refine Lib.hid ⟨by have := HI.out; omega, by omega, ?_, fun h => by omega, fun _ => h5 k0⟩
          rw [bs, ← h2, ← h3, ← h5 k0, ← HD.out, if_neg lt]
        clear bs hk
        go_wp2_with fail
        go_roundw
        case rel => exact ⟨k + 1, B, L, N + 1, rfl, rfl, rfl, by omega, by omega, HN, hb3⟩
        case measure => simp [intOf]; omega
    · have e : B = bst (palD r g b) lo m := by
        obtain ⟨h1, h2, h3, _, _⟩ := hk.out
        have : k = m := by have := HI.out; omega
        rw [h3, this]
      have be := BRH.out m
      rw [← e] at be
      have be1 : B ≤ 512 := by have := HI.out; omega
      have be0 : 0 ≤ B := by omega
      have HE := Lib.hid e
      have hb4 : Below w.heap.size w wr := ((Below.refl _ _).alloc (Nat.le_refl _) _).trans (hbw.mono (by omega))
      clear hk e be
      go_wp2_with fail
      go_ret
      exact ⟨ret_int (by rw [HE.out]), hb4⟩
end Go.Proofs.YtkllilehdpdbdaaDoor

/- The reference's search for the nearest colour. -/
namespace Go.Proofs.YtkllilehdpdbdaaDoor
open Go.RowKit

end Go.Proofs.YtkllilehdpdbdaaDoor
