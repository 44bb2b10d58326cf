/- The reference's search for the nearest colour. -/
import Derived.Test.YtpbpkdhdjdaiiaaDoorNearT
namespace Go.Proofs.YtpbpkdhdjdaiiaaDoor
open Go.RowKit

set_option maxHeartbeats 8000000 in
theorem ref_nearest (r g b : Int) (hr : 0 ≤ r ∧ r ≤ 255) (hg : 0 ≤ g ∧ g ≤ 255) (hb : 0 ≤ b ∧ b ≤ 255) (lo : Int) (m : Nat) (l0 : 0 ≤ lo) (l1 : lo + m ≤ 256) (m1 : 1 ≤ m) (hi : Int) (hhi : hi = lo + m - 1) :
    Gives 59 #[tri r g b, .int .i64 lo, .int .i64 hi] (.int .i32 (256 + bst (palD r g b) lo m)) := by
  intro w
  have BR := fun k => bst_range (palD r g b) lo k
  have BRH := Lib.hid BR
  have PB := Lib.hid (fun n h0 h1 => pal_bound r g b n hr hg hb h0 h1)
  have HI := Lib.hid hhi
  have hi1 : hi ≤ 255 := by omega
  have lohi : lo ≤ hi := by omega
  have CP := Lib.hid (fun n h0 h1 => ref_Channels n h0 h1)
  have CF : Hid (∀ n, 0 ≤ n → n < 256 → Gives 77 #[tri (pr n) (pg n) (pb n), tri r g b] (.int .i64 (palD r g b n))) := Lib.hid (fun n h0 h1 => by
    have e : palD r g b n = dist (pr n) (pg n) (pb n) r g b := dist_comm _ _ _ _ _ _
    rw [e]
    exact ref_Distance (pr n) (pg n) (pb n) r g b (pal_range n h0 h1).1 (pal_range n h0 h1).2.1 (pal_range n h0 h1).2.2 hr hg hb)
  clear BR hhi
  go_enter Tryd.func59, Tryd.ntmps59
  go_wp2_with fail
  go_loopw [7, 8] (fun best n wr => ∃ (k : Nat) (B N : Int), best = .int .i64 B ∧ n = .int .i64 N ∧ lo ≤ N ∧ N ≤ hi + 1 ∧ lo ≤ B ∧ B ≤ 255 ∧ Hid (k ≤ m ∧ N = lo + (k : Int) ∧ B = bst (palD r g b) lo k) ∧ Below (w.heap.size + 1) (w.alloc (.cells #[.int .i64 r, .int .i64 g, .int .i64 b] 24)) wr) (fun _ n _ => (hi + 1 - intOf n).toNat)
  case atStart => exact ⟨0, lo, lo, rfl, rfl, by omega, by omega, by omega, by omega, Lib.hid ⟨by omega, by simp, rfl⟩, Below.refl _ _⟩
  case round =>
    obtain ⟨k, B, N, rfl, rfl, n0, n1, b0, b1, hk, hbw⟩ := hrel
    by_cases c : N ≤ hi
    · have hN : 0 ≤ N ∧ N < 256 := ⟨by omega, by omega⟩
      have hB : 0 ≤ B ∧ B < 256 := ⟨by omega, by omega⟩
      have cP := Lib.hid (CP.out N hN.1 hN.2)
      have cP2 := Lib.hid (CP.out B hB.1 hB.2)
      have cF := Lib.hid (CF.out N hN.1 hN.2)
      have cF2 := Lib.hid (CF.out B hB.1 hB.2)
      have c0 : wr.cell? ⟨w.heap.size, 0, none⟩ = some (.int .i64 r) := by rw [hbw.cell (p := ⟨w.heap.size, 0, none⟩) (by simp)]; simp
      have c1 : wr.cell? ⟨w.heap.size, 1, none⟩ = some (.int .i64 g) := by rw [hbw.cell (p := ⟨w.heap.size, 1, none⟩) (by simp)]; simp
      have c2 : wr.cell? ⟨w.heap.size, 2, none⟩ = some (.int .i64 b) := by rw [hbw.cell (p := ⟨w.heap.size, 2, none⟩) (by simp)]; simp
      have q0 := fun d os => cell_regrown c0 d os
      have q1 := fun d os => cell_regrown c1 d os
      have q2 := fun d os => cell_regrown c2 d os
      clear c0 c1 c2
      obtain ⟨Dn, hD⟩ : ∃ Dn, Dn = palD r g b N := ⟨_, rfl⟩
      obtain ⟨Db, hE⟩ : ∃ Db, Db = palD r g b B := ⟨_, rfl⟩
      rw [← hD] at cF
      rw [← hE] at cF2
      have HD := Lib.hid hD
      have HE := Lib.hid hE
      clear hD hE
      have bs : bst (palD r g b) lo (k + 1) = if palD r g b (lo + (k : Int)) < palD r g b (bst (palD r g b) lo k) then lo + (k : Int) else bst (palD r g b) lo k := rfl
      have HBS := Lib.hid bs
      clear bs
      by_cases lt : Dn < Db
      · have HN : Hid (k + 1 ≤ m ∧ N + 1 = lo + ((k + 1 : Nat) : Int) ∧ N = bst (palD r g b) lo (k + 1)) := by
          obtain ⟨h1, h2, h3⟩ := hk.out
          refine Lib.hid ⟨by have := HI.out; omega, by omega, ?_⟩
          rw [HBS.out, ← h2, ← h3, ← HD.out, ← HE.out, if_pos lt]
        clear hk
        go_wp2_with fail
        refine wp_region_quiet_below (by kernel_rfl) (by kernel_rfl) ?_
        repeat (quiet_step (first | (go_at_call 46; first | (with_reducible exact (cP.out _).regrown_of) | (with_reducible exact (cP2.out _).regrown_of)) | (go_at_call 77; first | (with_reducible exact (cF.out _).regrown_of) | (with_reducible exact (cF2.out _).regrown_of))))
        refine wpQuiet_nil ?_
        intro _ hw'
        obtain ⟨⟨dq, osq⟩, hw''⟩ := hw'
        subst hw''
        have hb3 := hbw.trans ((below_regrown wr dq osq).mono (by simpa using hbw.size))
        clear q0 q1 q2
        go_wp2_with fail
        go_roundw
        case rel => exact ⟨k + 1, N, N + 1, rfl, rfl, by omega, by omega, by omega, by omega, HN, hb3⟩
        case measure => simp [intOf]; omega
      · have HN : Hid (k + 1 ≤ m ∧ N + 1 = lo + ((k + 1 : Nat) : Int) ∧ B = bst (palD r g b) lo (k + 1)) := by
          obtain ⟨h1, h2, h3⟩ := hk.out
          refine Lib.hid ⟨by have := HI.out; omega, by omega, ?_⟩
          rw [HBS.out, ← h2, ← h3, ← HD.out, ← HE.out, if_neg lt]
        clear hk
        go_wp2_with fail
        refine wp_region_quiet_below (by kernel_rfl) (by kernel_rfl) ?_
        repeat (quiet_step (first | (go_at_call 46; first | (with_reducible exact (cP.out _).regrown_of) | (with_reducible exact (cP2.out _).regrown_of)) | (go_at_call 77; first | (with_reducible exact (cF.out _).regrown_of) | (with_reducible exact (cF2.out _).regrown_of))))
        refine wpQuiet_nil ?_
        intro _ hw'
        obtain ⟨⟨dq, osq⟩, hw''⟩ := hw'
        subst hw''
        have hb3 := hbw.trans ((below_regrown wr dq osq).mono (by simpa using hbw.size))
        clear q0 q1 q2
        go_wp2_with fail
        go_roundw
        case rel => exact ⟨k + 1, B, N + 1, rfl, rfl, by omega, by omega, by omega, by omega, HN, hb3⟩
        case measure => simp [intOf]; omega
    · have e : B = bst (palD r g b) lo m := by
        obtain ⟨h1, h2, h3⟩ := hk.out
        have : k = m := by have := HI.out; omega
        rw [h3, this]
      have HE := Lib.hid e
      have hb4 : Below w.heap.size w wr := ((Below.refl _ _).alloc (Nat.le_refl _) _).trans (hbw.mono (by omega))
      clear hk e
      go_wp2_with fail
      go_ret
      exact ⟨ret_int (by rw [HE.out]), hb4⟩
end Go.Proofs.YtpbpkdhdjdaiiaaDoor
