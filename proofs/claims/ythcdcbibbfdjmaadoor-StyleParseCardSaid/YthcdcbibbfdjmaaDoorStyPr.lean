/- The reference's named: the bit of an attribute's name. -/
import Derived.Test.YthcdcbibbfdjmaaDoorStyTr
import Derived.Test.YthcdcbibbfdjmaaDoorStyK
namespace Go.Proofs.YthcdcbibbfdjmaaDoor
open Go.RowKit Go.Sort
set_option linter.unusedVariables false

set_option maxHeartbeats 4000000 in
set_option maxRecDepth 100000 in
theorem ref_named (s : ByteArray) (w : World) : Calls Tryd.prog 95 #[.string s] w fun e w' => e = .returned (.int .u8 (bI (attB s))) ∧ Below w.heap.size w w' := by
  have CC : Hid (∀ k, k < 8 → (w.alloc (.cells (strs namesL).toArray 9)).cell? ⟨w.heap.size, k, none⟩ = some (.string (atN k))) := Lib.hid (fun k hk => (new_cell w (strs namesL) _ k _ (names_at k hk)).1)
  have BB : Hid (Below w.heap.size w (w.alloc (.cells (strs namesL).toArray 9))) := Lib.hid ((Below.refl _ _).alloc (Nat.le_refl _) _)
  go_enter Tryd.func95, Tryd.ntmps95
  go_wp2_with fail
  refine (ref_names _).mono ?_; rintro e w1 ⟨rfl, hw1⟩
  rw [← hw1] at CC BB
  clear hw1
  go_wp2_with fail
  go_loop [4] (fun i => ∃ k : Nat, k ≤ 8 ∧ i = .int .i64 k ∧ Hid (∀ m, m < k → s ≠ atN m)) (fun i => 8 - (intOf i).toNat)
  case atStart => exact ⟨0, by omega, rfl, Lib.hid (fun m hm => by omega)⟩
  case round =>
    obtain ⟨k, hk, rfl, ha⟩ := hrel
    by_cases lt : k < 8
    · have ix := CC.out k lt
      by_cases q : s = atN k
      · have b1 : ((atN k).toList == s.toList) = true := by rw [seq_bytes]; exact decide_eq_true q.symm
        have R : Hid (attB s = bitN k) := Lib.hid (attB_some s k lt q ha.out)
        have sh : IntKind.u8.wrap ((2 : Int) ^ k) = bI (bitN k) := by
          have hh : ∀ i : Fin 8, IntKind.u8.wrap ((2 : Int) ^ i.val) = bI (bitN i.val) := by decide
          exact hh ⟨k, lt⟩
        clear q ha
        generalize atN k = nk at *
        go_wp2_with fail
        go_ret
        exact ⟨ret_int (by rw [R.out]), BB.out⟩
      · have b1 : ((atN k).toList == s.toList) = false := by rw [seq_bytes]; exact decide_eq_false (fun e => q e.symm)
        have HA : Hid (∀ m, m < k + 1 → s ≠ atN m) := Lib.hid fun m hm => by
          by_cases x : m = k
          · rw [x]; exact q
          · exact ha.out m (by omega)
        clear q ha
        generalize atN k = nk at *
        go_wp2_with fail
        go_round
        case rel => exact ⟨k + 1, by omega, by go_num, HA⟩
        case measure => simp [intOf]; omega
    · have e8 : k = 8 := by omega
      subst e8
      have R : Hid (attB s = 0) := Lib.hid (attB_none s ha.out)
      go_wp2_with fail
      go_ret
      exact ⟨ret_int (by rw [R.out]; rfl), BB.out⟩
end Go.Proofs.YthcdcbibbfdjmaaDoor
