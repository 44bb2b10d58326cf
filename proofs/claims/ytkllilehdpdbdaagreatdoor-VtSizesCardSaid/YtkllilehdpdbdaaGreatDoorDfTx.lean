/- Decoding, the program's side: the walks. -/
import Derived.Test.YtkllilehdpdbdaaGreatDoorDfUc
import Derived.Test.YtkllilehdpdbdaaGreatDoorGen
import Derived.Test.YtkllilehdpdbdaaGreatDoorMem
import Derived.Deep.DeepCutAuto
import Derived.Laws.BytesString
import Derived.Lib.BufferRead
namespace Go.Proofs.YtkllilehdpdbdaaGreatDoor
open Go.RowKit Go.Sort
set_option linter.unusedVariables false

set_option maxHeartbeats 4000000 in
set_option maxRecDepth 100000 in
theorem d_at (t : ByteArray) (b i : Nat) (hi : i < t.size) (w : World) (hc : w.cell? ⟨b, 0, none⟩ = some (.string t)) :
    Calls Tryz.prog 108 #[.int .i64 (i : Int), .pointer (some ⟨b, 0, none⟩)] w fun e w' => e = .returned (.int .u8 (byt t i)) ∧ w' = w := by
  have ix : ∀ W, (Instr.index 9 (.string t) (.int .i64 (i : Int))).run Tryz.prog W = .ok (.int .u8 (byt t i : Int)) W := fun W => by
    rw [run_index_string _ _ _ _ _ Tryz.underlying9, dif_pos (by omega)]
    unfold byt
    rw [get_at t i hi]
    rfl
  generalize byt t i = y at *
  go_enter Tryz.func108, Tryz.ntmps108
  go_wp2_with fail
  go_ret
  exact ⟨rfl, rfl⟩

set_option maxHeartbeats 4000000 in
set_option maxRecDepth 100000 in
theorem d_lead (b : Nat) (hb : b < 256) (w : World) :
    Calls Tryz.prog 101 #[.int .u8 (b : Int)] w fun e w' => e = .returned (.tuple #[.int .i64 ((leadN b).1 : Int), .int .u8 ((leadN b).2.1 : Int), .int .u8 ((leadN b).2.2 : Int)]) ∧ w' = w := by
  have H : b < 128 ∨ (128 ≤ b ∧ b < 194) ∨ (194 ≤ b ∧ b < 224) ∨ b = 224 ∨ b = 237 ∨ (225 ≤ b ∧ b < 240 ∧ b ≠ 237) ∨ b = 240 ∨ (241 ≤ b ∧ b < 244) ∨ b = 244 ∨ 245 ≤ b := by omega
  rcases H with h | ⟨h1, h2⟩ | ⟨h1, h2⟩ | h | h | ⟨h1, h2, h3⟩ | h | ⟨h1, h2⟩ | h | h
  · have L : leadN b = (1, 0, 0) := by unfold leadN; rw [if_pos h]
    rw [L]
    go_enter Tryz.func101, Tryz.ntmps101
    go_wp2_with fail
    exact bodyPost_ret (v := .tuple #[.int .i64 1, .int .u8 0, .int .u8 0]) (by simp [results, Tryz.results101, go_sem]) rfl ⟨rfl, rfl⟩
  · have L : leadN b = (0, 0, 0) := by unfold leadN; rw [if_neg (by omega), if_pos h2]
    rw [L]
    go_enter Tryz.func101, Tryz.ntmps101
    go_wp2_with fail
    exact bodyPost_ret (v := .tuple #[.int .i64 0, .int .u8 0, .int .u8 0]) (by simp [results, Tryz.results101, go_sem]) rfl ⟨rfl, rfl⟩
  · have L : leadN b = (2, 128, 191) := by unfold leadN; rw [if_neg (by omega), if_neg (by omega), if_pos h2]
    rw [L]
    have q224 : ((b : Int) == 224) = false := by simp; omega
    have q237 : ((b : Int) == 237) = false := by simp; omega
    have q240 : ((b : Int) == 240) = false := by simp; omega
    have q244 : ((b : Int) == 244) = false := by simp; omega
    go_enter Tryz.func101, Tryz.ntmps101
    go_wp2_with fail
    exact bodyPost_ret (v := .tuple #[.int .i64 2, .int .u8 128, .int .u8 191]) (by simp [results, Tryz.results101, go_sem]) rfl ⟨rfl, rfl⟩
  · have L : leadN b = (3, 160, 191) := by unfold leadN; rw [if_neg (by omega), if_neg (by omega), if_neg (by omega), if_pos h]
    rw [L]
    subst h
    go_enter Tryz.func101, Tryz.ntmps101
    go_wp2_with fail
    exact bodyPost_ret (v := .tuple #[.int .i64 3, .int .u8 160, .int .u8 191]) (by simp [results, Tryz.results101, go_sem]) rfl ⟨rfl, rfl⟩
  · have L : leadN b = (3, 128, 159) := by unfold leadN; rw [if_neg (by omega), if_neg (by omega), if_neg (by omega), if_neg (by omega), if_pos h]
    rw [L]
    subst h
    go_enter Tryz.func101, Tryz.ntmps101
    go_wp2_with fail
    exact bodyPost_ret (v := .tuple #[.int .i64 3, .int .u8 128, .int .u8 159]) (by simp [results, Tryz.results101, go_sem]) rfl ⟨rfl, rfl⟩
  · have L : leadN b = (3, 128, 191) := by unfold leadN; rw [if_neg (by omega), if_neg (by omega), if_neg (by omega), if_neg (by omega), if_neg (by omega), if_pos h2]
    rw [L]
    have q1 : ((b : Int) == 237) = false := by simp; omega
    have q2 : ((b : Int) == 224) = false := by simp; omega
    go_enter Tryz.func101, Tryz.ntmps101
    go_wp2_with fail
    exact bodyPost_ret (v := .tuple #[.int .i64 3, .int .u8 128, .int .u8 191]) (by simp [results, Tryz.results101, go_sem]) rfl ⟨rfl, rfl⟩
  · have L : leadN b = (4, 144, 191) := by unfold leadN; rw [if_neg (by omega), if_neg (by omega), if_neg (by omega), if_neg (by omega), if_neg (by omega), if_neg (by omega), if_pos h]
    rw [L]
    subst h
    go_enter Tryz.func101, Tryz.ntmps101
    go_wp2_with fail
    exact bodyPost_ret (v := .tuple #[.int .i64 4, .int .u8 144, .int .u8 191]) (by simp [results, Tryz.results101, go_sem]) rfl ⟨rfl, rfl⟩
  · have L : leadN b = (4, 128, 191) := by unfold leadN; rw [if_neg (by omega), if_neg (by omega), if_neg (by omega), if_neg (by omega), if_neg (by omega), if_neg (by omega), if_neg (by omega), if_pos h2]
    rw [L]
    have q224 : ((b : Int) == 224) = false := by simp; omega
    have q237 : ((b : Int) == 237) = false := by simp; omega
    have q240 : ((b : Int) == 240) = false := by simp; omega
    have q244 : ((b : Int) == 244) = false := by simp; omega
    go_enter Tryz.func101, Tryz.ntmps101
    go_wp2_with fail
    exact bodyPost_ret (v := .tuple #[.int .i64 4, .int .u8 128, .int .u8 191]) (by simp [results, Tryz.results101, go_sem]) rfl ⟨rfl, rfl⟩
  · have L : leadN b = (4, 128, 143) := by unfold leadN; rw [if_neg (by omega), if_neg (by omega), if_neg (by omega), if_neg (by omega), if_neg (by omega), if_neg (by omega), if_neg (by omega), if_neg (by omega), if_pos h]
    rw [L]
    subst h
    go_enter Tryz.func101, Tryz.ntmps101
    go_wp2_with fail
    exact bodyPost_ret (v := .tuple #[.int .i64 4, .int .u8 128, .int .u8 143]) (by simp [results, Tryz.results101, go_sem]) rfl ⟨rfl, rfl⟩
  · have L : leadN b = (0, 0, 0) := by unfold leadN; rw [if_neg (by omega), if_neg (by omega), if_neg (by omega), if_neg (by omega), if_neg (by omega), if_neg (by omega), if_neg (by omega), if_neg (by omega), if_neg (by omega)]
    rw [L]
    have q224 : ((b : Int) == 224) = false := by simp; omega
    have q237 : ((b : Int) == 237) = false := by simp; omega
    have q240 : ((b : Int) == 240) = false := by simp; omega
    have q244 : ((b : Int) == 244) = false := by simp; omega
    go_enter Tryz.func101, Tryz.ntmps101
    go_wp2_with fail
    exact bodyPost_ret (v := .tuple #[.int .i64 0, .int .u8 0, .int .u8 0]) (by simp [results, Tryz.results101, go_sem]) rfl ⟨rfl, rfl⟩

theorem and_i32 (y j : Nat) (hy : y < 256) (hj : j ≤ 8) : bits .and .i32 (y : Int) ((2 : Int) ^ j - 1) = ((y % 2 ^ j : Nat) : Int) := by
  have e : (2 : Int) ^ 31 = 2147483648 := by decide
  rw [bits_mask .i32 31 (by decide) wraps_i32 j (by omega) y (by omega) (by rw [e]; omega)]
  simp
theorem and_u8 (c : Nat) (hc : c < 256) : bits .and .u8 (c : Int) 63 = ((c % 64 : Nat) : Int) := by
  rw [u8_and63 _ (by omega) (by omega)]
  simp
theorem or_i32 (r c : Nat) (hr : r < 2097152) : bits .or .i32 ((r * 64 : Nat) : Int) ((c % 64 : Nat) : Int) = ((r * 64 + c % 64 : Nat) : Int) := by
  rw [i32_or6 _ _ (by omega) (by omega) (by omega) (by omega) (by omega)]
  omega

set_option maxHeartbeats 8000000 in
set_option maxRecDepth 100000 in
theorem d_first (t : ByteArray) (ht : 0 < t.size) (hs : t.size ≤ 281474976710656) (b : Nat) (w : World) (hc : w.cell? ⟨b, 0, none⟩ = some (.string t)) :
    Calls Tryz.prog 75 #[.func (.func 108) #[] #[.pointer (some ⟨b, 0, none⟩)], .int .i64 (t.size : Int)] w fun e w' => (∃ u : Bool, e = .returned (.tuple #[.int .i32 ((decB t).1 : Int), .int .i64 ((decB t).2 : Int), .bool u])) ∧ w' = w := by
  have DB : Hid (decB t = if (leadN (byt t 0)).1 = 0 then (65533, 1) else if (leadN (byt t 0)).1 = 1 then (byt t 0, 1)
    else goN t (leadN (byt t 0)).1 ((leadN (byt t 0)).1 - 1) (leadN (byt t 0)).2.1 (leadN (byt t 0)).2.2 (byt t 0 % 2 ^ (7 - (leadN (byt t 0)).1)) 1) := Lib.hid rfl
  have AT := Lib.hid (fun i hi => d_at t b i hi w hc)
  have HS := Lib.hid hs
  have A0 := Lib.hid (AT.out 0 ht)
  have b0 := byt_lt t 0
  have LD := Lib.hid (d_lead (byt t 0) b0 w)
  have l4 := lead_le (byt t 0)
  generalize decB t = D at *
  have m31 : bits .and .i32 (byt t 0 : Int) 31 = ((byt t 0 % 32 : Nat) : Int) := and_i32 _ 5 b0 (by decide)
  have m15 : bits .and .i32 (byt t 0 : Int) 15 = ((byt t 0 % 16 : Nat) : Int) := and_i32 _ 4 b0 (by decide)
  have m7 : bits .and .i32 (byt t 0 : Int) 7 = ((byt t 0 % 8 : Nat) : Int) := and_i32 _ 3 b0 (by decide)
  generalize byt t 0 = y0 at *
  generalize leadN y0 = L at *
  obtain ⟨n, lo, hi⟩ := L
  obtain ⟨sz, hsz⟩ : ∃ sz, sz = t.size := ⟨_, rfl⟩
  have HZ := Lib.hid hsz
  rw [← hsz] at ht hs AT ⊢
  clear hsz hs hc
  simp only at l4 DB LD
  go_enter Tryz.func75, Tryz.ntmps75
  go_wp2_with fail
  refine A0.out.mono ?_; rintro e w' ⟨rfl, rfl⟩
  go_wp2_with fail
  refine LD.out.mono ?_; rintro e w' ⟨rfl, rfl⟩
  have N : n = 0 ∨ n = 1 ∨ n = 2 ∨ n = 3 ∨ n = 4 := by omega
  rcases N with rfl | rfl | rfl | rfl | rfl
  · have R : Hid (D = (65533, 1)) := Lib.hid (by rw [DB.out, if_pos rfl])
    go_wp2_with fail
    exact bodyPost_ret (v := .tuple #[.int .i32 65533, .int .i64 1, .bool false]) (by simp [results, Tryz.results75, go_sem]) rfl ⟨⟨false, by rw [R.out]; rfl⟩, rfl⟩
  · have R : Hid (D = (y0, 1)) := Lib.hid (by rw [DB.out, if_neg (by decide), if_pos rfl])
    go_wp2_with fail
    exact bodyPost_ret (v := .tuple #[.int .i32 y0, .int .i64 1, .bool false]) (by simp [results, Tryz.results75, go_sem]) rfl ⟨⟨false, by rw [R.out]; rfl⟩, rfl⟩
  · have R : Hid (D = goN t 2 1 lo hi (y0 % 32) 1) := Lib.hid (by rw [DB.out, if_neg (by decide), if_neg (by decide)])
    go_wp2_with fail
    go_loopw [9, 10, 11, 12, 13] (fun s9 s10 s11 s12 s13 wr => ∃ i lo' hi' r : Nat, 1 ≤ i ∧ i ≤ 2 ∧ i ≤ sz ∧ s9 = .int .u8 (lo' : Int) ∧ s10 = .int .u8 (hi' : Int) ∧ s11 = .int .i32 (r : Int) ∧ s12 = .int .i64 (i : Int) ∧ wr = w' ∧ Hid (r < 2 ^ (21 - 6 * (2 - i)) ∧ goN t 2 (2 - i) lo' hi' r i = D)) (fun _ _ _ s12 _ _ => 2 - (intOf s12).toNat)
    case atStart => exact ⟨1, lo, hi, y0 % 32, by decide, by decide, by omega, rfl, rfl, by simp, rfl, rfl, Lib.hid ⟨by have := Nat.mod_lt y0 (show 0 < 32 by decide); simp; omega, by rw [R.out]⟩⟩
    case round =>
      obtain ⟨i, lo', hi', r, h1, h2, h3, rfl, rfl, rfl, rfl, rfl, hG⟩ := hrel
      by_cases lt : i < 2
      · have FU : 2 - i = (2 - (i + 1)) + 1 := by omega
        by_cases e : i = sz
        · subst e
          have R2 : Hid (D = (65533, i)) := Lib.hid (by rw [← hG.out.2, FU]; exact goN_stop _ _ _ _ _ _ _ HZ.out)
          clear FU
          go_wp2_with fail
          exact bodyPost_ret (v := .tuple #[.int .i32 65533, .int .i64 (i : Int), .bool true]) (by simp [results, Tryz.results75, go_sem]) rfl ⟨⟨true, by rw [R2.out]; rfl⟩, rfl⟩
        · have lz : i < sz := by omega
          have ne : ((i : Int) == (sz : Int)) = false := by simp; omega
          have A1 := Lib.hid (AT.out i lz)
          have cl := byt_lt t i
          have nz : ¬ i = t.size := by rw [← HZ.out]; exact e
          have BAD : Hid (byt t i < lo' ∨ hi' < byt t i → D = (65533, i)) := Lib.hid fun hb => by rw [← hG.out.2, FU]; exact goN_bad _ _ _ _ _ _ _ nz hb
          have GOOD : Hid (¬ (byt t i < lo' ∨ hi' < byt t i) → goN t 2 (2 - (i + 1)) 128 191 (r * 64 + byt t i % 64) (i + 1) = D) := Lib.hid fun hb => by rw [← hG.out.2, FU]; exact (goN_good _ _ _ _ _ _ _ nz hb).symm
          clear FU nz
          generalize byt t i = c at *
          by_cases c1 : c < lo'
          · have R2 : Hid (D = (65533, i)) := Lib.hid (BAD.out (Or.inl c1))
            go_wp2_with fail
            refine A1.out.mono ?_; rintro e' w' ⟨rfl, rfl⟩
            go_wp2_with fail
            exact bodyPost_ret (v := .tuple #[.int .i32 65533, .int .i64 (i : Int), .bool false]) (by simp [results, Tryz.results75, go_sem]) rfl ⟨⟨false, by rw [R2.out]; rfl⟩, rfl⟩
          · by_cases c2 : hi' < c
            · have R2 : Hid (D = (65533, i)) := Lib.hid (BAD.out (Or.inr c2))
              go_wp2_with fail
              refine A1.out.mono ?_; rintro e' w' ⟨rfl, rfl⟩
              go_wp2_with fail
              exact bodyPost_ret (v := .tuple #[.int .i32 65533, .int .i64 (i : Int), .bool false]) (by simp [results, Tryz.results75, go_sem]) rfl ⟨⟨false, by rw [R2.out]; rfl⟩, rfl⟩
            · have GO := Lib.hid (GOOD.out (fun h => h.elim c1 c2))
              have rb : r < 32768 := by
                have := hG.out.1
                have q : 2 - i = 1 ∨ 2 - i = 2 ∨ 2 - i = 3 := by omega
                rcases q with q | q | q <;> rw [q] at this <;> simp at this <;> omega
              have rb2 : Hid (r * 64 + c % 64 < 2 ^ (21 - 6 * (2 - (i + 1)))) := Lib.hid (by
                have := hG.out.1
                have q : 2 - i = 1 ∨ 2 - i = 2 ∨ 2 - i = 3 := by omega
                rcases q with q | q | q <;> rw [q] at this <;> (rw [show 2 - (i + 1) = 2 - i - 1 by omega, q]) <;> simp at this ⊢ <;> omega)
              have f1 := and_u8 c cl
              have f2 := or_i32 r c (by omega)
              have f3 : IntKind.i32.wrap ((r : Int) * 64) = ((r * 64 : Nat) : Int) := by rw [IntKind.wrap_i32]; omega
              clear BAD GOOD hG
              go_wp2_with fail
              refine A1.out.mono ?_; rintro e' w' ⟨rfl, rfl⟩
              go_wp2_with fail
              go_roundw
              case rel => exact ⟨i + 1, 128, 191, r * 64 + c % 64, by omega, by omega, by omega, rfl, rfl, by go_num, by go_num, trivial, Lib.hid ⟨rb2.out, GO.out⟩⟩
              case measure => simp [intOf]; omega
      · have ei : i = 2 := by omega
        subst ei
        have R2 : Hid (D = (r, 2)) := Lib.hid (by rw [← hG.out.2, Nat.sub_self]; rfl)
        go_wp2_with fail
        exact bodyPost_ret (v := .tuple #[.int .i32 (r : Int), .int .i64 2, .bool false]) (by simp [results, Tryz.results75, go_sem]) rfl ⟨⟨false, by rw [R2.out]; rfl⟩, rfl⟩
  · have R : Hid (D = goN t 3 2 lo hi (y0 % 16) 1) := Lib.hid (by rw [DB.out, if_neg (by decide), if_neg (by decide)])
    go_wp2_with fail
    go_loopw [9, 10, 11, 12, 13] (fun s9 s10 s11 s12 s13 wr => ∃ i lo' hi' r : Nat, 1 ≤ i ∧ i ≤ 3 ∧ i ≤ sz ∧ s9 = .int .u8 (lo' : Int) ∧ s10 = .int .u8 (hi' : Int) ∧ s11 = .int .i32 (r : Int) ∧ s12 = .int .i64 (i : Int) ∧ wr = w' ∧ Hid (r < 2 ^ (21 - 6 * (3 - i)) ∧ goN t 3 (3 - i) lo' hi' r i = D)) (fun _ _ _ s12 _ _ => 3 - (intOf s12).toNat)
    case atStart => exact ⟨1, lo, hi, y0 % 16, by decide, by decide, by omega, rfl, rfl, by simp, rfl, rfl, Lib.hid ⟨by have := Nat.mod_lt y0 (show 0 < 16 by decide); simp; omega, by rw [R.out]⟩⟩
    case round =>
      obtain ⟨i, lo', hi', r, h1, h2, h3, rfl, rfl, rfl, rfl, rfl, hG⟩ := hrel
      by_cases lt : i < 3
      · have FU : 3 - i = (3 - (i + 1)) + 1 := by omega
        by_cases e : i = sz
        · subst e
          have R2 : Hid (D = (65533, i)) := Lib.hid (by rw [← hG.out.2, FU]; exact goN_stop _ _ _ _ _ _ _ HZ.out)
          clear FU
          go_wp2_with fail
          exact bodyPost_ret (v := .tuple #[.int .i32 65533, .int .i64 (i : Int), .bool true]) (by simp [results, Tryz.results75, go_sem]) rfl ⟨⟨true, by rw [R2.out]; rfl⟩, rfl⟩
        · have lz : i < sz := by omega
          have ne : ((i : Int) == (sz : Int)) = false := by simp; omega
          have A1 := Lib.hid (AT.out i lz)
          have cl := byt_lt t i
          have nz : ¬ i = t.size := by rw [← HZ.out]; exact e
          have BAD : Hid (byt t i < lo' ∨ hi' < byt t i → D = (65533, i)) := Lib.hid fun hb => by rw [← hG.out.2, FU]; exact goN_bad _ _ _ _ _ _ _ nz hb
          have GOOD : Hid (¬ (byt t i < lo' ∨ hi' < byt t i) → goN t 3 (3 - (i + 1)) 128 191 (r * 64 + byt t i % 64) (i + 1) = D) := Lib.hid fun hb => by rw [← hG.out.2, FU]; exact (goN_good _ _ _ _ _ _ _ nz hb).symm
          clear FU nz
          generalize byt t i = c at *
          by_cases c1 : c < lo'
          · have R2 : Hid (D = (65533, i)) := Lib.hid (BAD.out (Or.inl c1))
            go_wp2_with fail
            refine A1.out.mono ?_; rintro e' w' ⟨rfl, rfl⟩
            go_wp2_with fail
            exact bodyPost_ret (v := .tuple #[.int .i32 65533, .int .i64 (i : Int), .bool false]) (by simp [results, Tryz.results75, go_sem]) rfl ⟨⟨false, by rw [R2.out]; rfl⟩, rfl⟩
          · by_cases c2 : hi' < c
            · have R2 : Hid (D = (65533, i)) := Lib.hid (BAD.out (Or.inr c2))
              go_wp2_with fail
              refine A1.out.mono ?_; rintro e' w' ⟨rfl, rfl⟩
              go_wp2_with fail
              exact bodyPost_ret (v := .tuple #[.int .i32 65533, .int .i64 (i : Int), .bool false]) (by simp [results, Tryz.results75, go_sem]) rfl ⟨⟨false, by rw [R2.out]; rfl⟩, rfl⟩
            · have GO := Lib.hid (GOOD.out (fun h => h.elim c1 c2))
              have rb : r < 32768 := by
                have := hG.out.1
                have q : 3 - i = 1 ∨ 3 - i = 2 ∨ 3 - i = 3 := by omega
                rcases q with q | q | q <;> rw [q] at this <;> simp at this <;> omega
              have rb2 : Hid (r * 64 + c % 64 < 2 ^ (21 - 6 * (3 - (i + 1)))) := Lib.hid (by
                have := hG.out.1
                have q : 3 - i = 1 ∨ 3 - i = 2 ∨ 3 - i = 3 := by omega
                rcases q with q | q | q <;> rw [q] at this <;> (rw [show 3 - (i + 1) = 3 - i - 1 by omega, q]) <;> simp at this ⊢ <;> omega)
              have f1 := and_u8 c cl
              have f2 := or_i32 r c (by omega)
              have f3 : IntKind.i32.wrap ((r : Int) * 64) = ((r * 64 : Nat) : Int) := by rw [IntKind.wrap_i32]; omega
              clear BAD GOOD hG
              go_wp2_with fail
              refine A1.out.mono ?_; rintro e' w' ⟨rfl, rfl⟩
              go_wp2_with fail
              go_roundw
              case rel => exact ⟨i + 1, 128, 191, r * 64 + c % 64, by omega, by omega, by omega, rfl, rfl, by go_num, by go_num, trivial, Lib.hid ⟨rb2.out, GO.out⟩⟩
              case measure => simp [intOf]; omega
      · have ei : i = 3 := by omega
        subst ei
        have R2 : Hid (D = (r, 3)) := Lib.hid (by rw [← hG.out.2, Nat.sub_self]; rfl)
        go_wp2_with fail
        exact bodyPost_ret (v := .tuple #[.int .i32 (r : Int), .int .i64 3, .bool false]) (by simp [results, Tryz.results75, go_sem]) rfl ⟨⟨false, by rw [R2.out]; rfl⟩, rfl⟩
  · have R : Hid (D = goN t 4 3 lo hi (y0 % 8) 1) := Lib.hid (by rw [DB.out, if_neg (by decide), if_neg (by decide)])
    go_wp2_with fail
    go_loopw [9, 10, 11, 12, 13] (fun s9 s10 s11 s12 s13 wr => ∃ i lo' hi' r : Nat, 1 ≤ i ∧ i ≤ 4 ∧ i ≤ sz ∧ s9 = .int .u8 (lo' : Int) ∧ s10 = .int .u8 (hi' : Int) ∧ s11 = .int .i32 (r : Int) ∧ s12 = .int .i64 (i : Int) ∧ wr = w' ∧ Hid (r < 2 ^ (21 - 6 * (4 - i)) ∧ goN t 4 (4 - i) lo' hi' r i = D)) (fun _ _ _ s12 _ _ => 4 - (intOf s12).toNat)
    case atStart => exact ⟨1, lo, hi, y0 % 8, by decide, by decide, by omega, rfl, rfl, by simp, rfl, rfl, Lib.hid ⟨by have := Nat.mod_lt y0 (show 0 < 8 by decide); simp; omega, by rw [R.out]⟩⟩
    case round =>
      obtain ⟨i, lo', hi', r, h1, h2, h3, rfl, rfl, rfl, rfl, rfl, hG⟩ := hrel
      by_cases lt : i < 4
      · have FU : 4 - i = (4 - (i + 1)) + 1 := by omega
        by_cases e : i = sz
        · subst e
          have R2 : Hid (D = (65533, i)) := Lib.hid (by rw [← hG.out.2, FU]; exact goN_stop _ _ _ _ _ _ _ HZ.out)
          clear FU
          go_wp2_with fail
          exact bodyPost_ret (v := .tuple #[.int .i32 65533, .int .i64 (i : Int), .bool true]) (by simp [results, Tryz.results75, go_sem]) rfl ⟨⟨true, by rw [R2.out]; rfl⟩, rfl⟩
        · have lz : i < sz := by omega
          have ne : ((i : Int) == (sz : Int)) = false := by simp; omega
          have A1 := Lib.hid (AT.out i lz)
          have cl := byt_lt t i
          have nz : ¬ i = t.size := by rw [← HZ.out]; exact e
          have BAD : Hid (byt t i < lo' ∨ hi' < byt t i → D = (65533, i)) := Lib.hid fun hb => by rw [← hG.out.2, FU]; exact goN_bad _ _ _ _ _ _ _ nz hb
          have GOOD : Hid (¬ (byt t i < lo' ∨ hi' < byt t i) → goN t 4 (4 - (i + 1)) 128 191 (r * 64 + byt t i % 64) (i + 1) = D) := Lib.hid fun hb => by rw [← hG.out.2, FU]; exact (goN_good _ _ _ _ _ _ _ nz hb).symm
          clear FU nz
          generalize byt t i = c at *
          by_cases c1 : c < lo'
          · have R2 : Hid (D = (65533, i)) := Lib.hid (BAD.out (Or.inl c1))
            go_wp2_with fail
            refine A1.out.mono ?_; rintro e' w' ⟨rfl, rfl⟩
            go_wp2_with fail
            exact bodyPost_ret (v := .tuple #[.int .i32 65533, .int .i64 (i : Int), .bool false]) (by simp [results, Tryz.results75, go_sem]) rfl ⟨⟨false, by rw [R2.out]; rfl⟩, rfl⟩
          · by_cases c2 : hi' < c
            · have R2 : Hid (D = (65533, i)) := Lib.hid (BAD.out (Or.inr c2))
              go_wp2_with fail
              refine A1.out.mono ?_; rintro e' w' ⟨rfl, rfl⟩
              go_wp2_with fail
              exact bodyPost_ret (v := .tuple #[.int .i32 65533, .int .i64 (i : Int), .bool false]) (by simp [results, Tryz.results75, go_sem]) rfl ⟨⟨false, by rw [R2.out]; rfl⟩, rfl⟩
            · have GO := Lib.hid (GOOD.out (fun h => h.elim c1 c2))
              have rb : r < 32768 := by
                have := hG.out.1
                have q : 4 - i = 1 ∨ 4 - i = 2 ∨ 4 - i = 3 := by omega
                rcases q with q | q | q <;> rw [q] at this <;> simp at this <;> omega
              have rb2 : Hid (r * 64 + c % 64 < 2 ^ (21 - 6 * (4 - (i + 1)))) := Lib.hid (by
                have := hG.out.1
                have q : 4 - i = 1 ∨ 4 - i = 2 ∨ 4 - i = 3 := by omega
                rcases q with q | q | q <;> rw [q] at this <;> (rw [show 4 - (i + 1) = 4 - i - 1 by omega, q]) <;> simp at this ⊢ <;> omega)
              have f1 := and_u8 c cl
              have f2 := or_i32 r c (by omega)
              have f3 : IntKind.i32.wrap ((r : Int) * 64) = ((r * 64 : Nat) : Int) := by rw [IntKind.wrap_i32]; omega
              clear BAD GOOD hG
              go_wp2_with fail
              refine A1.out.mono ?_; rintro e' w' ⟨rfl, rfl⟩
              go_wp2_with fail
              go_roundw
              case rel => exact ⟨i + 1, 128, 191, r * 64 + c % 64, by omega, by omega, by omega, rfl, rfl, by go_num, by go_num, trivial, Lib.hid ⟨rb2.out, GO.out⟩⟩
              case measure => simp [intOf]; omega
      · have ei : i = 4 := by omega
        subst ei
        have R2 : Hid (D = (r, 4)) := Lib.hid (by rw [← hG.out.2, Nat.sub_self]; rfl)
        go_wp2_with fail
        exact bodyPost_ret (v := .tuple #[.int .i32 (r : Int), .int .i64 4, .bool false]) (by simp [results, Tryz.results75, go_sem]) rfl ⟨⟨false, by rw [R2.out]; rfl⟩, rfl⟩

set_option maxHeartbeats 4000000 in
set_option maxRecDepth 100000 in
theorem d_Decode (t : ByteArray) (ht : 0 < t.size) (hs : t.size ≤ 281474976710656) (w : World) :
    Calls Tryz.prog 80 #[.string t] w fun e w' => e = .returned (.tuple #[.int .i32 ((decB t).1 : Int), .int .i64 ((decB t).2 : Int)]) ∧ Below w.heap.size w w' := by
  have hmf : ∀ (fn : Fn) (first cap : Array Value) (w : World), (Instr.makeFunc fn first cap).run Tryz.prog w = .ok (.func fn first cap) w := fun _ _ _ _ => rfl
  have b1 : (t.toList == []) = false := by
    rw [eq_list]
    refine decide_eq_false fun e => ?_
    rw [e] at ht
    exact absurd ht (by decide)
  have FI := Lib.hid (d_first t ht hs w.heap.size (w.alloc (.cells #[.string t] 9)) (by simp [go_sem]))
  generalize decB t = D at *
  go_enter Tryz.func80, Tryz.ntmps80
  go_wp2_with fail
  refine FI.out.mono ?_; rintro e w' ⟨⟨u, rfl⟩, rfl⟩
  go_wp2_with fail
  exact bodyPost_ret (v := .tuple #[.int .i32 (D.1 : Int), .int .i64 (D.2 : Int)]) (by simp [results, Tryz.results80, go_sem]) rfl ⟨rfl, by go_grown⟩
end Go.Proofs.YtkllilehdpdbdaaGreatDoor

/- All characters of a text, the program's side. -/
namespace Go.Proofs.YtkllilehdpdbdaaGreatDoor
open Go.RowKit Go.Sort
set_option linter.unusedVariables false

def rns (l : List Int) : List Value := l.map (Value.int .i32)
theorem rns_app (a b : List Int) : rns (a ++ b) = rns a ++ rns b := by simp [rns]
theorem rns_one (l : List Int) : ∀ u ∈ rns l, u.oneCell' = true := fun u hu => by
  obtain ⟨y, _, rfl⟩ := List.mem_map.1 hu
  rfl
theorem infoR : (Tryz.prog.info? 21).map (fun i => (i.zero, i.size, i.bytes)) = some (some (.int .i32 0), 1, 4) := by kernel_rfl
theorem cells_new (w : World) (xs : List Value) (T : TypeId) : ∀ j u, xs[j]? = some u → (w.alloc (.cells xs.toArray T)).cell? ((⟨w.heap.size, 0, none⟩ : Addr).add j) = some u := fun j u h => by
  rw [show (⟨w.heap.size, 0, none⟩ : Addr).add j = ⟨w.heap.size, j, none⟩ by simp [Addr.add]; intro h; exact h.symm]
  exact (new_cell w xs T j u h).1
theorem ext_ext (s : ByteArray) (a d : Nat) (h : a ≤ s.size) : (s.extract a s.size).extract d (s.extract a s.size).size = s.extract (a + d) s.size := by
  have z : (s.extract a s.size).size = s.size - a := by rw [ByteArray.size_extract]; omega
  rw [z, ByteArray.extract_extract, show min (a + (s.size - a)) s.size = s.size by omega]
theorem runes_step (s : ByteArray) (k : Nat) (acc : List Int) (hk : k < s.size) (h : acc ++ runesB (s.extract k s.size) = runesB s) :
    acc ++ [((decB (s.extract k s.size)).1 : Int)] ++ runesB (s.extract (k + (decB (s.extract k s.size)).2) s.size) = runesB s := by
  have z : (s.extract k s.size).size = s.size - k := by rw [ByteArray.size_extract]; omega
  rw [runesB_cons _ (by omega), ext_ext s k _ (by omega)] at h
  rw [← h, List.append_assoc, List.singleton_append]

set_option maxHeartbeats 8000000 in
set_option maxRecDepth 100000 in
theorem d_Runes (s : ByteArray) (hs : s.size ≤ 35184372000000) (w : World) : Calls Tryz.prog 59 #[.string s] w fun e w' => ∃ v, e = .returned v ∧ w'.ownsRow w.heap.size 21 1 v (runesB s).length (rns (runesB s)) ∧ Below w.heap.size w w' := by
  obtain ⟨n, hn⟩ : ∃ n, n = s.size := ⟨_, rfl⟩
  have HN := Lib.hid hn
  have XL := Lib.hid (runesB_len _ s rfl)
  have XS := Lib.hid (runes_step s)
  have XD := Lib.hid (fun k (hk : k < s.size) => d_Decode (s.extract k s.size) (by rw [ByteArray.size_extract]; omega) (by rw [ByteArray.size_extract]; omega))
  have XB := Lib.hid (fun k (hk : k < s.size) => decB_bounds (s.extract k s.size) (by rw [ByteArray.size_extract]; omega))
  have XZ : Hid (∀ k, k < s.size → (s.extract k s.size).size = s.size - k) := Lib.hid (fun k hk => by rw [ByteArray.size_extract]; omega)
  have XE : Hid (∀ acc, acc ++ runesB (s.extract s.size s.size) = runesB s → acc = runesB s) := Lib.hid (fun acc h => by rw [runesB_nil _ (by rw [ByteArray.size_extract]; omega), List.append_nil] at h; exact h)
  rw [← hn] at hs XL XS XD XB XZ XE
  clear hn
  obtain ⟨i0, hi0, hz0, hz1, hz2⟩ := info_parts infoR
  obtain ⟨LO, hLO⟩ : ∃ LO, LO = w.heap.size := ⟨_, rfl⟩
  have HLO := Lib.hid hLO
  have STEP : Hid (∀ (wr : World) (v : Value) (ws L : List Int), wr.ownsRow LO 21 1 v ws.length (rns ws) → Below LO w wr → ∀ (v' : Value) (w3 : World), w3.ownsRow LO 21 1 v' (ws.length + L.length) (rns ws ++ rns L) → (wr.alloc (.cells (rns L).toArray 21)).grownBy w3 v.ownBlock → w3.ownsRow LO 21 1 v' (ws ++ L).length (rns (ws ++ L)) ∧ Below LO w w3) := Lib.hid (fun wr v ws L ho hb v' w3 h1 h2 =>
    ⟨by rw [List.length_append, rns_app]; exact h1, (hb.alloc (by rw [hLO]; exact hb.size) _).grown h2 (by have := hb.size; simp; omega) (fun g hg => (ho.lt g hg).1)⟩)
  have O0 : Hid (w.ownsRow LO 21 1 (.slice none 0 0) 0 (rns []) ∧ Below LO w w) := Lib.hid ⟨World.ownsRow_nil _ _ _ _, Below.refl _ _⟩
  rw [← hLO]
  clear hLO
  have hsz : (s.size : Int) = (n : Int) := by rw [HN.out]
  go_enter Tryz.func59, Tryz.ntmps59
  go_wp2_with fail
  go_loopw [3, 4, 5, 6] (fun s3 s4 s5 s6 wr => ∃ (k : Nat) (acc : List Int), k ≤ n ∧ s4 = .int .i64 k ∧ Hid (acc ++ runesB (s.extract k n) = runesB s) ∧ Hid (wr.ownsRow LO 21 1 s3 acc.length (rns acc) ∧ Below LO w wr)) (fun _ s4 _ _ _ => n - (intOf s4).toNat)
  case atStart => exact ⟨0, [], by omega, rfl, Lib.hid (by rw [HN.out]; simp), O0⟩
  case round =>
    obtain ⟨k, acc, hk, rfl, hx, ho⟩ := hrel
    by_cases lt : k < n
    · have slr : ∀ W, (Instr.slice 9 (.string s) (some (.int .i64 (k : Int))) none none).run Tryz.prog W = .ok (.string (s.extract k n)) W := fun W => by
        rw [run_slice_string_from_if _ _ _ _ _ Tryz.underlying9, if_pos (by omega)]
        rw [HN.out]
        rfl
      have NX := Lib.hid (XS.out k acc lt hx.out)
      have DD := Lib.hid (XD.out k lt)
      have bb := XB.out k lt
      have zz := XZ.out k lt
      have LL : acc.length + 1 ≤ n := by
        have h1 := congrArg List.length NX.out
        simp at h1
        have := XL.out
        omega
      clear hx
      generalize s.extract k n = x at *
      rw [zz] at bb
      obtain ⟨⟨r, d⟩, hD⟩ : ∃ D, D = decB x := ⟨_, rfl⟩
      rw [← hD] at DD bb NX
      simp only at DD bb NX
      clear hD zz
      go_wp2_with fail
      refine (DD.out _).mono ?_; rintro e w1 ⟨rfl, hb1⟩
      have HO := Lib.hid ((own_call ho.out.1 hb1).alloc (.cells (rns [(r : Int)]).toArray 21))
      have HO1 := Lib.hid (own_call ho.out.1 hb1)
      have HB := Lib.hid (ho.out.2.trans (hb1.mono (by rw [HLO.out]; exact ho.out.2.size)))
      have H2 : acc.length + 1 ≤ maxLen := by unfold maxLen; omega
      have H3 : (acc.length + 1) * 4 ≤ 140737488355328 := by omega
      have H4 : LO ≤ (w1.alloc (.cells (rns [(r : Int)]).toArray 21)).heap.size := by have := HB.out.size; rw [HLO.out]; simp; omega
      have NW := Lib.hid (cells_new w1 (rns [(r : Int)]) 21)
      have O1 := Lib.hid (rns_one [(r : Int)])
      have ST := Lib.hid (fun v' w3 a b => STEP.out w1 _ acc [(r : Int)] HO1.out HB.out v' w3 a b)
      clear ho hb1
      go_wp2_with (at_builtin; refine wpList_append_own _ rfl (.tmp 18) (.tmp 20) 98 rfl LO 21 i0 (.int .i32 0) 1 4 Tryz.underlying98 hi0 hz0 hz1 hz2 rfl (by decide) _ _ _ rfl HO.out ⟨w1.heap.size, 0, none⟩ 1 1 (rns [(r : Int)]) rfl rfl NW.out O1.out H2 H3 H4 ?_; intro v' w3 hown3 hg3 _)
      have SS := Lib.hid (ST.out v' w3 hown3 hg3)
      clear hown3 hg3
      go_wp2_with fail
      go_roundw
      case rel => exact ⟨k + d, _, by omega, by go_num, NX, SS⟩
      case measure => (simp [intOf] <;> omega)
    · have ek : k = n := by omega
      subst ek
      have FE : Hid (acc = runesB s) := Lib.hid (XE.out acc hx.out)
      rw [FE.out] at ho
      clear hx
      go_wp2_with fail
      go_ret
      exact ⟨_, rfl, ho.out.1, ho.out.2⟩
end Go.Proofs.YtkllilehdpdbdaaGreatDoor

/- The bytes of numbers, the program's side: put and Text. -/
namespace Go.Proofs.YtkllilehdpdbdaaGreatDoor
open Go.RowKit Go.Sort
set_option linter.unusedVariables false

def bts (l : List Int) : List Value := l.map (Value.int .u8)
theorem bts_app (a b : List Int) : bts (a ++ b) = bts a ++ bts b := by simp [bts]
theorem bts_one (l : List Int) : ∀ u ∈ bts l, u.oneCell' = true := fun u hu => by
  obtain ⟨y, _, rfl⟩ := List.mem_map.1 hu
  rfl
theorem infoB : (Tryz.prog.info? 5).map (fun i => (i.zero, i.size, i.bytes)) = some (some (.int .u8 0), 1, 1) := by kernel_rfl
theorem or_u8 (y k : Nat) (h : (k = 192 ∧ y < 32) ∨ (k = 224 ∧ y < 16) ∨ (k = 240 ∧ y < 8)) : bits .or .u8 (y : Int) (k : Int) = ((k + y : Nat) : Int) := by
  rw [(bits_nat .u8 8 (by decide) wraps_u8 y k (by omega) (by omega)).2, Nat.or_comm]
  congr 1
  rcases h with ⟨rfl, h⟩ | ⟨rfl, h⟩ | ⟨rfl, h⟩
  · exact (Nat.two_pow_add_eq_or_of_lt (i := 5) h 6).symm
  · exact (Nat.two_pow_add_eq_or_of_lt (i := 4) h 14).symm
  · exact (Nat.two_pow_add_eq_or_of_lt (i := 3) h 30).symm
theorem and_i63 (c : Int) (h0 : 0 ≤ c) (h1 : c < 2147483648) : bits .and .i32 c 63 = c % 64 :=
  bits_mask .i32 31 (by decide) wraps_i32 6 (by decide) c h0 (by have e : (2 : Int) ^ 31 = 2147483648 := by decide
                                                                 rw [e]; exact h1)

def PutRet (LO : Nat) (w : World) (ys : List Int) (e : Ending) (w' : World) : Prop := ∃ v', e = .returned v' ∧ w'.ownsRow LO 5 1 v' ys.length (bts ys) ∧ Below LO w w'

set_option maxHeartbeats 8000000 in
set_option maxRecDepth 100000 in
theorem d_put (LO : Nat) (v : Value) (xs : List Int) (r : Int) (hr0 : -2147483648 ≤ r) (hr1 : r < 2147483648) (w : World) (hlo : LO ≤ w.heap.size) (hm : xs.length ≤ 140737488355000) (h : w.ownsRow LO 5 1 v xs.length (bts xs)) :
    Calls Tryz.prog 85 #[v, .int .i32 r] w (PutRet LO w (xs ++ bytesI r)) := by
  obtain ⟨i0, hi0, hz0, hz1, hz2⟩ := info_parts infoB
  have O1 := Lib.hid (fun (W : World) (l : List Int) (o : Obj) (hb : Below LO w W) => show ∀ (v' : Value) (w3 : World), w3.ownsRow LO 5 1 v' (xs.length + l.length) (bts xs ++ bts l) → (W.alloc o).grownBy w3 v.ownBlock → PutRet LO w (xs ++ l) (.returned v') w3 from
    fun v' w3 a b => ⟨v', rfl, by rw [List.length_append, bts_app]; exact a, (hb.alloc (Nat.le_trans hlo hb.size) o).grown b (by have := hb.size; simp; omega) (fun g hg => (h.lt g hg).1)⟩)
  have NL := Lib.hid (fun (l : List Int) => cells_new w (bts l) 5)
  have HX := Lib.hid (fun (o : Obj) => h.alloc o)
  obtain ⟨n, hn⟩ : ∃ n, n = xs.length := ⟨_, rfl⟩
  have H2 : Hid (∀ k, k ≤ 4 → xs.length + k ≤ maxLen ∧ (xs.length + k) * 1 ≤ 140737488355328) := Lib.hid (fun k hk => by unfold maxLen; omega)
  have H4 : Hid (∀ o : Obj, LO ≤ (w.alloc o).heap.size) := Lib.hid (fun o => by simp; omega)
  have H1 := Lib.hid (fun (l : List Int) => bts_one l)
  have BI : Hid (bytesI r = if charI r < 128 then [charI r] else if charI r < 2048 then [192 + charI r / 64, 128 + charI r % 64] else if charI r < 65536 then [224 + charI r / 4096, 128 + charI r / 64 % 64, 128 + charI r % 64]
    else [240 + charI r / 262144, 128 + charI r / 4096 % 64, 128 + charI r / 64 % 64, 128 + charI r % 64]) := Lib.hid rfl
  have hcr := charI_rng r
  have CI : Hid (charI r = if 0 ≤ r ∧ r ≤ 1114111 ∧ (r < 55296 ∨ 57343 < r) then r else 65533) := Lib.hid rfl
  generalize bytesI r = B at *
  generalize charI r = c at *
  clear h hn hm hlo
  go_enter Tryz.func85, Tryz.ntmps85
  go_upto_region 1 with fail
  obtain ⟨β, hβ⟩ : ∃ β : Bool, β = !decide (0 ≤ r ∧ r ≤ 1114111 ∧ (r < 55296 ∨ 57343 < r)) := ⟨_, rfl⟩
  have HB := Lib.hid hβ
  clear hβ
  go_cut [20] from 7 to 20 (fun s20 wx => s20 = .bool β ∧ wx = w)
  case first =>
    by_cases c1 : r < 0
    · have E : Hid (β = true) := Lib.hid (by rw [HB.out, decide_eq_false (by omega)]; rfl)
      go_wp2_with fail
      go_meet
      exact ⟨by rw [E.out], rfl⟩
    · by_cases c2 : r < 55296
      · have E : Hid (β = false) := Lib.hid (by rw [HB.out, decide_eq_true (by omega)]; rfl)
        go_wp2_with fail
        go_meet
        exact ⟨by rw [E.out, decide_eq_false (by omega)], rfl⟩
      · by_cases c3 : r ≤ 57343
        · have E : Hid (β = true) := Lib.hid (by rw [HB.out, decide_eq_false (by omega)]; rfl)
          go_wp2_with fail
          go_meet
          exact ⟨by rw [E.out], rfl⟩
        · by_cases c4 : 1114111 < r
          · have E : Hid (β = true) := Lib.hid (by rw [HB.out, decide_eq_false (by omega)]; rfl)
            go_wp2_with fail
            go_meet
            exact ⟨by rw [E.out], rfl⟩
          · have E : Hid (β = false) := Lib.hid (by rw [HB.out, decide_eq_true (by omega)]; rfl)
            go_wp2_with fail
            go_meet
            exact ⟨by rw [E.out], rfl⟩
  case rest =>
   obtain ⟨rfl, rfl⟩ := hcut
   obtain ⟨W, hW⟩ : ∃ W, W = wc := ⟨_, rfl⟩
   subst hW
   go_upto_if 20 with fail
   go_cut [1] from 20 to 20 (fun s1 wx => s1 = .int .i32 c ∧ wx = W)
   case first =>
    cases hb : β with
    | true =>
      have E : Hid (c = 65533) := Lib.hid (by
        have h := HB.out
        rw [hb] at h
        rw [CI.out, if_neg (fun z => by rw [decide_eq_true z] at h; cases h)])
      clear hb HB
      go_wp2_with fail
      go_meet
      exact ⟨by rw [E.out], rfl⟩
    | false =>
      have E : Hid (c = r) := Lib.hid (by
        have h := HB.out
        rw [hb] at h
        rw [CI.out, if_pos (Decidable.byContradiction fun z => by rw [decide_eq_false z] at h; cases h)])
      clear hb HB
      go_wp2_with fail
      go_meet
      exact ⟨by rw [E.out], rfl⟩
   case rest =>
    obtain ⟨rfl, rfl⟩ := hcut
    clear HB
    obtain ⟨h0, h1⟩ := hcr
    clear CI hr0 hr1
    have a0 := and_i63 c h0 (by omega)
    have a1 := and_i63 (c / 64) (by omega) (by omega)
    have a2 := and_i63 (c / 64 / 64) (by omega) (by omega)
    have o0 := Go.u8_or128 (c % 64) (by omega) (by omega)
    have o1 := Go.u8_or128 (c / 64 % 64) (by omega) (by omega)
    have o2 := Go.u8_or128 (c / 64 / 64 % 64) (by omega) (by omega)
    have x63 : bits .xor .u8 IntKind.u8.max 63 = 192 := by decide
    have x31 : bits .xor .u8 IntKind.u8.max 31 = 224 := by decide
    have x15 : bits .xor .u8 IntKind.u8.max 15 = 240 := by decide
    have sgn : ¬ IntKind.u8.signed = true := by decide
    by_cases t1 : c < 128
    · have E : Hid (B = [c]) := Lib.hid (by rw [BI.out, if_pos t1])
      go_wp2_with (at_builtin; refine wpList_append_own _ rfl (.tmp 23) (.tmp 26) 29 rfl LO 5 i0 (.int .u8 0) 1 1 Tryz.underlying29 hi0 hz0 hz1 hz2 rfl (by decide) _ _ _ rfl (HX.out _) ⟨wc.heap.size, 0, none⟩ 1 1 (bts [c]) rfl rfl (NL.out [c]) (H1.out _) (H2.out 1 (by decide)).1 (H2.out 1 (by decide)).2 (H4.out _) ?_; intro v' w3 hown3 hg3 _)
      have R := Lib.hid (O1.out wc [c] _ (Below.refl _ _) v' w3 hown3 hg3)
      clear hown3 hg3
      go_wp2_with fail
      go_ret
      rw [E.out]
      exact R.out
    by_cases t2 : c < 2048
    · have E : Hid (B = [192 + c / 64, 128 + c % 64]) := Lib.hid (by rw [BI.out, if_neg t1, if_pos t2])
      have ql : bits .or .u8 (c / 64) 192 = 192 + c / 64 := by have := or_u8 (c / 64).toNat 192 (by omega); rw [show (((c / 64).toNat : Nat) : Int) = c / 64 by omega] at this; simpa using (this.trans (by omega))
      have NC : Hid (∀ j u, (bts [192 + c / 64, 128 + c % 64])[j]? = some u → (wc.alloc (.cells #[.int .u8 (192 + c / 64), .int .u8 (128 + c % 64), .int .u8 0, .int .u8 0] 125)).cell? ((⟨wc.heap.size, 0, none⟩ : Addr).add j) = some u) := Lib.hid (fun j u hj => cells_new wc [.int .u8 (192 + c / 64), .int .u8 (128 + c % 64), .int .u8 0, .int .u8 0] 125 j u (by
        have : j < 2 := (List.getElem?_eq_some_iff.1 hj).1
        have q : j = 0 ∨ j = 1 := by omega
        rcases q with rfl | rfl <;> exact hj))
      go_wp2_with (at_builtin; refine wpList_append_own _ rfl (.tmp 67) (.tmp 69) 29 rfl LO 5 i0 (.int .u8 0) 1 1 Tryz.underlying29 hi0 hz0 hz1 hz2 rfl (by decide) _ _ _ rfl (HX.out _) ⟨wc.heap.size, 0, none⟩ 2 4 (bts [192 + c / 64, 128 + c % 64]) rfl rfl NC.out (H1.out _) (H2.out 2 (by decide)).1 (H2.out 2 (by decide)).2 (H4.out _) ?_; intro v' w3 hown3 hg3 _)
      have R := Lib.hid (O1.out wc [192 + c / 64, 128 + c % 64] _ (Below.refl _ _) v' w3 hown3 hg3)
      clear hown3 hg3
      go_wp2_with fail
      go_ret
      rw [E.out]
      exact R.out
    by_cases t3 : c < 65536
    · have E : Hid (B = [224 + c / 64 / 64, 128 + c / 64 % 64, 128 + c % 64]) := Lib.hid (by rw [BI.out, if_neg t1, if_neg t2, if_pos t3, show c / 4096 = c / 64 / 64 by omega])
      have ql : bits .or .u8 (c / 64 / 64) 224 = 224 + c / 64 / 64 := by have := or_u8 (c / 64 / 64).toNat 224 (by omega); rw [show (((c / 64 / 64).toNat : Nat) : Int) = c / 64 / 64 by omega] at this; simpa using (this.trans (by omega))
      have NC : Hid (∀ j u, (bts [224 + c / 64 / 64, 128 + c / 64 % 64, 128 + c % 64])[j]? = some u → (wc.alloc (.cells #[.int .u8 (224 + c / 64 / 64), .int .u8 (128 + c / 64 % 64), .int .u8 (128 + c % 64), .int .u8 0] 125)).cell? ((⟨wc.heap.size, 0, none⟩ : Addr).add j) = some u) := Lib.hid (fun j u hj => cells_new wc [.int .u8 (224 + c / 64 / 64), .int .u8 (128 + c / 64 % 64), .int .u8 (128 + c % 64), .int .u8 0] 125 j u (by
        have : j < 3 := (List.getElem?_eq_some_iff.1 hj).1
        have q : j = 0 ∨ j = 1 ∨ j = 2 := by omega
        rcases q with rfl | rfl | rfl <;> exact hj))
      go_wp2_with (at_builtin; refine wpList_append_own _ rfl (.tmp 67) (.tmp 69) 29 rfl LO 5 i0 (.int .u8 0) 1 1 Tryz.underlying29 hi0 hz0 hz1 hz2 rfl (by decide) _ _ _ rfl (HX.out _) ⟨wc.heap.size, 0, none⟩ 3 4 (bts [224 + c / 64 / 64, 128 + c / 64 % 64, 128 + c % 64]) rfl rfl NC.out (H1.out _) (H2.out 3 (by decide)).1 (H2.out 3 (by decide)).2 (H4.out _) ?_; intro v' w3 hown3 hg3 _)
      have R := Lib.hid (O1.out wc [224 + c / 64 / 64, 128 + c / 64 % 64, 128 + c % 64] _ (Below.refl _ _) v' w3 hown3 hg3)
      clear hown3 hg3
      go_wp2_with fail
      go_ret
      rw [E.out]
      exact R.out
    have E : Hid (B = [240 + c / 64 / 64 / 64, 128 + c / 64 / 64 % 64, 128 + c / 64 % 64, 128 + c % 64]) := Lib.hid (by rw [BI.out, if_neg t1, if_neg t2, if_neg t3, show c / 262144 = c / 64 / 64 / 64 by omega, show c / 4096 = c / 64 / 64 by omega])
    have ql : bits .or .u8 (c / 64 / 64 / 64) 240 = 240 + c / 64 / 64 / 64 := by have := or_u8 (c / 64 / 64 / 64).toNat 240 (by omega); rw [show (((c / 64 / 64 / 64).toNat : Nat) : Int) = c / 64 / 64 / 64 by omega] at this; simpa using (this.trans (by omega))
    have NC : Hid (∀ j u, (bts [240 + c / 64 / 64 / 64, 128 + c / 64 / 64 % 64, 128 + c / 64 % 64, 128 + c % 64])[j]? = some u → (wc.alloc (.cells #[.int .u8 (240 + c / 64 / 64 / 64), .int .u8 (128 + c / 64 / 64 % 64), .int .u8 (128 + c / 64 % 64), .int .u8 (128 + c % 64)] 125)).cell? ((⟨wc.heap.size, 0, none⟩ : Addr).add j) = some u) := Lib.hid (fun j u hj => cells_new wc [.int .u8 (240 + c / 64 / 64 / 64), .int .u8 (128 + c / 64 / 64 % 64), .int .u8 (128 + c / 64 % 64), .int .u8 (128 + c % 64)] 125 j u (by
      have : j < 4 := (List.getElem?_eq_some_iff.1 hj).1
      have q : j = 0 ∨ j = 1 ∨ j = 2 ∨ j = 3 := by omega
      rcases q with rfl | rfl | rfl | rfl <;> exact hj))
    go_wp2_with (at_builtin; refine wpList_append_own _ rfl (.tmp 67) (.tmp 69) 29 rfl LO 5 i0 (.int .u8 0) 1 1 Tryz.underlying29 hi0 hz0 hz1 hz2 rfl (by decide) _ _ _ rfl (HX.out _) ⟨wc.heap.size, 0, none⟩ 4 4 (bts [240 + c / 64 / 64 / 64, 128 + c / 64 / 64 % 64, 128 + c / 64 % 64, 128 + c % 64]) rfl rfl NC.out (H1.out _) (H2.out 4 (by decide)).1 (H2.out 4 (by decide)).2 (H4.out _) ?_; intro v' w3 hown3 hg3 _)
    have R := Lib.hid (O1.out wc [240 + c / 64 / 64 / 64, 128 + c / 64 / 64 % 64, 128 + c / 64 % 64, 128 + c % 64] _ (Below.refl _ _) v' w3 hown3 hg3)
    clear hown3 hg3
    go_wp2_with fail
    go_ret
    rw [E.out]
    exact R.out
end Go.Proofs.YtkllilehdpdbdaaGreatDoor

/- The bytes of a row of numbers as a text, the program's side: Text. -/
namespace Go.Proofs.YtkllilehdpdbdaaGreatDoor
open Go.RowKit Go.Sort
set_option linter.unusedVariables false

theorem barr_fold (l : List Int) : l.foldl (fun r n => r.push (UInt8.ofNat n.toNat)) ByteArray.empty = barr l := by
  have h : ∀ (l : List Int) (s : ByteArray), l.foldl (fun r n => r.push (UInt8.ofNat n.toNat)) s = ⟨s.data ++ (l.map fun n => UInt8.ofNat n.toNat).toArray⟩ := by
    intro l
    induction l with
    | nil => intro s; simp
    | cons n l ih =>
      intro s
      rw [List.foldl_cons, ih]
      simp [ByteArray.push]
  rw [h]
  unfold barr
  have : ByteArray.empty.data = #[] := rfl
  rw [this]
  simp
/-- a row of bytes that is owned, as a text -/
theorem conv_own {LO : Nat} {v : Value} {l : List Int} {w : World} (h : w.ownsRow LO 5 1 v l.length (bts l)) : (convert 29 9 v).run Tryz.prog w = .ok (.string (barr l)) w := by
  rcases (own_form h).2 with ⟨rfl, z⟩ | ⟨g, c, rfl, _, _, _, _⟩
  · have e : l = [] := List.length_eq_zero_iff.1 z
    subst e
    exact Lib.run_convert_nil_bytes w _ _ 5 0 Tryz.underlying29 Tryz.underlying5 Tryz.underlying9
  · rw [run_convert_bytes_string w _ _ 5 (some ⟨g, 0, none⟩) l.length c Tryz.underlying29 Tryz.underlying5 Tryz.underlying9]
    have hl := run_loadCells_list (P := Tryz.prog) w ⟨g, 0, none⟩ (bts l) (h.cells (g := g) rfl)
    have e : (bts l).length = l.length := by simp [bts]
    rw [e] at hl
    rw [run_bytesToString w _ l.length c l hl, barr_fold]

theorem rns_at {w : World} {B : Nat} {A : Option Addr} {l : List Int} (h : Sees w B A (rns l)) (k : Nat) (hk : k < l.length) : ∃ ad, A = some ad ∧ ad.block < B ∧ w.cell? (ad.add k) = some (.int .i32 (l.getD k 0)) := by
  obtain ⟨ad, e, b, c⟩ := h.at (k := k) (by simpa [rns] using hk)
  refine ⟨ad, e, b, ?_⟩
  rw [c]
  simp [rns, hk]
theorem getD_mem (l : List Int) (k : Nat) (hk : k < l.length) : l.getD k 0 ∈ l := by
  have e : l.getD k 0 = l[k] := by simp [hk]
  rw [e]
  exact List.getElem_mem _

set_option maxHeartbeats 8000000 in
set_option maxRecDepth 100000 in
theorem d_Text (A : Option Addr) (c : Nat) (l : List Int) (hl : l.length ≤ 35184372000000) (hr : ∀ r ∈ l, 0 ≤ r ∧ r < 2097152) (w : World) (S : Sees w w.heap.size A (rns l)) :
    Calls Tryz.prog 64 #[.slice A l.length c] w fun e w' => e = .returned (.string (barr (textI l))) ∧ Below w.heap.size w w' := by
  have F1 := Lib.hid (fun (k : Nat) (hk : k < l.length) => rns_at S k hk)
  have HR := Lib.hid hr
  clear S hr
  obtain ⟨n, hn⟩ : ∃ n, n = l.length := ⟨_, rfl⟩
  have HN := Lib.hid hn
  rw [← hn] at hl F1 ⊢
  clear hn
  have XT : Hid (∀ k (hk : k < l.length), textI (l.take (k + 1)) = textI (l.take k) ++ bytesI (l.getD k 0)) := Lib.hid (fun k hk => by
    have e : l.getD k 0 = l[k] := by simp [hk]
    rw [e, List.take_succ_eq_append_getElem hk, textI_snoc])
  have XE : Hid (textI (l.take n) = textI l) := Lib.hid (by rw [HN.out, List.take_length])
  have XL : Hid (∀ k, k ≤ n → (textI (l.take k)).length ≤ 4 * k) := Lib.hid (fun k hk => Nat.le_trans (textI_len _) (by rw [List.length_take]; omega))
  obtain ⟨LO, hLO⟩ : ∃ LO, LO = w.heap.size := ⟨_, rfl⟩
  have HLO := Lib.hid hLO
  have O0 : Hid (w.ownsRow LO 5 1 (.slice none 0 0) (textI (l.take 0)).length (bts (textI (l.take 0))) ∧ Below LO w w) := Lib.hid ⟨World.ownsRow_nil _ _ _ _, Below.refl _ _⟩
  rw [← hLO] at F1 ⊢
  clear hLO
  go_enter Tryz.func64, Tryz.ntmps64
  go_wp2_with fail
  go_loopw [3, 5, 8] (fun s3 s5 s8 wr => ∃ (k : Nat), k ≤ n ∧ s8 = .int .i64 k ∧ Hid (wr.ownsRow LO 5 1 s3 (textI (l.take k)).length (bts (textI (l.take k))) ∧ Below LO w wr)) (fun _ _ s8 _ => n - (intOf s8).toNat)
  case atStart => exact ⟨0, by omega, rfl, O0⟩
  case round =>
    obtain ⟨k, hk, rfl, ho⟩ := hrel
    by_cases lt : k < n
    · have lt' : k < l.length := by rw [← HN.out]; exact lt
      obtain ⟨ad, rfl, hab, c0⟩ := F1.out k lt
      have cx := (ho.out.2.cell (p := ad.add k) (by rw [add_blk]; exact hab)).trans c0
      have bd := HR.out (l.getD k 0) (getD_mem l k lt')
      have PU := Lib.hid ((d_put LO _ (textI (l.take k)) (l.getD k 0) (by omega) (by omega) wr (by have := ho.out.2.size; rw [HLO.out]; omega) (by have := XL.out k hk; omega) ho.out.1).mono (R' := fun e w' => ∃ v', e = .returned v' ∧ Hid (w'.ownsRow LO 5 1 v' (textI (l.take (k + 1))).length (bts (textI (l.take (k + 1)))) ∧ Below LO w w'))
        (fun e w' ⟨v', h1, h2, h3⟩ => ⟨v', h1, Lib.hid ⟨by rw [XT.out k lt']; exact h2, ho.out.2.trans h3⟩⟩))
      clear c0 bd
      generalize l.getD k 0 = r at *
      go_wp2_with fail
      refine PU.out.mono ?_; rintro e w1 ⟨v', rfl, SS⟩
      go_wp2_with fail
      go_roundw
      case rel => exact ⟨k + 1, by omega, by go_num, SS⟩
      case measure => (simp [intOf] <;> omega)
    · have ek : k = n := by omega
      subst ek
      rw [XE.out] at ho
      have hcv := conv_own ho.out.1
      have BB := Lib.hid ho.out.2
      clear ho
      go_wp2_with fail
      go_ret
      exact ⟨rfl, BB.out⟩
end Go.Proofs.YtkllilehdpdbdaaGreatDoor
