/- What lies below tapes (kept of earlier texts: DfTx, RaA, RaK, DfWn). -/
import Derived.Test.YtifoijbpbigaaaaGreatDoorDaCA
import Derived.Deep.DeepCutAuto
import Derived.Laws.BytesString
import Derived.Lib.BufferRead
import Derived.Deep.QuietTactic
set_option linter.unusedVariables false
set_option linter.unusedSimpArgs false
namespace Go.Proofs.YtifoijbpbigaaaaGreatDoor
section
open Go.RowKit Go.Sort
set_option maxHeartbeats 4000000 in
set_option maxRecDepth 100000 in
theorem d_at (t : ByteArray) (b i : Nat) (hi : i < t.size) (w : World) (hc : w.cell? ⟨b, 0, none⟩ = some (.string t)) :
  Calls Tryz.prog 135 #[.int .i64 (i : Int), .pointer (some ⟨b, 0, none⟩)] w fun e w' => e = .returned (.int .u8 (byt t i)) /\ w' = w := by
 have ix : ∀ W, (Instr.index 9 (.string t) (.int .i64 (i : Int))).run Tryz.prog W = .ok (.int .u8 (byt t i : Int)) W := fun W => by
  rw [run_index_string _ _ _ _ _ Tryz.underlying9, dif_pos (by omega)]
  unfold byt
  rw [get_at t i hi]
  rfl
 generalize byt t i = y at *
 go_enter Tryz.func135, Tryz.ntmps135
 go_wp2_with fail
 go_ret
 exact ⟨rfl, rfl⟩
set_option maxHeartbeats 4000000 in
set_option maxRecDepth 100000 in
theorem d_lead (b : Nat) (hb : b < 256) (w : World) :
  Calls Tryz.prog 143 #[.int .u8 (b : Int)] w fun e w' => e = .returned (.tuple #[.int .i64 ((zp b).1 : Int), .int .u8 ((zp b).2.1 : Int), .int .u8 ((zp b).2.2 : Int)]) /\ w' = w := by
 have H : b < 128 \/ (128 <= b /\ b < 194) \/ (194 <= b /\ b < 224) \/ b = 224 \/ b = 237 \/ (225 <= b /\ b < 240 /\ b ≠ 237) \/ b = 240 \/ (241 <= b /\ b < 244) \/ b = 244 \/ 245 <= b := by omega
 rcases H with h | ⟨h1, h2⟩ | ⟨h1, h2⟩ | h | h | ⟨h1, h2, h3⟩ | h | ⟨h1, h2⟩ | h | h
 ·have L : zp b = (1, 0, 0) := by unfold zp; rw [if_pos h]
  rw [L]
  go_enter Tryz.func143, Tryz.ntmps143
  go_wp2_with fail
  exact bodyPost_ret (v := .tuple #[.int .i64 1, .int .u8 0, .int .u8 0]) (by simp [results, Tryz.results143, go_sem]) rfl ⟨rfl, rfl⟩
 ·have L : zp b = (0, 0, 0) := by unfold zp; rw [if_neg (by omega), if_pos h2]
  rw [L]
  go_enter Tryz.func143, Tryz.ntmps143
  go_wp2_with fail
  exact bodyPost_ret (v := .tuple #[.int .i64 0, .int .u8 0, .int .u8 0]) (by simp [results, Tryz.results143, go_sem]) rfl ⟨rfl, rfl⟩
 ·have L : zp b = (2, 128, 191) := by unfold zp; rw [if_neg (by omega), if_neg (by omega), if_pos h2]
  rw [L]
  have q224 : ((b : Int) == 224) = false := by simp; omega
  have q237 : ((b : Int) == 237) = false := by simp; omega
  have q240 : ((b : Int) == 240) = false := by simp; omega
  have q244 : ((b : Int) == 244) = false := by simp; omega
  go_enter Tryz.func143, Tryz.ntmps143
  go_wp2_with fail
  exact bodyPost_ret (v := .tuple #[.int .i64 2, .int .u8 128, .int .u8 191]) (by simp [results, Tryz.results143, go_sem]) rfl ⟨rfl, rfl⟩
 ·have L : zp b = (3, 160, 191) := by unfold zp; rw [if_neg (by omega), if_neg (by omega), if_neg (by omega), if_pos h]
  rw [L]
  subst h
  go_enter Tryz.func143, Tryz.ntmps143
  go_wp2_with fail
  exact bodyPost_ret (v := .tuple #[.int .i64 3, .int .u8 160, .int .u8 191]) (by simp [results, Tryz.results143, go_sem]) rfl ⟨rfl, rfl⟩
 ·have L : zp b = (3, 128, 159) := by unfold zp; rw [if_neg (by omega), if_neg (by omega), if_neg (by omega), if_neg (by omega), if_pos h]
  rw [L]
  subst h
  go_enter Tryz.func143, Tryz.ntmps143
  go_wp2_with fail
  exact bodyPost_ret (v := .tuple #[.int .i64 3, .int .u8 128, .int .u8 159]) (by simp [results, Tryz.results143, go_sem]) rfl ⟨rfl, rfl⟩
 ·have L : zp b = (3, 128, 191) := by unfold zp; rw [if_neg (by omega), if_neg (by omega), if_neg (by omega), if_neg (by omega), if_neg (by omega), if_pos h2]
  rw [L]
  have q1 : ((b : Int) == 237) = false := by simp; omega
  have q2 : ((b : Int) == 224) = false := by simp; omega
  go_enter Tryz.func143, Tryz.ntmps143
  go_wp2_with fail
  exact bodyPost_ret (v := .tuple #[.int .i64 3, .int .u8 128, .int .u8 191]) (by simp [results, Tryz.results143, go_sem]) rfl ⟨rfl, rfl⟩
 ·have L : zp b = (4, 144, 191) := by unfold zp; rw [if_neg (by omega), if_neg (by omega), if_neg (by omega), if_neg (by omega), if_neg (by omega), if_neg (by omega), if_pos h]
  rw [L]
  subst h
  go_enter Tryz.func143, Tryz.ntmps143
  go_wp2_with fail
  exact bodyPost_ret (v := .tuple #[.int .i64 4, .int .u8 144, .int .u8 191]) (by simp [results, Tryz.results143, go_sem]) rfl ⟨rfl, rfl⟩
 ·have L : zp b = (4, 128, 191) := by unfold zp; rw [if_neg (by omega), if_neg (by omega), if_neg (by omega), if_neg (by omega), if_neg (by omega), if_neg (by omega), if_neg (by omega), if_pos h2]
  rw [L]
  have q224 : ((b : Int) == 224) = false := by simp; omega
  have q237 : ((b : Int) == 237) = false := by simp; omega
  have q240 : ((b : Int) == 240) = false := by simp; omega
  have q244 : ((b : Int) == 244) = false := by simp; omega
  go_enter Tryz.func143, Tryz.ntmps143
  go_wp2_with fail
  exact bodyPost_ret (v := .tuple #[.int .i64 4, .int .u8 128, .int .u8 191]) (by simp [results, Tryz.results143, go_sem]) rfl ⟨rfl, rfl⟩
 ·have L : zp b = (4, 128, 143) := by unfold zp; rw [if_neg (by omega), if_neg (by omega), if_neg (by omega), if_neg (by omega), if_neg (by omega), if_neg (by omega), if_neg (by omega), if_neg (by omega), if_pos h]
  rw [L]
  subst h
  go_enter Tryz.func143, Tryz.ntmps143
  go_wp2_with fail
  exact bodyPost_ret (v := .tuple #[.int .i64 4, .int .u8 128, .int .u8 143]) (by simp [results, Tryz.results143, go_sem]) rfl ⟨rfl, rfl⟩
 ·have L : zp b = (0, 0, 0) := by unfold zp; rw [if_neg (by omega), if_neg (by omega), if_neg (by omega), if_neg (by omega), if_neg (by omega), if_neg (by omega), if_neg (by omega), if_neg (by omega), if_neg (by omega)]
  rw [L]
  have q224 : ((b : Int) == 224) = false := by simp; omega
  have q237 : ((b : Int) == 237) = false := by simp; omega
  have q240 : ((b : Int) == 240) = false := by simp; omega
  have q244 : ((b : Int) == 244) = false := by simp; omega
  go_enter Tryz.func143, Tryz.ntmps143
  go_wp2_with fail
  exact bodyPost_ret (v := .tuple #[.int .i64 0, .int .u8 0, .int .u8 0]) (by simp [results, Tryz.results143, go_sem]) rfl ⟨rfl, rfl⟩
theorem kg (y j : Nat) (hy : y < 256) (hj : j <= 8) : bits .and .i32 (y : Int) ((2 : Int) ^ j - 1) = ((y % 2 ^ j : Nat) : Int) := by
 have e : (2 : Int) ^ 31 = 2147483648 := by decide
 rw [bits_mask .i32 31 (by decide) wraps_i32 j (by omega) y (by omega) (by rw [e]; omega)]
 simp
theorem kh (c : Nat) (hc : c < 256) : bits .and .u8 (c : Int) 63 = ((c % 64 : Nat) : Int) := by
 rw [u8_and63 _ (by omega) (by omega)]
 simp
theorem ki (r c : Nat) (hr : r < 2097152) : bits .or .i32 ((r * 64 : Nat) : Int) ((c % 64 : Nat) : Int) = ((r * 64 + c % 64 : Nat) : Int) := by
 rw [i32_or6 _ _ (by omega) (by omega) (by omega) (by omega) (by omega)]
 omega
set_option maxHeartbeats 8000000 in
set_option maxRecDepth 100000 in
theorem d_first (t : ByteArray) (ht : 0 < t.size) (hs : t.size <= 281474976710656) (b : Nat) (w : World) (hc : w.cell? ⟨b, 0, none⟩ = some (.string t)) :
  Calls Tryz.prog 134 #[.func (.func 135) #[] #[.pointer (some ⟨b, 0, none⟩)], .int .i64 (t.size : Int)] w fun e w' => (∃ u : Bool, e = .returned (.tuple #[.int .i32 ((decB t).1 : Int), .int .i64 ((decB t).2 : Int), .bool u])) /\ w' = w := by
 have DB : Hid (decB t = if (zp (byt t 0)).1 = 0 then (65533, 1) else if (zp (byt t 0)).1 = 1 then (byt t 0, 1)
  else goN t (zp (byt t 0)).1 ((zp (byt t 0)).1 - 1) (zp (byt t 0)).2.1 (zp (byt t 0)).2.2 (byt t 0 % 2 ^ (7 - (zp (byt t 0)).1)) 1) := Xk rfl
 have AT := Xk (fun i hi => d_at t b i hi w hc)
 have HS := Xk hs
 have A0 := Xk (AT.out 0 ht)
 have b0 := qN t 0
 have LD := Xk (d_lead (byt t 0) b0 w)
 have l4 := vg (byt t 0)
 generalize decB t = D at *
 have m31 : bits .and .i32 (byt t 0 : Int) 31 = ((byt t 0 % 32 : Nat) : Int) := kg _ 5 b0 (by decide)
 have m15 : bits .and .i32 (byt t 0 : Int) 15 = ((byt t 0 % 16 : Nat) : Int) := kg _ 4 b0 (by decide)
 have m7 : bits .and .i32 (byt t 0 : Int) 7 = ((byt t 0 % 8 : Nat) : Int) := kg _ 3 b0 (by decide)
 generalize byt t 0 = y0 at *
 generalize zp y0 = L at *
 obtain ⟨n, lo, hi⟩ := L
 obtain ⟨sz, hsz⟩ : ∃ sz, sz = t.size := ⟨_, rfl⟩
 have HZ := Xk hsz
 rw [<- hsz] at ht hs AT ⊢
 clear hsz hs hc
 simp only at l4 DB LD
 go_enter Tryz.func134, Tryz.ntmps134
 go_wp2_with fail
 refine A0.out.mono ?_; rintro e w' ⟨rfl, rfl⟩
 go_wp2_with fail
 refine LD.out.mono ?_; rintro e w' ⟨rfl, rfl⟩
 have N : n = 0 \/ n = 1 \/ n = 2 \/ n = 3 \/ n = 4 := by omega
 rcases N with rfl | rfl | rfl | rfl | rfl
 ·have R : Hid (D = (65533, 1)) := Xk (by rw [DB.out, if_pos rfl])
  go_wp2_with fail
  exact bodyPost_ret (v := .tuple #[.int .i32 65533, .int .i64 1, .bool false]) (by simp [results, Tryz.results134, go_sem]) rfl ⟨⟨false, by rw [R.out]; rfl⟩, rfl⟩
 ·have R : Hid (D = (y0, 1)) := Xk (by rw [DB.out, if_neg (by decide), if_pos rfl])
  go_wp2_with fail
  exact bodyPost_ret (v := .tuple #[.int .i32 y0, .int .i64 1, .bool false]) (by simp [results, Tryz.results134, go_sem]) rfl ⟨⟨false, by rw [R.out]; rfl⟩, rfl⟩
 ·have R : Hid (D = goN t 2 1 lo hi (y0 % 32) 1) := Xk (by rw [DB.out, if_neg (by decide), if_neg (by decide)])
  go_wp2_with fail
  go_loopw [9, 10, 11, 12, 13] (fun s9 s10 s11 s12 s13 wr => ∃ i lo' hi' r : Nat, 1 <= i /\ i <= 2 /\ i <= sz /\ s9 = .int .u8 (lo' : Int) /\ s10 = .int .u8 (hi' : Int) /\ s11 = .int .i32 (r : Int) /\ s12 = .int .i64 (i : Int) /\ wr = w' /\ Hid (r < 2 ^ (21 - 6 * (2 - i)) /\ goN t 2 (2 - i) lo' hi' r i = D)) (fun _ _ _ s12 _ _ => 2 - (intOf s12).toNat)
  case atStart => exact ⟨1, lo, hi, y0 % 32, by decide, by decide, by omega, rfl, rfl, by simp, rfl, rfl, Xk ⟨by have := Nat.mod_lt y0 (show 0 < 32 by decide); simp; omega, by rw [R.out]⟩⟩
  case round =>
   obtain ⟨i, lo', hi', r, h1, h2, h3, rfl, rfl, rfl, rfl, rfl, hG⟩ := hrel
   by_cases lt : i < 2
   ·have FU : 2 - i = (2 - (i + 1)) + 1 := by omega
    by_cases e : i = sz
    ·subst e
     have R2 : Hid (D = (65533, i)) := Xk (by rw [<- hG.out.2, FU]; exact j5 _ _ _ _ _ _ _ HZ.out)
     clear FU
     go_wp2_with fail
     exact bodyPost_ret (v := .tuple #[.int .i32 65533, .int .i64 (i : Int), .bool true]) (by simp [results, Tryz.results134, go_sem]) rfl ⟨⟨true, by rw [R2.out]; rfl⟩, rfl⟩
    ·have lz : i < sz := by omega
     have ne : ((i : Int) == (sz : Int)) = false := by simp; omega
     have A1 := Xk (AT.out i lz)
     have cl := qN t i
     have nz : ¬ i = t.size := by rw [<- HZ.out]; exact e
     have BAD : Hid (byt t i < lo' \/ hi' < byt t i -> D = (65533, i)) := Xk fun hb => by rw [<- hG.out.2, FU]; exact j6 _ _ _ _ _ _ _ nz hb
     have GOOD : Hid (¬ (byt t i < lo' \/ hi' < byt t i) -> goN t 2 (2 - (i + 1)) 128 191 (r * 64 + byt t i % 64) (i + 1) = D) := Xk fun hb => by rw [<- hG.out.2, FU]; exact (j7 _ _ _ _ _ _ _ nz hb).symm
     clear FU nz
     generalize byt t i = c at *
     by_cases c1 : c < lo'
     ·have R2 : Hid (D = (65533, i)) := Xk (BAD.out (Or.inl c1))
      go_wp2_with fail
      refine A1.out.mono ?_; rintro e' w' ⟨rfl, rfl⟩
      go_wp2_with fail
      exact bodyPost_ret (v := .tuple #[.int .i32 65533, .int .i64 (i : Int), .bool false]) (by simp [results, Tryz.results134, go_sem]) rfl ⟨⟨false, by rw [R2.out]; rfl⟩, rfl⟩
     ·by_cases c2 : hi' < c
      ·have R2 : Hid (D = (65533, i)) := Xk (BAD.out (Or.inr c2))
       go_wp2_with fail
       refine A1.out.mono ?_; rintro e' w' ⟨rfl, rfl⟩
       go_wp2_with fail
       exact bodyPost_ret (v := .tuple #[.int .i32 65533, .int .i64 (i : Int), .bool false]) (by simp [results, Tryz.results134, go_sem]) rfl ⟨⟨false, by rw [R2.out]; rfl⟩, rfl⟩
      ·have GO := Xk (GOOD.out (fun h => h.elim c1 c2))
       have rb : r < 32768 := by
        have := hG.out.1
        have q : 2 - i = 1 \/ 2 - i = 2 \/ 2 - i = 3 := by omega
        rcases q with q | q | q <;> rw [q] at this <;> simp at this <;> omega
       have rb2 : Hid (r * 64 + c % 64 < 2 ^ (21 - 6 * (2 - (i + 1)))) := Xk (by
        have := hG.out.1
        have q : 2 - i = 1 \/ 2 - i = 2 \/ 2 - i = 3 := by omega
        rcases q with q | q | q <;> rw [q] at this <;> (rw [show 2 - (i + 1) = 2 - i - 1 by omega, q]) <;> simp at this ⊢ <;> omega)
       have f1 := kh c cl
       have f2 := ki r c (by omega)
       have f3 : IntKind.i32.wrap ((r : Int) * 64) = ((r * 64 : Nat) : Int) := by rw [IntKind.wrap_i32]; omega
       clear BAD GOOD hG
       go_wp2_with fail
       refine A1.out.mono ?_; rintro e' w' ⟨rfl, rfl⟩
       go_wp2_with fail
       go_roundw
       case rel => exact ⟨i + 1, 128, 191, r * 64 + c % 64, by omega, by omega, by omega, rfl, rfl, by go_num, by go_num, trivial, Xk ⟨rb2.out, GO.out⟩⟩
       case measure => simp [intOf]; omega
   ·have ei : i = 2 := by omega
    subst ei
    have R2 : Hid (D = (r, 2)) := Xk (by rw [<- hG.out.2, Nat.sub_self]; rfl)
    go_wp2_with fail
    exact bodyPost_ret (v := .tuple #[.int .i32 (r : Int), .int .i64 2, .bool false]) (by simp [results, Tryz.results134, go_sem]) rfl ⟨⟨false, by rw [R2.out]; rfl⟩, rfl⟩
 ·have R : Hid (D = goN t 3 2 lo hi (y0 % 16) 1) := Xk (by rw [DB.out, if_neg (by decide), if_neg (by decide)])
  go_wp2_with fail
  go_loopw [9, 10, 11, 12, 13] (fun s9 s10 s11 s12 s13 wr => ∃ i lo' hi' r : Nat, 1 <= i /\ i <= 3 /\ i <= sz /\ s9 = .int .u8 (lo' : Int) /\ s10 = .int .u8 (hi' : Int) /\ s11 = .int .i32 (r : Int) /\ s12 = .int .i64 (i : Int) /\ wr = w' /\ Hid (r < 2 ^ (21 - 6 * (3 - i)) /\ goN t 3 (3 - i) lo' hi' r i = D)) (fun _ _ _ s12 _ _ => 3 - (intOf s12).toNat)
  case atStart => exact ⟨1, lo, hi, y0 % 16, by decide, by decide, by omega, rfl, rfl, by simp, rfl, rfl, Xk ⟨by have := Nat.mod_lt y0 (show 0 < 16 by decide); simp; omega, by rw [R.out]⟩⟩
  case round =>
   obtain ⟨i, lo', hi', r, h1, h2, h3, rfl, rfl, rfl, rfl, rfl, hG⟩ := hrel
   by_cases lt : i < 3
   ·have FU : 3 - i = (3 - (i + 1)) + 1 := by omega
    by_cases e : i = sz
    ·subst e
     have R2 : Hid (D = (65533, i)) := Xk (by rw [<- hG.out.2, FU]; exact j5 _ _ _ _ _ _ _ HZ.out)
     clear FU
     go_wp2_with fail
     exact bodyPost_ret (v := .tuple #[.int .i32 65533, .int .i64 (i : Int), .bool true]) (by simp [results, Tryz.results134, go_sem]) rfl ⟨⟨true, by rw [R2.out]; rfl⟩, rfl⟩
    ·have lz : i < sz := by omega
     have ne : ((i : Int) == (sz : Int)) = false := by simp; omega
     have A1 := Xk (AT.out i lz)
     have cl := qN t i
     have nz : ¬ i = t.size := by rw [<- HZ.out]; exact e
     have BAD : Hid (byt t i < lo' \/ hi' < byt t i -> D = (65533, i)) := Xk fun hb => by rw [<- hG.out.2, FU]; exact j6 _ _ _ _ _ _ _ nz hb
     have GOOD : Hid (¬ (byt t i < lo' \/ hi' < byt t i) -> goN t 3 (3 - (i + 1)) 128 191 (r * 64 + byt t i % 64) (i + 1) = D) := Xk fun hb => by rw [<- hG.out.2, FU]; exact (j7 _ _ _ _ _ _ _ nz hb).symm
     clear FU nz
     generalize byt t i = c at *
     by_cases c1 : c < lo'
     ·have R2 : Hid (D = (65533, i)) := Xk (BAD.out (Or.inl c1))
      go_wp2_with fail
      refine A1.out.mono ?_; rintro e' w' ⟨rfl, rfl⟩
      go_wp2_with fail
      exact bodyPost_ret (v := .tuple #[.int .i32 65533, .int .i64 (i : Int), .bool false]) (by simp [results, Tryz.results134, go_sem]) rfl ⟨⟨false, by rw [R2.out]; rfl⟩, rfl⟩
     ·by_cases c2 : hi' < c
      ·have R2 : Hid (D = (65533, i)) := Xk (BAD.out (Or.inr c2))
       go_wp2_with fail
       refine A1.out.mono ?_; rintro e' w' ⟨rfl, rfl⟩
       go_wp2_with fail
       exact bodyPost_ret (v := .tuple #[.int .i32 65533, .int .i64 (i : Int), .bool false]) (by simp [results, Tryz.results134, go_sem]) rfl ⟨⟨false, by rw [R2.out]; rfl⟩, rfl⟩
      ·have GO := Xk (GOOD.out (fun h => h.elim c1 c2))
       have rb : r < 32768 := by
        have := hG.out.1
        have q : 3 - i = 1 \/ 3 - i = 2 \/ 3 - i = 3 := by omega
        rcases q with q | q | q <;> rw [q] at this <;> simp at this <;> omega
       have rb2 : Hid (r * 64 + c % 64 < 2 ^ (21 - 6 * (3 - (i + 1)))) := Xk (by
        have := hG.out.1
        have q : 3 - i = 1 \/ 3 - i = 2 \/ 3 - i = 3 := by omega
        rcases q with q | q | q <;> rw [q] at this <;> (rw [show 3 - (i + 1) = 3 - i - 1 by omega, q]) <;> simp at this ⊢ <;> omega)
       have f1 := kh c cl
       have f2 := ki r c (by omega)
       have f3 : IntKind.i32.wrap ((r : Int) * 64) = ((r * 64 : Nat) : Int) := by rw [IntKind.wrap_i32]; omega
       clear BAD GOOD hG
       go_wp2_with fail
       refine A1.out.mono ?_; rintro e' w' ⟨rfl, rfl⟩
       go_wp2_with fail
       go_roundw
       case rel => exact ⟨i + 1, 128, 191, r * 64 + c % 64, by omega, by omega, by omega, rfl, rfl, by go_num, by go_num, trivial, Xk ⟨rb2.out, GO.out⟩⟩
       case measure => simp [intOf]; omega
   ·have ei : i = 3 := by omega
    subst ei
    have R2 : Hid (D = (r, 3)) := Xk (by rw [<- hG.out.2, Nat.sub_self]; rfl)
    go_wp2_with fail
    exact bodyPost_ret (v := .tuple #[.int .i32 (r : Int), .int .i64 3, .bool false]) (by simp [results, Tryz.results134, go_sem]) rfl ⟨⟨false, by rw [R2.out]; rfl⟩, rfl⟩
 ·have R : Hid (D = goN t 4 3 lo hi (y0 % 8) 1) := Xk (by rw [DB.out, if_neg (by decide), if_neg (by decide)])
  go_wp2_with fail
  go_loopw [9, 10, 11, 12, 13] (fun s9 s10 s11 s12 s13 wr => ∃ i lo' hi' r : Nat, 1 <= i /\ i <= 4 /\ i <= sz /\ s9 = .int .u8 (lo' : Int) /\ s10 = .int .u8 (hi' : Int) /\ s11 = .int .i32 (r : Int) /\ s12 = .int .i64 (i : Int) /\ wr = w' /\ Hid (r < 2 ^ (21 - 6 * (4 - i)) /\ goN t 4 (4 - i) lo' hi' r i = D)) (fun _ _ _ s12 _ _ => 4 - (intOf s12).toNat)
  case atStart => exact ⟨1, lo, hi, y0 % 8, by decide, by decide, by omega, rfl, rfl, by simp, rfl, rfl, Xk ⟨by have := Nat.mod_lt y0 (show 0 < 8 by decide); simp; omega, by rw [R.out]⟩⟩
  case round =>
   obtain ⟨i, lo', hi', r, h1, h2, h3, rfl, rfl, rfl, rfl, rfl, hG⟩ := hrel
   by_cases lt : i < 4
   ·have FU : 4 - i = (4 - (i + 1)) + 1 := by omega
    by_cases e : i = sz
    ·subst e
     have R2 : Hid (D = (65533, i)) := Xk (by rw [<- hG.out.2, FU]; exact j5 _ _ _ _ _ _ _ HZ.out)
     clear FU
     go_wp2_with fail
     exact bodyPost_ret (v := .tuple #[.int .i32 65533, .int .i64 (i : Int), .bool true]) (by simp [results, Tryz.results134, go_sem]) rfl ⟨⟨true, by rw [R2.out]; rfl⟩, rfl⟩
    ·have lz : i < sz := by omega
     have ne : ((i : Int) == (sz : Int)) = false := by simp; omega
     have A1 := Xk (AT.out i lz)
     have cl := qN t i
     have nz : ¬ i = t.size := by rw [<- HZ.out]; exact e
     have BAD : Hid (byt t i < lo' \/ hi' < byt t i -> D = (65533, i)) := Xk fun hb => by rw [<- hG.out.2, FU]; exact j6 _ _ _ _ _ _ _ nz hb
     have GOOD : Hid (¬ (byt t i < lo' \/ hi' < byt t i) -> goN t 4 (4 - (i + 1)) 128 191 (r * 64 + byt t i % 64) (i + 1) = D) := Xk fun hb => by rw [<- hG.out.2, FU]; exact (j7 _ _ _ _ _ _ _ nz hb).symm
     clear FU nz
     generalize byt t i = c at *
     by_cases c1 : c < lo'
     ·have R2 : Hid (D = (65533, i)) := Xk (BAD.out (Or.inl c1))
      go_wp2_with fail
      refine A1.out.mono ?_; rintro e' w' ⟨rfl, rfl⟩
      go_wp2_with fail
      exact bodyPost_ret (v := .tuple #[.int .i32 65533, .int .i64 (i : Int), .bool false]) (by simp [results, Tryz.results134, go_sem]) rfl ⟨⟨false, by rw [R2.out]; rfl⟩, rfl⟩
     ·by_cases c2 : hi' < c
      ·have R2 : Hid (D = (65533, i)) := Xk (BAD.out (Or.inr c2))
       go_wp2_with fail
       refine A1.out.mono ?_; rintro e' w' ⟨rfl, rfl⟩
       go_wp2_with fail
       exact bodyPost_ret (v := .tuple #[.int .i32 65533, .int .i64 (i : Int), .bool false]) (by simp [results, Tryz.results134, go_sem]) rfl ⟨⟨false, by rw [R2.out]; rfl⟩, rfl⟩
      ·have GO := Xk (GOOD.out (fun h => h.elim c1 c2))
       have rb : r < 32768 := by
        have := hG.out.1
        have q : 4 - i = 1 \/ 4 - i = 2 \/ 4 - i = 3 := by omega
        rcases q with q | q | q <;> rw [q] at this <;> simp at this <;> omega
       have rb2 : Hid (r * 64 + c % 64 < 2 ^ (21 - 6 * (4 - (i + 1)))) := Xk (by
        have := hG.out.1
        have q : 4 - i = 1 \/ 4 - i = 2 \/ 4 - i = 3 := by omega
        rcases q with q | q | q <;> rw [q] at this <;> (rw [show 4 - (i + 1) = 4 - i - 1 by omega, q]) <;> simp at this ⊢ <;> omega)
       have f1 := kh c cl
       have f2 := ki r c (by omega)
       have f3 : IntKind.i32.wrap ((r : Int) * 64) = ((r * 64 : Nat) : Int) := by rw [IntKind.wrap_i32]; omega
       clear BAD GOOD hG
       go_wp2_with fail
       refine A1.out.mono ?_; rintro e' w' ⟨rfl, rfl⟩
       go_wp2_with fail
       go_roundw
       case rel => exact ⟨i + 1, 128, 191, r * 64 + c % 64, by omega, by omega, by omega, rfl, rfl, by go_num, by go_num, trivial, Xk ⟨rb2.out, GO.out⟩⟩
       case measure => simp [intOf]; omega
   ·have ei : i = 4 := by omega
    subst ei
    have R2 : Hid (D = (r, 4)) := Xk (by rw [<- hG.out.2, Nat.sub_self]; rfl)
    go_wp2_with fail
    exact bodyPost_ret (v := .tuple #[.int .i32 (r : Int), .int .i64 4, .bool false]) (by simp [results, Tryz.results134, go_sem]) rfl ⟨⟨false, by rw [R2.out]; rfl⟩, rfl⟩
set_option maxHeartbeats 4000000 in
set_option maxRecDepth 100000 in
theorem d_Decode (t : ByteArray) (ht : 0 < t.size) (hs : t.size <= 281474976710656) (w : World) :
  Calls Tryz.prog 116 #[.string t] w fun e w' => e = .returned (.tuple #[.int .i32 ((decB t).1 : Int), .int .i64 ((decB t).2 : Int)]) /\ Below w.heap.size w w' := by
 have hmf : ∀ (fn : Fn) (first cap : Array Value) (w : World), (Instr.makeFunc fn first cap).run Tryz.prog w = .ok (.func fn first cap) w := fun _ _ _ _ => rfl
 have b1 : (t.toList == []) = false := by
  rw [vk]
  refine decide_eq_false fun e => ?_
  rw [e] at ht
  exact absurd ht (by decide)
 have FI := Xk (d_first t ht hs w.heap.size (w.alloc (.cells #[.string t] 9)) (by simp [go_sem]))
 generalize decB t = D at *
 go_enter Tryz.func116, Tryz.ntmps116
 go_wp2_with fail
 refine FI.out.mono ?_; rintro e w' ⟨⟨u, rfl⟩, rfl⟩
 go_wp2_with fail
 exact bodyPost_ret (v := .tuple #[.int .i32 (D.1 : Int), .int .i64 (D.2 : Int)]) (by simp [results, Tryz.results116, go_sem]) rfl ⟨rfl, by go_grown⟩
end
section
open Go.RowKit Go.Sort
def rns (l : List Int) : List Value := l.map (Value.int .i32)
theorem vD (a b : List Int) : rns (a ++ b) = rns a ++ rns b := by simp [rns]
theorem vE (l : List Int) : ∀ u ∈ rns l, u.oneCell' = true := fun u hu => by
 obtain ⟨y, _, rfl⟩ := List.mem_map.1 hu
 rfl
theorem infoR : (Tryz.prog.info? 21).map (fun i => (i.zero, i.size, i.bytes)) = some (some (.int .i32 0), 1, 4) := by kernel_rfl
theorem qj (w : World) (xs : List Value) (T : TypeId) : ∀ j u, xs[j]? = some u -> (w.alloc (.cells xs.toArray T)).cell? ((⟨w.heap.size, 0, none⟩ : Addr).add j) = some u := fun j u h => by
 rw [show (⟨w.heap.size, 0, none⟩ : Addr).add j = ⟨w.heap.size, j, none⟩ by simp [Addr.add]; intro h; exact h.symm]
 exact (z7 w xs T j u h).1
theorem ext_ext (s : ByteArray) (a d : Nat) (h : a <= s.size) : (s.extract a s.size).extract d (s.extract a s.size).size = s.extract (a + d) s.size := by
 have z : (s.extract a s.size).size = s.size - a := by rw [ByteArray.size_extract]; omega
 rw [z, ByteArray.extract_extract, show min (a + (s.size - a)) s.size = s.size by omega]
theorem QL (s : ByteArray) (k : Nat) (acc : List Int) (hk : k < s.size) (h : acc ++ zr (s.extract k s.size) = zr s) :
  acc ++ [((decB (s.extract k s.size)).1 : Int)] ++ zr (s.extract (k + (decB (s.extract k s.size)).2) s.size) = zr s := by
 have z : (s.extract k s.size).size = s.size - k := by rw [ByteArray.size_extract]; omega
 rw [xw _ (by omega), ext_ext s k _ (by omega)] at h
 rw [<- h, List.append_assoc, List.singleton_append]
set_option maxHeartbeats 8000000 in
set_option maxRecDepth 100000 in
theorem d_Runes (s : ByteArray) (hs : s.size <= 35184372000000) (w : World) : Calls Tryz.prog 100 #[.string s] w fun e w' => ∃ v, e = .returned v /\ w'.ownsRow w.heap.size 21 1 v (zr s).length (rns (zr s)) /\ Below w.heap.size w w' := by
 obtain ⟨n, hn⟩ : ∃ n, n = s.size := ⟨_, rfl⟩
 have HN := Xk hn
 have XL := Xk (xx _ s rfl)
 have XS := Xk (QL s)
 have XD := Xk (fun k (hk : k < s.size) => d_Decode (s.extract k s.size) (by rw [ByteArray.size_extract]; omega) (by rw [ByteArray.size_extract]; omega))
 have XB := Xk (fun k (hk : k < s.size) => jG (s.extract k s.size) (by rw [ByteArray.size_extract]; omega))
 have XZ : Hid (∀ k, k < s.size -> (s.extract k s.size).size = s.size - k) := Xk (fun k hk => by rw [ByteArray.size_extract]; omega)
 have XE : Hid (∀ acc, acc ++ zr (s.extract s.size s.size) = zr s -> acc = zr s) := Xk (fun acc h => by rw [xv _ (by rw [ByteArray.size_extract]; omega), List.append_nil] at h; exact h)
 rw [<- hn] at hs XL XS XD XB XZ XE
 clear hn
 obtain ⟨i0, hi0, hz0, hz1, hz2⟩ := info_parts infoR
 obtain ⟨LO, hLO⟩ : ∃ LO, LO = w.heap.size := ⟨_, rfl⟩
 have HLO := Xk hLO
 have STEP : Hid (∀ (wr : World) (v : Value) (ws L : List Int), wr.ownsRow LO 21 1 v ws.length (rns ws) -> Below LO w wr -> ∀ (v' : Value) (w3 : World), w3.ownsRow LO 21 1 v' (ws.length + L.length) (rns ws ++ rns L) -> (wr.alloc (.cells (rns L).toArray 21)).grownBy w3 v.ownBlock -> w3.ownsRow LO 21 1 v' (ws ++ L).length (rns (ws ++ L)) /\ Below LO w w3) := Xk (fun wr v ws L ho hb v' w3 h1 h2 =>
  ⟨by rw [List.length_append, vD]; exact h1, (hb.alloc (by rw [hLO]; exact hb.size) _).grown h2 (by have := hb.size; simp; omega) (fun g hg => (ho.lt g hg).1)⟩)
 have O0 : Hid (w.ownsRow LO 21 1 (.slice none 0 0) 0 (rns []) /\ Below LO w w) := Xk ⟨World.ownsRow_nil _ _ _ _, Below.refl _ _⟩
 rw [<- hLO]
 clear hLO
 have hsz : (s.size : Int) = (n : Int) := by rw [HN.out]
 go_enter Tryz.func100, Tryz.ntmps100
 go_wp2_with fail
 go_loopw [3, 4, 5, 6] (fun s3 s4 s5 s6 wr => ∃ (k : Nat) (acc : List Int), k <= n /\ s4 = .int .i64 k /\ Hid (acc ++ zr (s.extract k n) = zr s) /\ Hid (wr.ownsRow LO 21 1 s3 acc.length (rns acc) /\ Below LO w wr)) (fun _ s4 _ _ _ => n - (intOf s4).toNat)
 case atStart => exact ⟨0, [], by omega, rfl, Xk (by rw [HN.out]; simp), O0⟩
 case round =>
  obtain ⟨k, acc, hk, rfl, hx, ho⟩ := hrel
  by_cases lt : k < n
  ·have slr : ∀ W, (Instr.slice 9 (.string s) (some (.int .i64 (k : Int))) none none).run Tryz.prog W = .ok (.string (s.extract k n)) W := fun W => by
    rw [run_slice_string_from_if _ _ _ _ _ Tryz.underlying9, if_pos (by omega)]
    rw [HN.out]
    rfl
   have NX := Xk (XS.out k acc lt hx.out)
   have DD := Xk (XD.out k lt)
   have bb := XB.out k lt
   have zz := XZ.out k lt
   have LL : acc.length + 1 <= n := by
    have h1 := congrArg List.length NX.out
    simp at h1
    have := XL.out
    omega
   clear hx
   generalize s.extract k n = x at *
   rw [zz] at bb
   obtain ⟨⟨r, d⟩, hD⟩ : ∃ D, D = decB x := ⟨_, rfl⟩
   rw [<- hD] at DD bb NX
   simp only at DD bb NX
   clear hD zz
   go_wp2_with fail
   refine (DD.out _).mono ?_; rintro e w1 ⟨rfl, hb1⟩
   have HO := Xk ((zF ho.out.1 hb1).alloc (.cells (rns [(r : Int)]).toArray 21))
   have HO1 := Xk (zF ho.out.1 hb1)
   have HB := Xk (ho.out.2.trans (hb1.mono (by rw [HLO.out]; exact ho.out.2.size)))
   have H2 : acc.length + 1 <= maxLen := by unfold maxLen; omega
   have H3 : (acc.length + 1) * 4 <= 140737488355328 := by omega
   have H4 : LO <= (w1.alloc (.cells (rns [(r : Int)]).toArray 21)).heap.size := by have := HB.out.size; rw [HLO.out]; simp; omega
   have NW := Xk (qj w1 (rns [(r : Int)]) 21)
   have O1 := Xk (vE [(r : Int)])
   have ST := Xk (fun v' w3 a b => STEP.out w1 _ acc [(r : Int)] HO1.out HB.out v' w3 a b)
   clear ho hb1
   go_wp2_with (at_builtin; refine wpList_append_own _ rfl (.tmp 18) (.tmp 20) 143 rfl LO 21 i0 (.int .i32 0) 1 4 Tryz.underlying143 hi0 hz0 hz1 hz2 rfl (by decide) _ _ _ rfl HO.out ⟨w1.heap.size, 0, none⟩ 1 1 (rns [(r : Int)]) rfl rfl NW.out O1.out H2 H3 H4 ?_; intro v' w3 hown3 hg3 _)
   have SS := Xk (ST.out v' w3 hown3 hg3)
   clear hown3 hg3
   go_wp2_with fail
   go_roundw
   case rel => exact ⟨k + d, _, by omega, by go_num, NX, SS⟩
   case measure => (simp [intOf] <;> omega)
  ·have ek : k = n := by omega
   subst ek
   have FE : Hid (acc = zr s) := Xk (XE.out acc hx.out)
   rw [FE.out] at ho
   clear hx
   go_wp2_with fail
   go_ret
   exact ⟨_, rfl, ho.out.1, ho.out.2⟩
end
section
open Go.RowKit Go.Sort
def bts (l : List Int) : List Value := l.map (Value.int .u8)
theorem vF (a b : List Int) : bts (a ++ b) = bts a ++ bts b := by simp [bts]
theorem bts_one (l : List Int) : ∀ u ∈ bts l, u.oneCell' = true := fun u hu => by
 obtain ⟨y, _, rfl⟩ := List.mem_map.1 hu
 rfl
theorem infoB : (Tryz.prog.info? 5).map (fun i => (i.zero, i.size, i.bytes)) = some (some (.int .u8 0), 1, 1) := by kernel_rfl
theorem or_u8 (y k : Nat) (h : (k = 192 /\ y < 32) \/ (k = 224 /\ y < 16) \/ (k = 240 /\ y < 8)) : bits .or .u8 (y : Int) (k : Int) = ((k + y : Nat) : Int) := by
 rw [(bits_nat .u8 8 (by decide) wraps_u8 y k (by omega) (by omega)).2, Nat.or_comm]
 congr 1
 rcases h with ⟨rfl, h⟩ | ⟨rfl, h⟩ | ⟨rfl, h⟩
 ·exact (Nat.two_pow_add_eq_or_of_lt (i := 5) h 6).symm
 ·exact (Nat.two_pow_add_eq_or_of_lt (i := 4) h 14).symm
 ·exact (Nat.two_pow_add_eq_or_of_lt (i := 3) h 30).symm
theorem kj (c : Int) (h0 : 0 <= c) (h1 : c < 2147483648) : bits .and .i32 c 63 = c % 64 :=
  bits_mask .i32 31 (by decide) wraps_i32 6 (by decide) c h0 (by have e : (2 : Int) ^ 31 = 2147483648 := by decide
                                                                 rw [e]; exact h1)
def PutRet (LO : Nat) (w : World) (ys : List Int) (e : Ending) (w' : World) : Prop := ∃ v', e = .returned v' /\ w'.ownsRow LO 5 1 v' ys.length (bts ys) /\ Below LO w w'
set_option maxHeartbeats 8000000 in
set_option maxRecDepth 100000 in
theorem d_put (LO : Nat) (v : Value) (xs : List Int) (r : Int) (hr0 : -2147483648 <= r) (hr1 : r < 2147483648) (w : World) (hlo : LO <= w.heap.size) (hm : xs.length <= 140737488355000) (h : w.ownsRow LO 5 1 v xs.length (bts xs)) :
    Calls Tryz.prog 120 #[v, .int .i32 r] w (PutRet LO w (xs ++ zR r)) := by
  obtain ⟨i0, hi0, hz0, hz1, hz2⟩ := info_parts infoB
  have O1 := Xk (fun (W : World) (l : List Int) (o : Obj) (hb : Below LO w W) => show ∀ (v' : Value) (w3 : World), w3.ownsRow LO 5 1 v' (xs.length + l.length) (bts xs ++ bts l) -> (W.alloc o).grownBy w3 v.ownBlock -> PutRet LO w (xs ++ l) (.returned v') w3 from
    fun v' w3 a b => ⟨v', rfl, by rw [List.length_append, vF]; exact a, (hb.alloc (Nat.le_trans hlo hb.size) o).grown b (by have := hb.size; simp; omega) (fun g hg => (h.lt g hg).1)⟩)
  have NL := Xk (fun (l : List Int) => qj w (bts l) 5)
  have HX := Xk (fun (o : Obj) => h.alloc o)
  obtain ⟨n, hn⟩ : ∃ n, n = xs.length := ⟨_, rfl⟩
  have H2 : Hid (∀ k, k <= 4 -> xs.length + k <= maxLen /\ (xs.length + k) * 1 <= 140737488355328) := Xk (fun k hk => by unfold maxLen; omega)
  have H4 : Hid (∀ o : Obj, LO <= (w.alloc o).heap.size) := Xk (fun o => by simp; omega)
  have H1 := Xk (fun (l : List Int) => bts_one l)
  have BI : Hid (zR r = if zm r < 128 then [zm r] else if zm r < 2048 then [192 + zm r / 64, 128 + zm r % 64] else if zm r < 65536 then [224 + zm r / 4096, 128 + zm r / 64 % 64, 128 + zm r % 64]
    else [240 + zm r / 262144, 128 + zm r / 4096 % 64, 128 + zm r / 64 % 64, 128 + zm r % 64]) := Xk rfl
  have hcr := x6 r
  have CI : Hid (zm r = if 0 <= r /\ r <= 1114111 /\ (r < 55296 \/ 57343 < r) then r else 65533) := Xk rfl
  generalize zR r = B at *
  generalize zm r = c at *
  clear h hn hm hlo
  go_enter Tryz.func120, Tryz.ntmps120
  go_upto_region 1 with fail
  obtain ⟨β, hβ⟩ : ∃ β : Bool, β = !decide (0 <= r /\ r <= 1114111 /\ (r < 55296 \/ 57343 < r)) := ⟨_, rfl⟩
  have HB := Xk hβ
  clear hβ
  go_cut [20] from 7 to 20 (fun s20 wx => s20 = .bool β /\ wx = w)
  case first =>
    by_cases c1 : r < 0
    · have E : Hid (β = true) := Xk (by rw [HB.out, decide_eq_false (by omega)]; rfl)
      go_wp2_with fail
      go_meet
      exact ⟨by rw [E.out], rfl⟩
    · by_cases c2 : r < 55296
      · have E : Hid (β = false) := Xk (by rw [HB.out, decide_eq_true (by omega)]; rfl)
        go_wp2_with fail
        go_meet
        exact ⟨by rw [E.out, decide_eq_false (by omega)], rfl⟩
      · by_cases c3 : r <= 57343
        · have E : Hid (β = true) := Xk (by rw [HB.out, decide_eq_false (by omega)]; rfl)
          go_wp2_with fail
          go_meet
          exact ⟨by rw [E.out], rfl⟩
        · by_cases c4 : 1114111 < r
          · have E : Hid (β = true) := Xk (by rw [HB.out, decide_eq_false (by omega)]; rfl)
            go_wp2_with fail
            go_meet
            exact ⟨by rw [E.out], rfl⟩
          · have E : Hid (β = false) := Xk (by rw [HB.out, decide_eq_true (by omega)]; rfl)
            go_wp2_with fail
            go_meet
            exact ⟨by rw [E.out], rfl⟩
  case rest =>
   obtain ⟨rfl, rfl⟩ := hcut
   obtain ⟨W, hW⟩ : ∃ W, W = wc := ⟨_, rfl⟩
   subst hW
   go_upto_if 20 with fail
   go_cut [1] from 20 to 20 (fun s1 wx => s1 = .int .i32 c /\ wx = W)
   case first =>
    cases hb : β with
    | true =>
      have E : Hid (c = 65533) := Xk (by
        have h := HB.out
        rw [hb] at h
        rw [CI.out, if_neg (fun z => by rw [decide_eq_true z] at h; cases h)])
      clear hb HB
      go_wp2_with fail
      go_meet
      exact ⟨by rw [E.out], rfl⟩
    | false =>
      have E : Hid (c = r) := Xk (by
        have h := HB.out
        rw [hb] at h
        rw [CI.out, if_pos (Decidable.byContradiction fun z => by rw [decide_eq_false z] at h; cases h)])
      clear hb HB
      go_wp2_with fail
      go_meet
      exact ⟨by rw [E.out], rfl⟩
   case rest =>
    obtain ⟨rfl, rfl⟩ := hcut
    clear HB
    obtain ⟨h0, h1⟩ := hcr
    clear CI hr0 hr1
    have a0 := kj c h0 (by omega)
    have a1 := kj (c / 64) (by omega) (by omega)
    have a2 := kj (c / 64 / 64) (by omega) (by omega)
    have o0 := Go.u8_or128 (c % 64) (by omega) (by omega)
    have o1 := Go.u8_or128 (c / 64 % 64) (by omega) (by omega)
    have o2 := Go.u8_or128 (c / 64 / 64 % 64) (by omega) (by omega)
    have x63 : bits .xor .u8 IntKind.u8.max 63 = 192 := by decide
    have x31 : bits .xor .u8 IntKind.u8.max 31 = 224 := by decide
    have x15 : bits .xor .u8 IntKind.u8.max 15 = 240 := by decide
    have sgn : ¬ IntKind.u8.signed = true := by decide
    by_cases t1 : c < 128
    · have E : Hid (B = [c]) := Xk (by rw [BI.out, if_pos t1])
      go_wp2_with (at_builtin; refine wpList_append_own _ rfl (.tmp 23) (.tmp 26) 66 rfl LO 5 i0 (.int .u8 0) 1 1 Tryz.underlying66 hi0 hz0 hz1 hz2 rfl (by decide) _ _ _ rfl (HX.out _) ⟨wc.heap.size, 0, none⟩ 1 1 (bts [c]) rfl rfl (NL.out [c]) (H1.out _) (H2.out 1 (by decide)).1 (H2.out 1 (by decide)).2 (H4.out _) ?_; intro v' w3 hown3 hg3 _)
      have R := Xk (O1.out wc [c] _ (Below.refl _ _) v' w3 hown3 hg3)
      clear hown3 hg3
      go_wp2_with fail
      go_ret
      rw [E.out]
      exact R.out
    by_cases t2 : c < 2048
    · have E : Hid (B = [192 + c / 64, 128 + c % 64]) := Xk (by rw [BI.out, if_neg t1, if_pos t2])
      have ql : bits .or .u8 (c / 64) 192 = 192 + c / 64 := by have := or_u8 (c / 64).toNat 192 (by omega); rw [show (((c / 64).toNat : Nat) : Int) = c / 64 by omega] at this; simpa using (this.trans (by omega))
      have NC : Hid (∀ j u, (bts [192 + c / 64, 128 + c % 64])[j]? = some u -> (wc.alloc (.cells #[.int .u8 (192 + c / 64), .int .u8 (128 + c % 64), .int .u8 0, .int .u8 0] 177)).cell? ((⟨wc.heap.size, 0, none⟩ : Addr).add j) = some u) := Xk (fun j u hj => qj wc [.int .u8 (192 + c / 64), .int .u8 (128 + c % 64), .int .u8 0, .int .u8 0] 177 j u (by
        have : j < 2 := (List.getElem?_eq_some_iff.1 hj).1
        have q : j = 0 \/ j = 1 := by omega
        rcases q with rfl | rfl <;> exact hj))
      go_wp2_with (at_builtin; refine wpList_append_own _ rfl (.tmp 67) (.tmp 69) 66 rfl LO 5 i0 (.int .u8 0) 1 1 Tryz.underlying66 hi0 hz0 hz1 hz2 rfl (by decide) _ _ _ rfl (HX.out _) ⟨wc.heap.size, 0, none⟩ 2 4 (bts [192 + c / 64, 128 + c % 64]) rfl rfl NC.out (H1.out _) (H2.out 2 (by decide)).1 (H2.out 2 (by decide)).2 (H4.out _) ?_; intro v' w3 hown3 hg3 _)
      have R := Xk (O1.out wc [192 + c / 64, 128 + c % 64] _ (Below.refl _ _) v' w3 hown3 hg3)
      clear hown3 hg3
      go_wp2_with fail
      go_ret
      rw [E.out]
      exact R.out
    by_cases t3 : c < 65536
    · have E : Hid (B = [224 + c / 64 / 64, 128 + c / 64 % 64, 128 + c % 64]) := Xk (by rw [BI.out, if_neg t1, if_neg t2, if_pos t3, show c / 4096 = c / 64 / 64 by omega])
      have ql : bits .or .u8 (c / 64 / 64) 224 = 224 + c / 64 / 64 := by have := or_u8 (c / 64 / 64).toNat 224 (by omega); rw [show (((c / 64 / 64).toNat : Nat) : Int) = c / 64 / 64 by omega] at this; simpa using (this.trans (by omega))
      have NC : Hid (∀ j u, (bts [224 + c / 64 / 64, 128 + c / 64 % 64, 128 + c % 64])[j]? = some u -> (wc.alloc (.cells #[.int .u8 (224 + c / 64 / 64), .int .u8 (128 + c / 64 % 64), .int .u8 (128 + c % 64), .int .u8 0] 177)).cell? ((⟨wc.heap.size, 0, none⟩ : Addr).add j) = some u) := Xk (fun j u hj => qj wc [.int .u8 (224 + c / 64 / 64), .int .u8 (128 + c / 64 % 64), .int .u8 (128 + c % 64), .int .u8 0] 177 j u (by
        have : j < 3 := (List.getElem?_eq_some_iff.1 hj).1
        have q : j = 0 \/ j = 1 \/ j = 2 := by omega
        rcases q with rfl | rfl | rfl <;> exact hj))
      go_wp2_with (at_builtin; refine wpList_append_own _ rfl (.tmp 67) (.tmp 69) 66 rfl LO 5 i0 (.int .u8 0) 1 1 Tryz.underlying66 hi0 hz0 hz1 hz2 rfl (by decide) _ _ _ rfl (HX.out _) ⟨wc.heap.size, 0, none⟩ 3 4 (bts [224 + c / 64 / 64, 128 + c / 64 % 64, 128 + c % 64]) rfl rfl NC.out (H1.out _) (H2.out 3 (by decide)).1 (H2.out 3 (by decide)).2 (H4.out _) ?_; intro v' w3 hown3 hg3 _)
      have R := Xk (O1.out wc [224 + c / 64 / 64, 128 + c / 64 % 64, 128 + c % 64] _ (Below.refl _ _) v' w3 hown3 hg3)
      clear hown3 hg3
      go_wp2_with fail
      go_ret
      rw [E.out]
      exact R.out
    have E : Hid (B = [240 + c / 64 / 64 / 64, 128 + c / 64 / 64 % 64, 128 + c / 64 % 64, 128 + c % 64]) := Xk (by rw [BI.out, if_neg t1, if_neg t2, if_neg t3, show c / 262144 = c / 64 / 64 / 64 by omega, show c / 4096 = c / 64 / 64 by omega])
    have ql : bits .or .u8 (c / 64 / 64 / 64) 240 = 240 + c / 64 / 64 / 64 := by have := or_u8 (c / 64 / 64 / 64).toNat 240 (by omega); rw [show (((c / 64 / 64 / 64).toNat : Nat) : Int) = c / 64 / 64 / 64 by omega] at this; simpa using (this.trans (by omega))
    have NC : Hid (∀ j u, (bts [240 + c / 64 / 64 / 64, 128 + c / 64 / 64 % 64, 128 + c / 64 % 64, 128 + c % 64])[j]? = some u -> (wc.alloc (.cells #[.int .u8 (240 + c / 64 / 64 / 64), .int .u8 (128 + c / 64 / 64 % 64), .int .u8 (128 + c / 64 % 64), .int .u8 (128 + c % 64)] 177)).cell? ((⟨wc.heap.size, 0, none⟩ : Addr).add j) = some u) := Xk (fun j u hj => qj wc [.int .u8 (240 + c / 64 / 64 / 64), .int .u8 (128 + c / 64 / 64 % 64), .int .u8 (128 + c / 64 % 64), .int .u8 (128 + c % 64)] 177 j u (by
      have : j < 4 := (List.getElem?_eq_some_iff.1 hj).1
      have q : j = 0 \/ j = 1 \/ j = 2 \/ j = 3 := by omega
      rcases q with rfl | rfl | rfl | rfl <;> exact hj))
    go_wp2_with (at_builtin; refine wpList_append_own _ rfl (.tmp 67) (.tmp 69) 66 rfl LO 5 i0 (.int .u8 0) 1 1 Tryz.underlying66 hi0 hz0 hz1 hz2 rfl (by decide) _ _ _ rfl (HX.out _) ⟨wc.heap.size, 0, none⟩ 4 4 (bts [240 + c / 64 / 64 / 64, 128 + c / 64 / 64 % 64, 128 + c / 64 % 64, 128 + c % 64]) rfl rfl NC.out (H1.out _) (H2.out 4 (by decide)).1 (H2.out 4 (by decide)).2 (H4.out _) ?_; intro v' w3 hown3 hg3 _)
    have R := Xk (O1.out wc [240 + c / 64 / 64 / 64, 128 + c / 64 / 64 % 64, 128 + c / 64 % 64, 128 + c % 64] _ (Below.refl _ _) v' w3 hown3 hg3)
    clear hown3 hg3
    go_wp2_with fail
    go_ret
    rw [E.out]
    exact R.out
end
section
open Go.RowKit Go.Sort
theorem QM (l : List Int) : l.foldl (fun r n => r.push (UInt8.ofNat n.toNat)) ByteArray.empty = barr l := by
 have h : ∀ (l : List Int) (s : ByteArray), l.foldl (fun r n => r.push (UInt8.ofNat n.toNat)) s = ⟨s.data ++ (l.map fun n => UInt8.ofNat n.toNat).toArray⟩ := by
  intro l
  induction l with
  | nil => intro s; simp
  | cons n l ih =>
   intro s
   rw [List.foldl_cons, ih]
   simp [ByteArray.push]
 rw [h]
 unfold barr
 have : ByteArray.empty.data = #[] := rfl
 rw [this]
 simp
theorem xB {LO : Nat} {v : Value} {l : List Int} {w : World} (h : w.ownsRow LO 5 1 v l.length (bts l)) : (convert 66 9 v).run Tryz.prog w = .ok (.string (barr l)) w := by
 rcases (j9 h).2 with ⟨rfl, z⟩ | ⟨g, c, rfl, _, _, _, _⟩
 ·have e : l = [] := List.length_eq_zero_iff.1 z
  subst e
  exact Lib.run_convert_nil_bytes w _ _ 5 0 Tryz.underlying66 Tryz.underlying5 Tryz.underlying9
 ·rw [run_convert_bytes_string w _ _ 5 (some ⟨g, 0, none⟩) l.length c Tryz.underlying66 Tryz.underlying5 Tryz.underlying9]
  have hl := run_loadCells_list (P := Tryz.prog) w ⟨g, 0, none⟩ (bts l) (h.cells (g := g) rfl)
  have e : (bts l).length = l.length := by simp [bts]
  rw [e] at hl
  rw [run_bytesToString w _ l.length c l hl, QM]
theorem qI {w : World} {B : Nat} {A : Option Addr} {l : List Int} (h : Sees w B A (rns l)) (k : Nat) (hk : k < l.length) : ∃ ad, A = some ad /\ ad.block < B /\ w.cell? (ad.add k) = some (.int .i32 (l.getD k 0)) := by
 obtain ⟨ad, e, b, c⟩ := h.at (k := k) (by simpa [rns] using hk)
 refine ⟨ad, e, b, ?_⟩
 rw [c]
 simp [rns, hk]
theorem vG (l : List Int) (k : Nat) (hk : k < l.length) : l.getD k 0 ∈ l := by
 have e : l.getD k 0 = l[k] := by simp [hk]
 rw [e]
 exact List.getElem_mem _
set_option maxHeartbeats 8000000 in
set_option maxRecDepth 100000 in
theorem d_Text (A : Option Addr) (c : Nat) (l : List Int) (hl : l.length <= 35184372000000) (hr : ∀ r ∈ l, 0 <= r /\ r < 2097152) (w : World) (S : Sees w w.heap.size A (rns l)) :
  Calls Tryz.prog 103 #[.slice A l.length c] w fun e w' => e = .returned (.string (barr (zi l))) /\ Below w.heap.size w w' := by
 have F1 := Xk (fun (k : Nat) (hk : k < l.length) => qI S k hk)
 have HR := Xk hr
 clear S hr
 obtain ⟨n, hn⟩ : ∃ n, n = l.length := ⟨_, rfl⟩
 have HN := Xk hn
 rw [<- hn] at hl F1 ⊢
 clear hn
 have XT : Hid (∀ k (hk : k < l.length), zi (l.take (k + 1)) = zi (l.take k) ++ zR (l.getD k 0)) := Xk (fun k hk => by
  have e : l.getD k 0 = l[k] := by simp [hk]
  rw [e, List.take_succ_eq_append_getElem hk, vj])
 have XE : Hid (zi (l.take n) = zi l) := Xk (by rw [HN.out, List.take_length])
 have XL : Hid (∀ k, k <= n -> (zi (l.take k)).length <= 4 * k) := Xk (fun k hk => Nat.le_trans (x7 _) (by rw [List.length_take]; omega))
 obtain ⟨LO, hLO⟩ : ∃ LO, LO = w.heap.size := ⟨_, rfl⟩
 have HLO := Xk hLO
 have O0 : Hid (w.ownsRow LO 5 1 (.slice none 0 0) (zi (l.take 0)).length (bts (zi (l.take 0))) /\ Below LO w w) := Xk ⟨World.ownsRow_nil _ _ _ _, Below.refl _ _⟩
 rw [<- hLO] at F1 ⊢
 clear hLO
 go_enter Tryz.func103, Tryz.ntmps103
 go_wp2_with fail
 go_loopw [3, 5, 8] (fun s3 s5 s8 wr => ∃ (k : Nat), k <= n /\ s8 = .int .i64 k /\ Hid (wr.ownsRow LO 5 1 s3 (zi (l.take k)).length (bts (zi (l.take k))) /\ Below LO w wr)) (fun _ _ s8 _ => n - (intOf s8).toNat)
 case atStart => exact ⟨0, by omega, rfl, O0⟩
 case round =>
  obtain ⟨k, hk, rfl, ho⟩ := hrel
  by_cases lt : k < n
  ·have lt' : k < l.length := by rw [<- HN.out]; exact lt
   obtain ⟨ad, rfl, hab, c0⟩ := F1.out k lt
   have cx := (ho.out.2.cell (p := ad.add k) (by rw [zg]; exact hab)).trans c0
   have bd := HR.out (l.getD k 0) (vG l k lt')
   have PU := Xk ((d_put LO _ (zi (l.take k)) (l.getD k 0) (by omega) (by omega) wr (by have := ho.out.2.size; rw [HLO.out]; omega) (by have := XL.out k hk; omega) ho.out.1).mono (R' := fun e w' => ∃ v', e = .returned v' /\ Hid (w'.ownsRow LO 5 1 v' (zi (l.take (k + 1))).length (bts (zi (l.take (k + 1)))) /\ Below LO w w'))
    (fun e w' ⟨v', h1, h2, h3⟩ => ⟨v', h1, Xk ⟨by rw [XT.out k lt']; exact h2, ho.out.2.trans h3⟩⟩))
   clear c0 bd
   generalize l.getD k 0 = r at *
   go_wp2_with fail
   refine PU.out.mono ?_; rintro e w1 ⟨v', rfl, SS⟩
   go_wp2_with fail
   go_roundw
   case rel => exact ⟨k + 1, by omega, by go_num, SS⟩
   case measure => (simp [intOf] <;> omega)
  ·have ek : k = n := by omega
   subst ek
   rw [XE.out] at ho
   have hcv := xB ho.out.1
   have BB := Xk ho.out.2
   clear ho
   go_wp2_with fail
   go_ret
   exact ⟨rfl, BB.out⟩
end
section
open Go Go.RowKit Go.Sort
section
def rwV (x : RwT) : List Value := [.int .i64 (x.lo : Int), .int .i64 (x.hi : Int), .int .i64 (x.n : Int), .int .i64 (x.lo2 : Int), .int .i64 (x.hi2 : Int), .int .i64 (x.off : Int)]
def stC (p : Int × Int × Int) : List Value := [.int .i32 p.1, .int .i32 p.2.1, .int .i8 p.2.2]
set_option maxHeartbeats 8000000 in
set_option maxRecDepth 100000 in
theorem ref_Rows (w : World) : Calls Tryz.prog 138 #[] w fun e w' => e = .returned (.slice (some ⟨w.heap.size, 0, none⟩) 9 9) /\ w' = w.alloc (.cells (zY.flatMap rwV).toArray 182) := by
 go_enter Tryz.func138, Tryz.ntmps138
 go_wp2_with fail
 go_ret
 exact ⟨rfl, rfl⟩
set_option maxHeartbeats 8000000 in
set_option maxRecDepth 100000 in
theorem ref_low (w : World) : Calls Tryz.prog 146 #[] w fun e w' => e = .returned (.slice (some ⟨w.heap.size, 0, none⟩) 28 28) /\ w' = w.alloc (.cells (lowK.flatMap stC).toArray 195) := by
 go_enter Tryz.func146, Tryz.ntmps146
 go_wp2_with fail
 go_ret
 exact ⟨rfl, rfl⟩
set_option maxHeartbeats 8000000 in
set_option maxRecDepth 100000 in
theorem QN (w : World) : Calls Tryz.prog 147 #[] w fun e w' => e = .returned (.slice (some ⟨w.heap.size, 0, none⟩) 33 33) /\ w' = w.alloc (.cells (midK.flatMap stC).toArray 195) := by
 go_enter Tryz.func147, Tryz.ntmps147
 go_wp2_with fail
 go_ret
 exact ⟨rfl, rfl⟩
set_option maxHeartbeats 8000000 in
set_option maxRecDepth 100000 in
theorem ref_high (w : World) : Calls Tryz.prog 148 #[] w fun e w' => e = .returned (.slice (some ⟨w.heap.size, 0, none⟩) 23 23) /\ w' = w.alloc (.cells (jH.flatMap stC).toArray 195) := by
 go_enter Tryz.func148, Tryz.ntmps148
 go_wp2_with fail
 go_ret
 exact ⟨rfl, rfl⟩
end
end
section
open Go Go.RowKit Go.Sort
section
structure Bq (w : World) (b : Nat) (vs : List Value) : Prop where
 c : ∀ i v, vs[i]? = some v -> w.cell? ⟨b, i, none⟩ = some v
theorem Bq.new (w : World) (vs : List Value) (T : TypeId) : Bq (w.alloc (.cells vs.toArray T)) w.heap.size vs := ⟨fun i v h => (z7 w vs T i v h).1⟩
theorem Bq.keep {w w' : World} {B b : Nat} {vs : List Value} (h : Bq w b vs) (hb : Below B w w') (hB : b < B) : Bq w' b vs := ⟨fun i v e => (hb.cell (p := ⟨b, i, none⟩) hB).trans (h.c i v e)⟩
theorem Bq.draw {w : World} {b : Nat} {vs : List Value} (h : Bq w b vs) (n : Nat) : Bq (w.drewN n) b vs := ⟨h.c⟩
theorem qt {B : Nat} {w : World} (q : Nat) : ∀ W, Below B w W -> Below B w (W.drewN q) := by
 induction q with
 | zero => exact fun W h => h
 | succ q ih => exact fun W h => (ih W h).drew
def SeesR (w : World) (g : Nat) (L : List (Int × Int × Int)) : Prop := ∀ j, (hj : j < L.length) -> w.cell? ⟨g, j * 3, none⟩ = some (.int .i32 (L[j]).1) /\ w.cell? ⟨g, j * 3 + 1, none⟩ = some (.int .i32 (L[j]).2.1) /\ w.cell? ⟨g, j * 3 + 2, none⟩ = some (.int .i8 (L[j]).2.2)
theorem stC_at : ∀ (L : List (Int × Int × Int)) (j : Nat) (hj : j < L.length), (L.flatMap stC)[j * 3]? = some (.int .i32 (L[j]).1) /\ (L.flatMap stC)[j * 3 + 1]? = some (.int .i32 (L[j]).2.1) /\ (L.flatMap stC)[j * 3 + 2]? = some (.int .i8 (L[j]).2.2)
 | [], j, h => by cases h
 | p :: l, 0, _ => ⟨rfl, rfl, rfl⟩
 | p :: l, j + 1, h => by
  have ih := stC_at l j (by simpa using h)
  have e : (p :: l).flatMap stC = .int .i32 p.1 :: .int .i32 p.2.1 :: .int .i8 p.2.2 :: l.flatMap stC := rfl
  rw [e, show (j + 1) * 3 = j * 3 + 1 + 1 + 1 by omega]
  simpa using ih
theorem SeesR.new (w : World) (L : List (Int × Int × Int)) (T : TypeId) : SeesR (w.alloc (.cells (L.flatMap stC).toArray T)) w.heap.size L := fun j hj => by
 have h := stC_at L j hj
 exact ⟨(z7 w (L.flatMap stC) T _ _ h.1).1, (z7 w (L.flatMap stC) T _ _ h.2.1).1, (z7 w (L.flatMap stC) T _ _ h.2.2).1⟩
def tabK (r : Int) : List (Int × Int × Int) := if 10175 < r then jH else if 8960 <= r then midK else lowK
theorem tabK_len (r : Int) : (tabK r).length <= 33 := by
 unfold tabK
 split
 ·decide
 ·split <;> decide
theorem QO {L : List (Int × Int × Int)} {r : Int} {k : Nat} (hk : k < L.length) : qy (L.drop k) r = if (L[k]).1 <= r /\ r <= (L[k]).2.1 then (L[k]).2.2 else qy (L.drop (k + 1)) r := by
 rw [List.drop_eq_getElem_cons hk]
 obtain ⟨a, e, c⟩ := L[k]
 rfl
set_option maxHeartbeats 16000000 in
set_option maxRecDepth 100000 in
theorem jM (r : Int) (w : World) : Calls Tryz.prog 140 #[.int .i32 r] w fun e w' => e = .returned (.int .i8 (za r)) /\ Below w.heap.size w w' := by
 have KI : Hid (za r = if r < 0 \/ 1114111 < r then 0 else if 32 <= r /\ r < 127 then 9 else qy (tabK r) r) := Xk rfl
 generalize za r = kd at *
 by_cases h1 : r < 0
 ·have R : Hid (kd = 0) := Xk (by rw [KI.out, if_pos (Or.inl h1)])
  go_enter Tryz.func140, Tryz.ntmps140
  go_wp2_with fail
  go_ret
  exact ⟨by rw [R.out]; rfl, Below.refl _ _⟩
 by_cases h2 : 1114111 < r
 ·have R : Hid (kd = 0) := Xk (by rw [KI.out, if_pos (Or.inr h2)])
  go_enter Tryz.func140, Tryz.ntmps140
  go_wp2_with fail
  go_ret
  exact ⟨by rw [R.out]; rfl, Below.refl _ _⟩
 by_cases h3 : 32 <= r /\ r < 127
 ·have R : Hid (kd = 9) := Xk (by rw [KI.out, if_neg (by omega), if_pos h3])
  obtain ⟨h4, h5⟩ := h3
  go_enter Tryz.func140, Tryz.ntmps140
  go_wp2_with fail
  go_ret
  exact ⟨by rw [R.out]; rfl, Below.refl _ _⟩
 have R : Hid (kd = qy (tabK r) r) := Xk (by rw [KI.out, if_neg (by omega), if_neg h3])
 have h3 : 32 <= r -> ¬ r < 127 := fun a b => h3 ⟨a, b⟩
 clear KI
 have TL := Xk (tabK_len r)
 obtain ⟨L, hL⟩ : ∃ L, L = tabK r := ⟨_, rfl⟩
 have HL := Xk hL
 rw [<- hL] at R TL
 clear hL
 have LW := Xk (ref_low w)
 go_enter Tryz.func140, Tryz.ntmps140
 go_upto_region 3 with fail
 go_cut [16] from 11 to 16 (fun s16 wx => s16 = .bool false /\ wx = w)
 case first =>
  by_cases h4 : 32 <= r
  ·have h5 := h3 h4
   go_wp2_with fail
   go_meet
   exact ⟨rfl, rfl⟩
  ·go_wp2_with fail
   go_meet
   exact ⟨rfl, rfl⟩
 case rest =>
 obtain ⟨rfl, hwc⟩ := hcut
 rw [hwc]
 clear hwc
 go_wp2_with fail
 refine LW.out.mono ?_; rintro e w1 ⟨rfl, hw⟩
 have b1 : Below w.heap.size w w1 := by rw [hw]; exact (Below.refl _ w).alloc Xm _
 have S1 := SeesR.new w lowK 195
 rw [<- hw] at S1
 have g1 : w.heap.size < w1.heap.size := by rw [hw]; simp
 have HB1 := Xk b1
 have HS1 := Xk S1
 have HG1 := Xk g1
 clear hw LW b1 S1 g1
 go_upto_if 19 with fail
 go_cut [3] from 18 to 20 (fun s3 wx => ∃ (g n : Nat), s3 = .slice (some ⟨g, 0, none⟩) n n /\ Hid (n = (if 8960 <= r then midK else lowK).length) /\ Hid (SeesR wx g (if 8960 <= r then midK else lowK)) /\ Hid (g < wx.heap.size) /\ Hid (Below w.heap.size w wx))
 case first =>
  by_cases c1 : 8960 <= r
  ·have MW := Xk (QN w1)
   go_wp2_with fail
   refine MW.out.mono ?_; rintro e w2 ⟨rfl, hw⟩
   have b2 : Below w1.heap.size w1 w2 := by rw [hw]; exact (Below.refl _ w1).alloc Xm _
   have S2 := SeesR.new w1 midK 195
   rw [<- hw] at S2
   have B2 := Xk (HB1.out.trans (b2.mono HB1.out.size))
   have G2 : Hid (w1.heap.size < w2.heap.size) := Xk (by rw [hw]; simp)
   have S2 := Xk S2
   clear hw MW b2
   go_wp2_with fail
   go_meet
   exact ⟨_, _, rfl, Xk (by rw [if_pos c1]; rfl), by rw [if_pos c1]; exact S2, G2, B2⟩
  ·have EM := Xk (show (if 8960 <= r then midK else lowK) = lowK from if_neg c1)
   go_wp2_with fail
   go_meet
   exact ⟨_, _, rfl, Xk (by rw [EM.out]; rfl), by rw [EM.out]; exact HS1, HG1, HB1⟩
 case rest =>
 obtain ⟨g1, n1, rfl, hn1, hS1, hG1, hB1⟩ := hcut
 obtain ⟨w2, hW⟩ : ∃ w2, w2 = wc := ⟨_, rfl⟩
 rw [<- hW] at hS1 hG1 hB1 ⊢
 clear hW HB1 HS1 HG1
 go_upto_if 22 with fail
 go_cut [3] from 21 to 23 (fun s3 wx => ∃ (g n : Nat), s3 = .slice (some ⟨g, 0, none⟩) n n /\ n = L.length /\ Hid (SeesR wx g L) /\ Hid (Below w.heap.size w wx))
 case first =>
  by_cases c2 : 10175 < r
  ·have HW := Xk (ref_high w2)
   have EL : L = jH := by rw [HL.out]; unfold tabK; rw [if_pos c2]
   go_wp2_with fail
   refine HW.out.mono ?_; rintro e w3 ⟨rfl, hw⟩
   have b3 : Below w2.heap.size w2 w3 := by rw [hw]; exact (Below.refl _ w2).alloc Xm _
   have S3 := SeesR.new w2 jH 195
   rw [<- hw] at S3
   have B3 := Xk (hB1.out.trans (b3.mono hB1.out.size))
   have S3 := Xk S3
   clear hw HW b3
   go_wp2_with fail
   go_meet
   exact ⟨_, _, rfl, by rw [EL]; rfl, by rw [EL]; exact S3, B3⟩
  ·have EL : L = if 8960 <= r then midK else lowK := by rw [HL.out]; unfold tabK; rw [if_neg c2]
   go_wp2_with fail
   go_meet
   exact ⟨_, _, rfl, by rw [EL]; exact hn1.out, by rw [EL]; exact hS1, hB1⟩
 case rest =>
  obtain ⟨g, n, rfl, hn, hS, hB⟩ := hcut
  have n33 : n <= 33 := by rw [hn]; exact TL.out
  have HN := Xk hn
  obtain ⟨W1, hW⟩ : ∃ W1, W1 = wc := ⟨_, rfl⟩
  rw [<- hW] at hS hB ⊢
  clear hW hn
  go_wp2_with fail
  go_loopw [4] (fun s4 wr => ∃ k : Nat, k <= n /\ s4 = .int .i64 (k : Int) /\ Hid (qy (L.drop k) r = kd) /\ wr = W1) (fun s4 _ => n - (intOf s4).toNat)
  case atStart => exact ⟨0, Nat.zero_le _, rfl, Xk (by rw [List.drop_zero]; exact R.out.symm), rfl⟩
  case round =>
   obtain ⟨k, hk, rfl, hI, hw⟩ := hrel
   rw [hw]
   clear hw
   by_cases lt : k < n
   ·have kl : k < L.length := by rw [<- HN.out]; exact lt
    have ST := hI.out
    rw [QO kl] at ST
    have ST := Xk ST
    obtain ⟨z0, z1, z2⟩ := hS.out k kl
    generalize (L[k]).1 = a at *
    generalize (L[k]).2.1 = b at *
    generalize (L[k]).2.2 = d at *
    have q0 : (0 : Int) <= (k : Int) := by omega
    have q5 : (k : Int) < (n : Int) := by omega
    have tn : (k : Int).toNat = k := by omega
    have wk := Xl ((k : Int) + 1) (by omega)
    clear hI
    by_cases c1 : a <= r
    ·by_cases c2 : r <= b
     ·have R2 : Hid (kd = d) := Xk (by rw [<- ST.out, if_pos ⟨c1, c2⟩])
      go_wp2_with fail
      go_ret
      exact ⟨by rw [R2.out]; rfl, hB.out⟩
     ·have NX := Xk (show qy (L.drop (k + 1)) r = kd by rw [<- ST.out, if_neg (fun z => c2 z.2)])
      go_wp2_with fail
      go_roundw
      case rel => exact ⟨k + 1, by omega, by go_num, NX, by first | rfl | trivial⟩
      case measure => simp [intOf]; omega
    ·have NX := Xk (show qy (L.drop (k + 1)) r = kd by rw [<- ST.out, if_neg (fun z => c1 z.1)])
     go_wp2_with fail
     go_roundw
     case rel => exact ⟨k + 1, by omega, by go_num, NX, by first | rfl | trivial⟩
     case measure => simp [intOf]; omega
   ·have e : k = n := by omega
    subst e
    have q5 : ¬ (k : Int) < (k : Int) := by omega
    have R2 : Hid (kd = 9) := Xk (by rw [<- hI.out, HN.out, List.drop_length]; rfl)
    go_wp2_with fail
    go_ret
    exact ⟨by rw [R2.out]; rfl, hB.out⟩
end
end
section
open Go.RowKit Go.Sort
def qW (l : List (Int × Int)) : List Value := l.flatMap fun p => [.int .i32 p.1, .int .i32 p.2]
set_option maxHeartbeats 8000000 in
set_option maxRecDepth 100000 in
theorem d_told (c : Nat) (hc : c < 9) (w : World) : Calls Tryz.prog 137 #[.int .i8 (c : Int)] w fun e w' => e = .returned (.slice (some ⟨w.heap.size, 0, none⟩) (zT c).length (zT c).length) /\ w' = w.alloc (.cells (qW (zT c)).toArray 191) := by
 have q : c = 0 \/ c = 1 \/ c = 2 \/ c = 3 \/ c = 4 \/ c = 5 \/ c = 6 \/ c = 7 \/ c = 8 := by omega
 rcases q with rfl | rfl | rfl | rfl | rfl | rfl | rfl | rfl | rfl
 all_goals
  go_enter Tryz.func137, Tryz.ntmps137
  go_wp2_with fail
  go_ret
  exact ⟨rfl, rfl⟩
end
section
open Go.RowKit Go.Sort
def SeesK (w : World) (g : Nat) (l : List (Int × Int)) : Prop := ∀ j, j < l.length -> w.cell? ⟨g, j * 2, none⟩ = some (.int .i32 (l.getD j (0, 0)).1) /\ w.cell? ⟨g, j * 2 + 1, none⟩ = some (.int .i32 (l.getD j (0, 0)).2)
theorem vH : ∀ (l : List (Int × Int)) (j : Nat), j < l.length -> (qW l)[j * 2]? = some (.int .i32 (l.getD j (0, 0)).1) /\ (qW l)[j * 2 + 1]? = some (.int .i32 (l.getD j (0, 0)).2)
 | [], j, h => by cases h
 | p :: l, 0, _ => ⟨rfl, rfl⟩
 | p :: l, j + 1, h => by
  have ih := vH l j (by simpa using h)
  have e : qW (p :: l) = .int .i32 p.1 :: .int .i32 p.2 :: qW l := rfl
  rw [e, show (j + 1) * 2 = j * 2 + 1 + 1 by omega]
  simpa using ih
theorem SeesK.new (w : World) (l : List (Int × Int)) (T : TypeId) : SeesK (w.alloc (.cells (qW l).toArray T)) w.heap.size l := fun j hj => by
 have h := vH l j hj
 exact ⟨(z7 w (qW l) T _ _ h.1).1, (z7 w (qW l) T _ _ h.2).1⟩
theorem SeesK.below {w w' : World} {g B : Nat} {l : List (Int × Int)} (h : SeesK w g l) (hb : Below B w w') (hg : g < B) : SeesK w' g l := fun j hj =>
 ⟨(hb.cell (p := ⟨g, j * 2, none⟩) hg).trans (h j hj).1, (hb.cell (p := ⟨g, j * 2 + 1, none⟩) hg).trans (h j hj).2⟩
set_option maxHeartbeats 4000000 in
set_option maxRecDepth 100000 in
theorem d_w1 (g bl br i : Nat) (l : List (Int × Int)) (r : Int) (hi : i < l.length) (w : World) (hl : w.cell? ⟨bl, 0, none⟩ = some (.slice (some ⟨g, 0, none⟩) l.length l.length)) (hr : w.cell? ⟨br, 0, none⟩ = some (.int .i32 r)) (hK : SeesK w g l) :
  Calls Tryz.prog 145 #[.int .i64 (i : Int), .pointer (some ⟨bl, 0, none⟩), .pointer (some ⟨br, 0, none⟩)] w fun e w' => e = .returned (.bool (decide (r <= (l.getD i (0, 0)).2))) /\ ∃ q, w' = w.drewN q := by
 obtain ⟨_, c1⟩ := hK i hi
 clear hK
 generalize (l.getD i (0, 0)).2 = y at *
 generalize l.length = n at *
 go_enter Tryz.func145, Tryz.ntmps145
 go_wp2_with fail
 go_quiet (fail)
 go_wp2_with fail
 go_ret
 exact ⟨rfl, _, rfl⟩
theorem count_lo (p : Nat -> Bool) (n lo : Nat) (hl : lo <= n) (h1 : ∀ t, t < lo -> p t = false) (h2 : ∀ t, lo <= t -> t < n -> p t = true) : (List.range n).countP (fun i => !p i) = lo := by
 have e : List.range n = List.range lo ++ (List.range (n - lo)).map (lo + ·) := by
  rw [<- List.range_add]
  congr 1
  omega
 rw [e, List.countP_append]
 have a : (List.range lo).countP (fun i => !p i) = lo := by
  have := List.countP_eq_length.2 (fun i (hi : i ∈ List.range lo) => show (!p i) = true by rw [h1 i (List.mem_range.1 hi)]; rfl)
  rw [this, List.length_range]
 have b : ((List.range (n - lo)).map (lo + ·)).countP (fun i => !p i) = 0 := by
  refine List.countP_eq_zero.2 fun i hi => ?_
  obtain ⟨j, hj, rfl⟩ := List.mem_map.1 hi
  have := List.mem_range.1 hj
  rw [h2 (lo + j) (by omega) (by omega)]
  decide
 omega
set_option maxHeartbeats 8000000 in
set_option maxRecDepth 100000 in
theorem d_search (g bl br : Nat) (l : List (Int × Int)) (r : Int) (hn : l.length <= 1000) (hm : ∀ i j, i <= j -> j < l.length -> (l.getD i (0, 0)).2 <= (l.getD j (0, 0)).2) (w : World) (hl : w.cell? ⟨bl, 0, none⟩ = some (.slice (some ⟨g, 0, none⟩) l.length l.length)) (hr : w.cell? ⟨br, 0, none⟩ = some (.int .i32 r)) (hK : SeesK w g l) :
  Calls Tryz.prog 144 #[.int .i64 (l.length : Int), .func (.func 145) #[] #[.pointer (some ⟨bl, 0, none⟩), .pointer (some ⟨br, 0, none⟩)]] w fun e w' => e = .returned (.int .i64 (zU l r : Int)) /\ ∃ q, w' = w.drewN q := by
 have C := Xk (fun i hi (W : World) (h : ∃ q, W = w.drewN q) => d_w1 g bl br i l r hi W (by obtain ⟨q, rfl⟩ := h; exact hl) (by obtain ⟨q, rfl⟩ := h; exact hr) (by obtain ⟨q, rfl⟩ := h; exact hK))
 have AK : Hid (zU l r = (List.range l.length).countP fun i => !decide (r <= (l.getD i (0, 0)).2)) := Xk rfl
 have HM : Hid (∀ i j, i <= j -> j < l.length -> decide (r <= (l.getD i (0, 0)).2) = true -> decide (r <= (l.getD j (0, 0)).2) = true) := Xk (fun i j h1 h2 h3 => by
  have := hm i j h1 h2
  have := of_decide_eq_true h3
  exact decide_eq_true (by omega))
 obtain ⟨p, hp⟩ : ∃ p : Nat -> Bool, p = fun i => decide (r <= (l.getD i (0, 0)).2) := ⟨_, rfl⟩
 have C : Hid (∀ i, i < l.length -> ∀ W : World, (∃ q, W = w.drewN q) -> Calls Tryz.prog 145 #[.int .i64 (i : Int), .pointer (some ⟨bl, 0, none⟩), .pointer (some ⟨br, 0, none⟩)] W fun e w' => e = .returned (.bool (p i)) /\ ∃ q, w' = W.drewN q) := by rw [hp]; exact C
 have AK : Hid (zU l r = (List.range l.length).countP fun i => !p i) := by rw [hp]; exact AK
 have HM : Hid (∀ i j, i <= j -> j < l.length -> p i = true -> p j = true) := by rw [hp]; exact HM
 clear hp hm hl hr hK
 generalize zU l r = ak at *
 generalize l.length = n at *
 go_enter Tryz.func144, Tryz.ntmps144
 go_wp2_with fail
 go_loopw [5, 6, 7] (fun s5 s6 s7 wr => ∃ lo hi : Nat, s5 = .int .i64 lo /\ s6 = .int .i64 hi /\ lo <= hi /\ hi <= n /\ (∃ q, wr = w.drewN q) /\ Hid ((∀ t, t < lo -> p t = false) /\ (∀ t, hi <= t -> t < n -> p t = true))) (fun s5 s6 _ _ => (intOf s6).toNat - (intOf s5).toNat)
 case atStart => exact ⟨0, n, rfl, rfl, by omega, Xm, ⟨0, rfl⟩, Xk ⟨fun t h => by omega, fun t h1 h2 => by omega⟩⟩
 case round =>
  obtain ⟨lo, hi, rfl, rfl, h1, h2, hq, I⟩ := hrel
  by_cases lt : lo < hi
  ·obtain ⟨m, hmm⟩ : ∃ m, m = (lo + hi) / 2 := ⟨_, rfl⟩
   have m1 : lo <= m := by omega
   have m2 : m < hi := by omega
   have em : ((lo : Int) + (hi : Int)) / 2 = (m : Int) := by omega
   have CC := Xk (C.out m (by omega) _ hq)
   have HQ := Xk hq
   clear hmm hq
   go_wp2_with fail
   refine CC.out.mono ?_; rintro e w1 ⟨rfl, q1, rfl⟩
   have NQ : Hid (∃ q, wr.drewN q1 = w.drewN q) := Xk (by
    obtain ⟨q, e⟩ := HQ.out
    exact ⟨q + q1, by rw [e, World.drewN_drewN]⟩)
   cases hp : p m with
   | true =>
    go_wp2_with fail
    go_roundw
    case rel => exact ⟨lo, m, rfl, rfl, m1, by omega, NQ.out, Xk ⟨I.out.1, fun t t1 t2 => HM.out m t t1 t2 hp⟩⟩
    case measure => simp [intOf]; omega
   | false =>
    go_wp2_with fail
    go_roundw
    case rel =>
     refine ⟨m + 1, hi, by go_num, rfl, by omega, h2, NQ.out, Xk ⟨fun t ht => ?_, I.out.2⟩⟩
     cases ht2 : p t with
     | false => rfl
     | true =>
      have := HM.out t m (by omega) (by omega) ht2
      rw [hp] at this
      cases this
    case measure => simp [intOf]; omega
  ·have e : lo = hi := by omega
   subst e
   have R : Hid (ak = lo) := Xk (by rw [AK.out]; exact count_lo p n lo h2 I.out.1 I.out.2)
   go_wp2_with fail
   go_ret
   exact ⟨by rw [R.out]; rfl, hq⟩
set_option maxHeartbeats 8000000 in
set_option maxRecDepth 100000 in
theorem d_within (g : Nat) (l : List (Int × Int)) (r : Int) (hn : l.length <= 1000) (hm : ∀ i j, i <= j -> j < l.length -> (l.getD i (0, 0)).2 <= (l.getD j (0, 0)).2) (w : World) (hg : g < w.heap.size) (hK : SeesK w g l) :
  Calls Tryz.prog 136 #[.slice (some ⟨g, 0, none⟩) l.length l.length, .int .i32 r] w fun e w' => e = .returned (.bool (qH l r)) /\ Below w.heap.size w w' := by
 have hmf : ∀ (fn : Fn) (first cap : Array Value) (w : World), (Instr.makeFunc fn first cap).run Tryz.prog w = .ok (.func fn first cap) w := fun _ _ _ _ => rfl
 obtain ⟨W, hW⟩ : ∃ W, W = (w.alloc (.cells #[.slice (some ⟨g, 0, none⟩) l.length l.length] 175)).alloc (.cells #[.int .i32 r] 21) := ⟨_, rfl⟩
 have hB : Below w.heap.size w W := by rw [hW]; exact ((Below.refl _ w).alloc Xm _).alloc (by simp) _
 have K1 := hK.below hB hg
 have c1 : W.cell? ⟨w.heap.size, 0, none⟩ = some (.slice (some ⟨g, 0, none⟩) l.length l.length) := by rw [hW]; simp [go_sem]
 have c2 : W.cell? ⟨w.heap.size + 1, 0, none⟩ = some (.int .i32 r) := by rw [hW]; simp [go_sem]
 have SE := Xk (d_search g w.heap.size (w.heap.size + 1) l r hn hm W c1 c2 K1)
 have WK : Hid (qH l r = (decide (zU l r < l.length) && decide ((l.getD (zU l r) (0, 0)).1 <= r))) := Xk rfl
 have KA : Hid (zU l r < l.length -> W.cell? ⟨g, zU l r * 2, none⟩ = some (.int .i32 (l.getD (zU l r) (0, 0)).1)) := Xk (fun h => (K1 _ h).1)
 have HB := Xk hB
 generalize qH l r = wk at *
 generalize zU l r = ak at *
 generalize (l.getD ak (0, 0)).1 = y at *
 generalize l.length = n at *
 clear hm hK K1 hB
 go_enter Tryz.func136, Tryz.ntmps136
 go_wp2_with fail
 rw [<- hW]
 clear hW
 refine SE.out.mono ?_; rintro e w' ⟨rfl, q, rfl⟩
 by_cases lt : ak < n
 ·have k0 := KA.out lt
  have R : Hid (wk = decide (y <= r)) := Xk (by rw [WK.out, decide_eq_true lt]; rfl)
  go_wp2_with fail
  go_quiet (fail)
  go_wp2_with fail
  go_ret
  exact ⟨by rw [R.out]; rfl, HB.out.trans ⟨rfl, rfl, rfl, Xm, fun _ _ => rfl⟩⟩
 ·have R : Hid (wk = false) := Xk (by rw [WK.out, decide_eq_false lt]; rfl)
  go_wp2_with fail
  go_quiet (fail)
  go_wp2_with fail
  go_ret
  exact ⟨by rw [R.out]; rfl, HB.out.trans ⟨rfl, rfl, rfl, Xm, fun _ _ => rfl⟩⟩
end
section
open Go.RowKit Go.Sort
theorem QP (r : Int) (f c : Nat) (h : qH (zT c) r = true) : zX r (f + 1) c = c := by unfold zX; rw [if_pos h]
theorem QQ (r : Int) (f c : Nat) (h : qH (zT c) r = false) : zX r (f + 1) c = zX r f (c + 1) := by
 conv => lhs; unfold zX
 rw [if_neg (by rw [h]; decide)]
set_option maxHeartbeats 8000000 in
set_option maxRecDepth 100000 in
theorem ko (r : Int) (w : World) : Calls Tryz.prog 117 #[.int .i32 r] w fun e w' => e = .returned (.int .i8 (za r)) /\ Below w.heap.size w w' := by
 have KI : Hid (za r = if r < 0 \/ 1114111 < r then 0 else zX r 9 0) := Xk (vo r)
 have TO := Xk (fun c hc (W : World) => d_told c hc W)
 have WI : Hid (∀ c, c < 9 -> ∀ (W : World), Calls Tryz.prog 136 #[.slice (some ⟨W.heap.size, 0, none⟩) (zT c).length (zT c).length, .int .i32 r] (W.alloc (.cells (qW (zT c)).toArray 191)) fun e w' => e = .returned (.bool (qH (zT c) r)) /\ Below W.heap.size W w') := Xk (fun c hc W => by
  have hl := told_len ⟨c, hc⟩
  simp only at hl
  refine (d_within W.heap.size (zT c) r (by omega) (fun i j h1 h2 => QA ⟨c, hc⟩ ⟨i, by omega⟩ ⟨j, by omega⟩ h1 h2) _ (by simp) (SeesK.new W (zT c) _)).mono fun e w' h => ⟨h.1, ?_⟩
  exact zk ((Below.refl _ W).alloc Xm _) (by simp) h.2)
 have FH := Xk (QP r)
 have FM := Xk (QQ r)
 generalize za r = kd at *
 by_cases h1 : r < 0
 ·have R : Hid (kd = 0) := Xk (by rw [KI.out, if_pos (Or.inl h1)])
  go_enter Tryz.func117, Tryz.ntmps117
  go_wp2_with fail
  go_ret
  exact ⟨by rw [R.out]; rfl, Below.refl _ _⟩
 by_cases h2 : 1114111 < r
 ·have R : Hid (kd = 0) := Xk (by rw [KI.out, if_pos (Or.inr h2)])
  go_enter Tryz.func117, Tryz.ntmps117
  go_wp2_with fail
  go_ret
  exact ⟨by rw [R.out]; rfl, Below.refl _ _⟩
 have R : Hid (kd = zX r 9 0) := Xk (by rw [KI.out, if_neg (by omega)])
 clear KI
 go_enter Tryz.func117, Tryz.ntmps117
 go_wp2_with fail
 go_loopw [3, 10] (fun s3 s10 wr => ∃ k : Nat, k <= 9 /\ s10 = .int .i8 k /\ Hid (zX r (9 - k) k = kd /\ Below w.heap.size w wr)) (fun _ s10 _ => 9 - (intOf s10).toNat)
 case atStart => exact ⟨0, by omega, rfl, Xk ⟨R.out.symm, Below.refl _ _⟩⟩
 case round =>
  obtain ⟨k, hk, rfl, hI⟩ := hrel
  by_cases lt : k < 9
  ·have T1 := Xk (TO.out k lt wr)
   have W1 := Xk (WI.out k lt wr)
   have FU : 9 - k = (9 - (k + 1)) + 1 := by omega
   have FK := hI.out.1
   rw [FU] at FK
   have FK := Xk FK
   have FH := Xk (FH.out (9 - (k + 1)) k)
   have FM := Xk (FM.out (9 - (k + 1)) k)
   clear FU
   generalize zT k = L at *
   go_wp2_with fail
   refine T1.out.mono ?_; rintro e w1 ⟨rfl, rfl⟩
   go_wp2_with fail
   refine W1.out.mono ?_; rintro e w1 ⟨rfl, hb1⟩
   have HB := Xk (hI.out.2.trans (hb1.mono hI.out.2.size))
   clear hb1
   cases hw : qH L r with
   | true =>
    have R2 : Hid (kd = (k : Int)) := Xk (by rw [<- FK.out]; exact FH.out hw)
    go_wp2_with fail
    go_ret
    exact ⟨by rw [R2.out]; rfl, HB.out⟩
   | false =>
    have NX : Hid (zX r (9 - (k + 1)) (k + 1) = kd /\ Below w.heap.size w w1) := Xk ⟨by rw [<- FK.out]; exact (FM.out hw).symm, HB.out⟩
    go_wp2_with fail
    go_roundw
    case rel => exact ⟨k + 1, by omega, by go_num, NX⟩
    case measure => simp [intOf]; omega
  ·have ek : k = 9 := by omega
   subst ek
   have R2 : Hid (kd = 9) := Xk (by rw [<- hI.out.1]; rfl)
   go_wp2_with fail
   go_ret
   exact ⟨by rw [R2.out]; rfl, hI.out.2⟩
theorem jv (r : Int) : 0 <= za r /\ za r <= 9 := by
 rw [vo]
 unfold jr
 split
 ·omega
 ·have h : ∀ f c, c + f <= 9 -> 0 <= zX r f c /\ zX r f c <= 9 := by
   intro f
   induction f with
   | zero => intro c _; unfold zX; omega
   | succ f ih =>
    intro c hc
    unfold zX
    split
    ·omega
    ·exact ih (c + 1) (by omega)
  exact h 9 0 (by decide)
def ofK (k : Int) : Int := if k = 1 \/ k = 2 \/ k = 3 \/ k = 4 then 0 else if k = 7 \/ k = 5 then 2 else 1
set_option maxHeartbeats 8000000 in
set_option maxRecDepth 100000 in
theorem d_Of (r : Int) (w : World) : Calls Tryz.prog 118 #[.int .i32 r] w fun e w' => e = .returned (.int .i64 (ofK (za r))) /\ Below w.heap.size w w' := by
 have KI := Xk (ko r w)
 have kr := jv r
 generalize za r = k at *
 have q : k = 0 \/ k = 1 \/ k = 2 \/ k = 3 \/ k = 4 \/ k = 5 \/ k = 6 \/ k = 7 \/ k = 8 \/ k = 9 := by omega
 clear kr
 rcases q with rfl | rfl | rfl | rfl | rfl | rfl | rfl | rfl | rfl | rfl
 all_goals
  go_enter Tryz.func118, Tryz.ntmps118
  go_wp2_with fail
  refine KI.out.mono ?_; rintro e w1 ⟨rfl, hb1⟩
  go_wp2_with fail
  go_ret
  exact ⟨rfl, hb1⟩
set_option maxHeartbeats 8000000 in
set_option maxRecDepth 100000 in
theorem d_pic (k : Int) (h0 : 0 <= k) (h1 : k <= 9) (w : World) : Calls Tryz.prog 119 #[.int .i8 k] w fun e w' => e = .returned (.bool (picK k)) /\ w' = w := by
 have q : k = 0 \/ k = 1 \/ k = 2 \/ k = 3 \/ k = 4 \/ k = 5 \/ k = 6 \/ k = 7 \/ k = 8 \/ k = 9 := by omega
 rcases q with rfl | rfl | rfl | rfl | rfl | rfl | rfl | rfl | rfl | rfl
 all_goals
  go_enter Tryz.func119, Tryz.ntmps119
  go_wp2_with fail
  go_ret
  exact ⟨rfl, rfl⟩
end
end Go.Proofs.YtifoijbpbigaaaaGreatDoor
