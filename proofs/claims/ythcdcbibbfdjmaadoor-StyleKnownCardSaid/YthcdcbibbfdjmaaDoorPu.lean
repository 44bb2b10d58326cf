/- The library's ParseUint at base 16, of six bytes. -/
import Derived.Test.YthcdcbibbfdjmaaDoorDig
import Derived.Test.YthcdcbibbfdjmaaDoorShelf
import Derived.Shelf.Pu.Lower
import Derived.Lib.Strings
import Derived.Lib.Walk
import Derived.Lib.ConvBytes
import Derived.Lib.ParseIntBMem
import Derived.Laws.Strings3
import Derived.Laws.Closers25
import Derived.Laws.Closers25b
namespace Go.Proofs.YthcdcbibbfdjmaaDoor
open Go.RowKit Go.Shelf

/-- a hexadecimal digit's value -/
def hexv (c : Nat) : Option Nat := if 48 ≤ c ∧ c ≤ 57 then some (c - 48) else if 97 ≤ c ∧ c ≤ 102 then some (c - 87) else if 65 ≤ c ∧ c ≤ 70 then some (c - 55) else none
/-- the number of a row of them, behind a number -/
def hexL : Nat → List UInt8 → Option Nat
  | a, [] => some a
  | a, c :: l => match hexv c.toNat with | some d => hexL (a * 16 + d) l | none => none

def hexEnd : Option Nat → Value
  | some v => .tuple #[.int .u64 v, .nilIface]
  | none => .tuple #[.int .u64 0, .iface 135 (.int .i64 2)]

theorem lower_or : ∀ c : Fin 256, bits .or .u8 c.val 32 = if c.val / 32 % 2 = 1 then c.val else c.val + 32 := by decide +kernel

theorem lower_of (c : Nat) (h : c < 256) : bits .or .u8 (c : Int) 32 = ((if c / 32 % 2 = 1 then c else c + 32 : Nat) : Int) := lower_or ⟨c, h⟩

theorem lower_walk (c : Int) : Tells 110 #[.int .u8 c] (.int .u8 (bits .or .u8 c 32)) := by
  intro w
  go_enter Tryd.func110, Tryd.ntmps110
  go_wp2
  go_ret
  exact ⟨rfl, rfl⟩

set_option maxHeartbeats 32000000 in
set_option maxRecDepth 100000 in
theorem iParseUint_16 (t : ByteArray) (h6 : t.size = 6) (w : World) :
    Calls Tryd.prog 98 #[.string t, .int .i64 16, .int .i64 24] w fun e w' => e = .returned (hexEnd (hexL 0 t.data.toList)) ∧ w' = Lib.bytesWorld w 5 t := by
  have hemp : t.toList.isEmpty = false := by
    rw [← decide_eq_emptyBytes]
    exact decide_eq_false (fun h => by rw [h] at h6; cases h6)
  have hcv := Lib.run_convert_string_bytes (P := Tryd.prog) w 9 117 5 t (u := .string) Tryd.underlying9 Tryd.underlying117 Tryd.underlying5
  have hB : ∀ j, j < t.size → (Lib.bytesWorld w 5 t).cell? ⟨w.heap.size, j, none⟩ = some (.int .u8 (t.data.toList.getD j 0).toNat) := fun j hj => Lib.bytesWorld_cell w 5 t j hj
  obtain ⟨W1, hW1⟩ : ∃ W1, W1 = Lib.bytesWorld w 5 t := ⟨_, rfl⟩
  rw [← hW1] at hcv hB ⊢
  clear hW1
  obtain ⟨bs, hL⟩ : ∃ bs, bs = t.data.toList := ⟨_, rfl⟩
  have hLn : bs.length = t.size := by rw [hL, Lib.size_eq]
  rw [← hL] at hB ⊢
  clear hL
  have hmv : IntKind.u64.wrap (IntKind.u64.wrap 16777216 - 1) = 16777215 := by
    rw [IntKind.wrap_u64, IntKind.wrap_u64]
    decide
  have hsz : t.size ≤ 6 := by omega
  go_enter Tryd.func98, Tryd.ntmps98
  go_wp2
  go_loop [12, 13, 101] (fun vu vn vi => ∃ (k acc : Nat) (a : Int), vu = .bool false ∧ vn = .int .u64 a ∧ vi = .int .i64 k ∧ k ≤ t.size ∧ Hid (a = (acc : Int) ∧ acc < 16 ^ k ∧ hexL 0 bs = hexL acc (bs.drop k)))
    (fun _ _ vi => t.size - (intOf vi).toNat)
  case atStart => exact ⟨0, 0, 0, rfl, rfl, rfl, by omega, rfl, by omega, rfl⟩
  case round =>
    obtain ⟨k, acc, a, rfl, rfl, rfl, hk, hh⟩ := hrel
    obtain ⟨ha, hacc, hdec⟩ := hh.out
    clear hh
    by_cases hkn : k < t.size
    · have hc := hB k hkn
      have hdrop : bs.drop k = bs[k]'(by omega) :: bs.drop (k + 1) := List.drop_eq_getElem_cons (by omega)
      have hget : bs.getD k 0 = bs[k]'(by omega) := by simp [List.getD, List.getElem?_eq_getElem (show k < bs.length by omega)]
      rw [hdrop] at hdec
      rw [hget] at hc
      generalize bs[k]'(by omega) = c at hc hdec
      have hc256 : c.toNat < 256 := c.toNat_lt
      have acc5 : acc < 16 ^ 5 := Nat.lt_of_lt_of_le hacc (Nat.pow_le_pow_right (by decide) (by omega))
      have a0 : 0 ≤ a := by omega
      have a1 : a < 1048576 := by rw [ha]; have := acc5; omega
      have nxt : ∀ d, hexv c.toNat = some d → d < 16 → acc * 16 + d < 16 ^ (k + 1) ∧ hexL 0 bs = hexL (acc * 16 + d) (bs.drop (k + 1)) := fun d hd hd16 => by
        refine ⟨by rw [Nat.pow_succ]; omega, ?_⟩
        rw [hdec, hexL, hd]
      have NXT := Lib.hid nxt
      have low := lower_of c.toNat hc256
      clear hB hdrop hget nxt
      by_cases hdig : 48 ≤ c.toNat ∧ c.toNat ≤ 57
      · have hd : hexv c.toNat = some (c.toNat - 48) := by rw [hexv, if_pos hdig]
        obtain ⟨n1, n2⟩ := NXT.out _ hd (by omega)
        obtain ⟨hd0, hd1⟩ := hdig
        have HN : Hid (a * 16 + ((c.toNat : Int) - 48) = ((acc * 16 + (c.toNat - 48) : Nat) : Int) ∧ acc * 16 + (c.toNat - 48) < 16 ^ (k + 1) ∧ hexL 0 bs = hexL (acc * 16 + (c.toNat - 48)) (bs.drop (k + 1))) := Lib.hid ⟨by omega, n1, n2⟩
        have p1 : a * 16 + ((c.toNat : Int) - 48) < 16777216 := by omega
        have p2 : (c.toNat : Int) ≠ 95 := by omega
        clear hacc acc5 hdec ha NXT hd n1 n2 low
        go_wp2
        refine ⟨⟨k + 1, acc * 16 + (c.toNat - 48), a * 16 + ((c.toNat : Int) - 48), rfl, (by first | rfl | (congr 1; omega)), (by first | rfl | (congr 1; omega)), by omega, HN⟩, by simp [intOf]; omega⟩
      · have hnd : (c.toNat : Int) < 48 ∨ 57 < (c.toNat : Int) := by omega
        by_cases hlet : (97 ≤ c.toNat ∧ c.toNat ≤ 102) ∨ (65 ≤ c.toNat ∧ c.toNat ≤ 70)
        · obtain ⟨d, hd, d10, d16, hld⟩ : ∃ d, hexv c.toNat = some d ∧ 10 ≤ d ∧ d < 16 ∧ bits .or .u8 (c.toNat : Int) 32 = ((d : Nat) : Int) + 87 := by
            rw [low]
            rcases hlet with q | q
            · exact ⟨c.toNat - 87, by rw [hexv, if_neg hdig, if_pos q], by omega, by omega, by rw [if_pos (by omega)]; omega⟩
            · exact ⟨c.toNat - 55, by rw [hexv, if_neg hdig, if_neg (by omega), if_pos q], by omega, by omega, by rw [if_neg (by omega)]; omega⟩
          obtain ⟨n1, n2⟩ := NXT.out _ hd d16
          have HN : Hid (a * 16 + (d : Int) = ((acc * 16 + d : Nat) : Int) ∧ acc * 16 + d < 16 ^ (k + 1) ∧ hexL 0 bs = hexL (acc * 16 + d) (bs.drop (k + 1))) := Lib.hid ⟨by omega, n1, n2⟩
          have p1 : a * 16 + (d : Int) < 16777216 := by omega
          have p2 : (c.toNat : Int) ≠ 95 := by omega
          have p3 : 57 < (c.toNat : Int) := by omega
          have p4 : IntKind.u8.wrap ((d : Int) + 87 - 97 + 10) = d := by rw [IntKind.wrap_u8]; omega
          clear hacc acc5 hdec ha NXT hd n1 n2 low hlet hdig hnd
          go_wp2_with fail
          refine (lower_walk _ _).mono ?_; rintro e w' ⟨rfl, rfl⟩
          go_wp2_with fail
          refine (lower_walk _ _).mono ?_; rintro e w' ⟨rfl, rfl⟩
          go_wp2_with fail
          refine (lower_walk _ _).mono ?_; rintro e w' ⟨rfl, rfl⟩
          go_wp2_with fail
          refine ⟨⟨k + 1, acc * 16 + d, a * 16 + (d : Int), rfl, (by first | rfl | (congr 1; omega)), (by first | rfl | (congr 1; omega)), by omega, HN⟩, by simp [intOf]; omega⟩
        · have hn : hexv c.toNat = none := by rw [hexv, if_neg hdig, if_neg (by omega), if_neg (by omega)]
          have hF : hexL 0 bs = none := by rw [hdec, hexL, hn]
          obtain ⟨L, hL, l0, l1, lo⟩ : ∃ L : Int, bits .or .u8 (c.toNat : Int) 32 = L ∧ 0 ≤ L ∧ L < 256 ∧ (L < 97 ∨ 102 < L) := by
            refine ⟨_, low, by omega, ?_, ?_⟩
            · split <;> omega
            · split <;> omega
          have HF := Lib.hid hF
          clear hacc acc5 hdec ha NXT hF hn low hlet hdig
          rcases hnd with p3 | p3
          all_goals
            go_wp2_with (go_at_call 110; refine (lower_walk _ _).mono ?_; rintro e w' ⟨rfl, rfl⟩)
          all_goals go_ret2
          all_goals exact ⟨by rw [HF.out]; rfl, rfl⟩
    · have hkk : k = t.size := by omega
      subst hkk
      have hF : hexL acc (bs.drop t.size) = some acc := by rw [List.drop_eq_nil_of_le (by omega)]; rfl
      rw [hF] at hdec
      subst ha
      have HD := Lib.hid hdec
      clear hacc hF hdec
      go_wp2
      go_ret2
      exact ⟨by rw [HD.out]; rfl, rfl⟩
end Go.Proofs.YthcdcbibbfdjmaaDoor
