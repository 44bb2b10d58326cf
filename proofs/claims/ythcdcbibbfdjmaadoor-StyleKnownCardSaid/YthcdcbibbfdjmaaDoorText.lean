/- A colour's word. -/
import Derived.Test.YthcdcbibbfdjmaaDoorEnv
namespace Go.Proofs.YthcdcbibbfdjmaaDoor
open Go.RowKit

def textB (c : Int) : ByteArray :=
  if c = 1 then ⟨#[112, 108, 97, 105, 110]⟩
  else if 256 ≤ c ∧ c < 272 then nameB (c - 256).toNat
  else if 272 ≤ c ∧ c < 512 then ⟨(64 :: digL 10 (c - 256).toNat (nd (c - 256).toNat)).toArray⟩
  else if 16777216 ≤ c ∧ c < 33554432 then ⟨(35 :: digL 16 (c - 16777216).toNat 6).toArray⟩
  else ⟨#[]⟩

theorem dig_shift (N : Nat) : digL 16 (N + 16777216) 6 = digL 16 N 6 := by
  simp only [digL, Nat.reducePow, Nat.pow_zero, Nat.div_one, Nat.pow_one]
  rw [show (N + 16777216) / 1048576 % 16 = N / 1048576 % 16 by omega, show (N + 16777216) / 65536 % 16 = N / 65536 % 16 by omega, show (N + 16777216) / 4096 % 16 = N / 4096 % 16 by omega, show (N + 16777216) / 256 % 16 = N / 256 % 16 by omega, show (N + 16777216) / 16 % 16 = N / 16 % 16 by omega, show (N + 16777216) % 16 = N % 16 by omega]

theorem tail_mk (x : UInt8) (l : List UInt8) (n : Nat) (h : n = l.length + 1) : (⟨(x :: l).toArray⟩ : ByteArray).extract 1 n = ⟨l.toArray⟩ := by
  subst h
  apply ByteArray.ext
  rw [ByteArray.data_extract]
  apply Array.toList_inj.1
  simp

theorem cons_mk (x : UInt8) (l : List UInt8) : (⟨#[x]⟩ : ByteArray) ++ ⟨l.toArray⟩ = ⟨(x :: l).toArray⟩ := cat_mk [x] l

theorem text_full (u : Int) (h0 : 16777216 ≤ u) (h1 : u < 33554432) (S : ByteArray) (hS : S = ⟨(digL 16 u.toNat 7).toArray⟩) (n : Nat) (hn : n = S.size) : (⟨#[35]⟩ : ByteArray) ++ S.extract 1 n = textB u := by
  subst hn hS
  have e : u.toNat = (u - 16777216).toNat + 16777216 := by omega
  rw [show digL 16 u.toNat 7 = dgt (u.toNat / 16 ^ 6 % 16) :: digL 16 u.toNat 6 from rfl, tail_mk _ _ _ (by rw [mk_size]; rfl), e, dig_shift, cons_mk, textB, if_neg (by omega), if_neg (by omega), if_neg (by omega), if_pos (by omega)]

set_option maxHeartbeats 4000000 in
theorem tint_Text (c : Int) (hl : -2147483648 ≤ c) (hh : c ≤ 2147483647) (w : World) (E : EnvT w) : Calls Tryd.prog 68 #[.int .i32 c] w fun e w' => e = .returned (.string (textB c)) ∧ Below w.heap.size w w' := by
  by_cases h : 16777216 ≤ c ∧ c < 33554432
  · have hc : cnt c = c := by unfold cnt; rw [if_pos]; unfold rightB; rw [decide_eq_true_iff]; omega
    have TF := Lib.hid (text_full c h.1 h.2)
    obtain ⟨ha, hb⟩ := h
    obtain ⟨S, hS⟩ : ∃ S : ByteArray, S = ⟨(digL 16 c.toNat 7).toArray⟩ := ⟨_, rfl⟩
    have F := FormatUint_16 c ha hb w E.bg E.bc
    rw [← hS] at F
    have F := Lib.hid F
    have z1 : S.size = 7 := by rw [hS, mk_size]; rfl
    have HS := Lib.hid hS
    clear E hS
    go_enter Tryd.func68, Tryd.ntmps68
    go_wp2_with fail
    refine (tint_counted _ _).mono ?_; rintro e w' ⟨rfl, rfl⟩; rw [hc]
    go_wp2_with fail
    refine F.out.mono ?_; rintro e w' ⟨rfl, hb⟩
    go_wp2_with fail
    go_ret
    exact ⟨ret_str (TF.out S HS.out _ (by first | rfl | simp [z1])), hb⟩
  by_cases h3 : 272 ≤ c ∧ c < 512
  · have hc : cnt c = c := by unfold cnt; rw [if_pos]; unfold rightB; rw [decide_eq_true_iff]; omega
    have TE : Hid (textB c = ⟨#[64]⟩ ++ ⟨(digL 10 (c - 256).toNat (nd (c - 256).toNat)).toArray⟩) := by
      rw [cons_mk]; unfold Hid textB; rw [if_neg (by omega), if_neg (by omega), if_pos h3]
    obtain ⟨ha, hb⟩ := h3
    obtain ⟨S, hS⟩ : ∃ S : ByteArray, S = ⟨(digL 10 (c - 256).toNat (nd (c - 256).toNat)).toArray⟩ := ⟨_, rfl⟩
    have F := Itoa_dec (c - 256).toNat (by omega) w E.tab
    rw [← hS, Int.toNat_of_nonneg (by omega)] at F
    rw [← hS] at TE
    have F := Lib.hid F
    have z1 : S.size ≤ 3 := by rw [hS, mk_size, digL_len]; unfold nd; split <;> (try split) <;> omega
    clear E hS h
    go_enter Tryd.func68, Tryd.ntmps68
    go_wp2_with fail
    refine (tint_counted _ _).mono ?_; rintro e w' ⟨rfl, rfl⟩; rw [hc]
    go_wp2_with fail
    refine F.out.mono ?_; rintro e w' ⟨rfl, hb⟩
    go_wp2_with fail
    go_ret
    exact ⟨ret_str TE.out.symm, hb⟩
  by_cases h2 : 256 ≤ c ∧ c < 272
  · have hc : cnt c = c := by unfold cnt; rw [if_pos]; unfold rightB; rw [decide_eq_true_iff]; omega
    have TE : Hid (textB c = nameB (c - 256).toNat) := by unfold Hid textB; rw [if_neg (by omega), if_pos h2]
    obtain ⟨ha, hb⟩ := h2
    have F := tint_name (c - 256).toNat (by omega) w
    rw [Int.toNat_of_nonneg (by omega)] at F
    have F := Lib.hid F
    clear E h h3
    go_enter Tryd.func68, Tryd.ntmps68
    go_wp2_with fail
    refine (tint_counted _ _).mono ?_; rintro e w' ⟨rfl, rfl⟩; rw [hc]
    go_wp2_with fail
    refine F.out.mono ?_; rintro e w' ⟨rfl, hb⟩
    go_wp2_with fail
    go_ret
    exact ⟨ret_str TE.out.symm, hb⟩
  · have hc : (cnt c = 0 ∧ c ≠ 1) ∨ (cnt c = 1 ∧ c = 1) := by
      unfold cnt
      by_cases r : rightB c = true
      · rw [if_pos r]; unfold rightB at r; rw [decide_eq_true_iff] at r; omega
      · rw [if_neg r]; refine Or.inl ⟨rfl, ?_⟩; rintro rfl; exact r rfl
    have TE : Hid (textB c = if c = 1 then ⟨#[112, 108, 97, 105, 110]⟩ else ⟨#[]⟩) := by
      unfold Hid textB; rw [if_neg h2, if_neg h3, if_neg h]
    clear E h h2 h3
    rcases hc with ⟨hc, c1⟩ | ⟨hc, rfl⟩
    · have TE := TE.out
      rw [if_neg c1] at TE
      have TE := Lib.hid TE
      go_enter Tryd.func68, Tryd.ntmps68
      go_wp2_with fail
      refine (tint_counted _ _).mono ?_; rintro e w' ⟨rfl, rfl⟩; rw [hc]
      go_wp2_with fail
      go_ret
      exact ⟨ret_str TE.out.symm, Below.refl _ _⟩
    · go_enter Tryd.func68, Tryd.ntmps68
      go_wp2_with fail
      refine (tint_counted _ _).mono ?_; rintro e w' ⟨rfl, rfl⟩; rw [hc]
      go_wp2_with fail
      go_ret
      exact ⟨ret_str rfl, Below.refl _ _⟩

set_option maxHeartbeats 4000000 in
theorem ref_Text (c : Int) (hl : -2147483648 ≤ c) (hh : c ≤ 2147483647) : Gives 67 #[.int .i32 c] (.string (textB c)) := by
  intro w
  rcases sort_cases c with ⟨rfl, hk, hn⟩ | ⟨ha, hb, hk, hn⟩ | ⟨ha, hb, hk, hn⟩ | ⟨h1, h2, h3, hk, hn⟩
  · go_enter Tryd.func67, Tryd.ntmps67
    go_wp2_with fail
    refine (ref_sort _ hl hh _).mono ?_; rintro e w' ⟨rfl, rfl⟩; rw [hk, hn]
    go_wp2_with fail
    go_ret
    exact ⟨ret_str rfl, Below.refl _ _⟩
  · by_cases h3 : 272 ≤ c
    · have TE : Hid (textB c = ⟨#[64]⟩ ++ ⟨(digL 10 (c - 256).toNat (nd (c - 256).toNat)).toArray⟩) := by
        rw [cons_mk]; unfold Hid textB; rw [if_neg (by omega), if_neg (by omega), if_pos ⟨h3, hb⟩]
      obtain ⟨S, hS⟩ : ∃ S : ByteArray, S = ⟨(digL 10 (c - 256).toNat (nd (c - 256).toNat)).toArray⟩ := ⟨_, rfl⟩
      have F := ref_digits10 (c - 256).toNat (by omega) w
      rw [← hS, Int.toNat_of_nonneg (by omega)] at F
      rw [← hS] at TE
      have F := Lib.hid F
      have z1 : S.size ≤ 3 := by rw [hS, mk_size, digL_len]; unfold nd; split <;> (try split) <;> omega
      clear hS
      go_enter Tryd.func67, Tryd.ntmps67
      go_wp2_with fail
      refine (ref_sort _ hl hh _).mono ?_; rintro e w' ⟨rfl, rfl⟩; rw [hk, hn]
      go_wp2_with fail
      refine F.out.mono ?_; rintro e w' ⟨rfl, hb⟩
      go_wp2_with fail
      go_ret
      exact ⟨ret_str TE.out.symm, hb⟩
    · have TE : Hid (textB c = nameB (c - 256).toNat) := by unfold Hid textB; rw [if_neg (by omega), if_pos (by omega)]
      have F := ref_name (c - 256).toNat (by omega) w
      rw [Int.toNat_of_nonneg (by omega)] at F
      have F := Lib.hid F
      go_enter Tryd.func67, Tryd.ntmps67
      go_wp2_with fail
      refine (ref_sort _ hl hh _).mono ?_; rintro e w' ⟨rfl, rfl⟩; rw [hk, hn]
      go_wp2_with fail
      refine F.out.mono ?_; rintro e w' ⟨rfl, hb⟩
      go_wp2_with fail
      go_ret
      exact ⟨ret_str TE.out.symm, hb⟩
  · have TE : Hid (textB c = ⟨#[35]⟩ ++ ⟨(digL 16 (c - 16777216).toNat 6).toArray⟩) := by
      rw [cons_mk]; unfold Hid textB; rw [if_neg (by omega), if_neg (by omega), if_neg (by omega), if_pos ⟨ha, hb⟩]
    obtain ⟨S, hS⟩ : ∃ S : ByteArray, S = ⟨(digL 16 (c - 16777216).toNat 6).toArray⟩ := ⟨_, rfl⟩
    have F := ref_digits16 (c - 16777216).toNat (by omega) w
    rw [← hS, Int.toNat_of_nonneg (by omega)] at F
    rw [← hS] at TE
    have F := Lib.hid F
    have z1 : S.size ≤ 6 := by rw [hS, mk_size, digL_len]; omega
    clear hS
    go_enter Tryd.func67, Tryd.ntmps67
    go_wp2_with fail
    refine (ref_sort _ hl hh _).mono ?_; rintro e w' ⟨rfl, rfl⟩; rw [hk, hn]
    go_wp2_with fail
    refine F.out.mono ?_; rintro e w' ⟨rfl, hb⟩
    go_wp2_with fail
    go_ret
    exact ⟨ret_str TE.out.symm, hb⟩
  · have TE : Hid (textB c = ⟨#[]⟩) := by unfold Hid textB; rw [if_neg h1, if_neg (by omega), if_neg (by omega), if_neg (by omega)]
    clear h1 h2 h3
    go_enter Tryd.func67, Tryd.ntmps67
    go_wp2_with fail
    refine (ref_sort _ hl hh _).mono ?_; rintro e w' ⟨rfl, rfl⟩; rw [hk, hn]
    go_wp2_with fail
    go_ret
    exact ⟨ret_str TE.out.symm, Below.refl _ _⟩
end Go.Proofs.YthcdcbibbfdjmaaDoor
