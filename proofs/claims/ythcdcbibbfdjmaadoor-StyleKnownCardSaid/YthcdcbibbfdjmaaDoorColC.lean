/- The walks of the reference's functions on colours, channels and the palette. -/
import Derived.Test.YthcdcbibbfdjmaaDoorColB
namespace Go.Proofs.YthcdcbibbfdjmaaDoor
open Go.RowKit

def sortK (c : Int) : Int := if c = 1 then 1 else if 256 ≤ c ∧ c < 512 then 2 else if 16777216 ≤ c ∧ c < 33554432 then 3 else 0
def sortN (c : Int) : Int := if 256 ≤ c ∧ c < 512 then c - 256 else if 16777216 ≤ c ∧ c < 33554432 then c - 16777216 else 0

theorem sort_cases (c : Int) : (c = 1 ∧ sortK c = 1 ∧ sortN c = 0) ∨ (256 ≤ c ∧ c < 512 ∧ sortK c = 2 ∧ sortN c = c - 256) ∨ (16777216 ≤ c ∧ c < 33554432 ∧ sortK c = 3 ∧ sortN c = c - 16777216) ∨ (c ≠ 1 ∧ ¬ (256 ≤ c ∧ c < 512) ∧ ¬ (16777216 ≤ c ∧ c < 33554432) ∧ sortK c = 0 ∧ sortN c = 0) := by
  unfold sortK sortN
  by_cases h1 : c = 1
  · left; subst h1; exact ⟨rfl, by simp, by simp⟩
  by_cases h2 : 256 ≤ c ∧ c < 512
  · right; left; exact ⟨h2.1, h2.2, by rw [if_neg h1, if_pos h2], by rw [if_pos h2]⟩
  by_cases h3 : 16777216 ≤ c ∧ c < 33554432
  · right; right; left; exact ⟨h3.1, h3.2, by rw [if_neg h1, if_neg h2, if_pos h3], by rw [if_neg h2, if_pos h3]⟩
  · right; right; right; exact ⟨h1, h2, h3, by rw [if_neg h1, if_neg h2, if_neg h3], by rw [if_neg h2, if_neg h3]⟩

theorem ref_sort (c : Int) (hl : -2147483648 ≤ c) (hh : c ≤ 2147483647) : Tells 88 #[.int .i32 c] (.tuple #[.int .i64 (sortK c), .int .i64 (sortN c)]) := by
  intro w
  rcases sort_cases c with ⟨h, hk, hn⟩ | ⟨h, h', hk, hn⟩ | ⟨h, h', hk, hn⟩ | ⟨h, h2, h3, hk, hn⟩
  · have H := Lib.hid (And.intro hk hn); clear hk hn
    subst h
    go_enter Tryd.func88, Tryd.ntmps88
    go_wp2
    go_ret2
    exact ⟨by rw [H.out.1, H.out.2]; rfl, rfl⟩
  · have H := Lib.hid (And.intro hk hn); clear hk hn
    have g1 : (c == 1) = false := by simp; omega
    have g2 : decide (c ≤ 511) = true := by simp; omega
    go_enter Tryd.func88, Tryd.ntmps88
    go_wp2
    go_ret2
    exact ⟨by rw [H.out.1, H.out.2]; rfl, rfl⟩
  · have H := Lib.hid (And.intro hk hn); clear hk hn
    have g1 : (c == 1) = false := by simp; omega
    have g2 : decide (c ≤ 511) = false := by simp; omega
    have g3 : decide (c ≤ 33554431) = true := by simp; omega
    go_enter Tryd.func88, Tryd.ntmps88
    go_wp2
    go_ret2
    exact ⟨by rw [H.out.1, H.out.2]; rfl, rfl⟩
  · have H := Lib.hid (And.intro hk hn); clear hk hn
    have g1 : (c == 1) = false := by simp; omega
    by_cases a : 256 ≤ c
    · have g2 : decide (c ≤ 511) = false := by simp; omega
      by_cases b : 16777216 ≤ c
      · have g3 : decide (c ≤ 33554431) = false := by simp; omega
        clear h2 h3
        go_enter Tryd.func88, Tryd.ntmps88
        go_wp2
        go_ret2
        exact ⟨by rw [H.out.1, H.out.2]; rfl, rfl⟩
      · clear h2 h3
        go_enter Tryd.func88, Tryd.ntmps88
        go_wp2
        go_ret2
        exact ⟨by rw [H.out.1, H.out.2]; rfl, rfl⟩
    · clear h2 h3
      go_enter Tryd.func88, Tryd.ntmps88
      go_wp2
      go_ret2
      exact ⟨by rw [H.out.1, H.out.2]; rfl, rfl⟩

theorem ref_Counted (c : Int) (hl : -2147483648 ≤ c) (hh : c ≤ 2147483647) : Tells 103 #[.int .i32 c] (.int .i32 (cnt c)) := by
  intro w
  have hc : cnt c = if sortK c = 0 then 0 else c := by
    unfold cnt rightB
    rcases sort_cases c with ⟨h, hk, hn⟩ | ⟨h, h', hk, hn⟩ | ⟨h, h', hk, hn⟩ | ⟨h, h2, h3, hk, hn⟩
    · rw [if_pos (by rw [decide_eq_true_iff]; omega), if_neg (by omega)]
    · rw [if_pos (by rw [decide_eq_true_iff]; omega), if_neg (by omega)]
    · rw [if_pos (by rw [decide_eq_true_iff]; omega), if_neg (by omega)]
    · rw [if_pos hk]
      by_cases z : c = 0
      · rw [if_pos (by rw [decide_eq_true_iff]; omega), z]
      · rw [if_neg (by rw [decide_eq_true_iff]; omega)]
  have H := Lib.hid hc; clear hc
  by_cases k : sortK c = 0
  all_goals
    have H2 := Lib.hid k
    first | (have g : (sortK c == 0) = true := by simp [k]) | (have g : (sortK c == 0) = false := by simp [k])
    clear k
    go_enter Tryd.func103, Tryd.ntmps103
    go_wp2_with (go_at_call 88; refine (ref_sort _ hl hh _).mono ?_; rintro e w' ⟨rfl, rfl⟩)
    go_ret
    exact ⟨ret_int (by rw [H.out]; first | rw [if_pos H2.out] | rw [if_neg H2.out]), rfl⟩

theorem ref_bit (n f lo hi : Int) (h0 : 0 ≤ n) (h1 : n < 16) (hf : 1 ≤ f) : Tells 133 #[.int .i64 n, .int .i64 f, .int .i64 lo, .int .i64 hi] (.int .i64 (bitOr (n / f % 2) lo hi)) := by
  intro w
  by_cases k : n / f % 2 = 1
  all_goals
    have H2 := Lib.hid k
    first | (have g : (n / f % 2 == 1) = true := by simp [k]) | (have g : (n / f % 2 == 1) = false := by simp [k])
    have h2 : 0 ≤ n / f := Int.ediv_nonneg h0 (by omega)
    have h3 : n / f ≤ n := Int.ediv_le_self _ h0
    clear k
    go_enter Tryd.func133, Tryd.ntmps133
    go_wp2
    go_ret
    exact ⟨ret_int (by unfold bitOr; first | rw [if_pos H2.out] | rw [if_neg H2.out]), rfl⟩

theorem cube_six (n : Int) (h0 : 0 ≤ n) (h1 : n ≤ 5) : n = 0 ∨ n = 1 ∨ n = 2 ∨ n = 3 ∨ n = 4 ∨ n = 5 := by omega

set_option maxHeartbeats 1000000 in
theorem ref_cube (n : Int) (h0 : 0 ≤ n) (h1 : n ≤ 5) : Gives 134 #[.int .i64 n] (.int .i64 (lev n)) := by
  intro w
  have := cube_six n h0 h1
  clear h0 h1
  rcases this with rfl | rfl | rfl | rfl | rfl | rfl
  all_goals
    go_enter Tryd.func134, Tryd.ntmps134
    go_wp2
    go_ret
    exact ⟨rfl, by go_grown⟩

abbrev tri (a b c : Int) : Value := .agg #[.int .i64 a, .int .i64 b, .int .i64 c]

set_option maxHeartbeats 1000000 in
theorem ref_Channels (n : Int) (h0 : 0 ≤ n) (h1 : n < 256) : Gives 121 #[.int .i64 n] (tri (pr n) (pg n) (pb n)) := by
  intro w
  by_cases c : n < 8
  · have H : Hid (pr n = bitOr (n / 1 % 2) 0 170 ∧ pg n = bitOr (n / 2 % 2) 0 170 ∧ pb n = bitOr (n / 4 % 2) 0 170) := by
      unfold Hid pr pg pb
      rw [if_pos c, if_pos c, if_pos c, Int.ediv_one]
      exact ⟨rfl, rfl, rfl⟩
    go_enter Tryd.func121, Tryd.ntmps121
    go_wp2_with (go_at_call 133; refine (ref_bit _ _ _ _ (by omega) (by omega) (by omega) _).mono ?_; rintro e w' ⟨rfl, rfl⟩)
    exact bodyPost_ret (v := tri (bitOr (n / 1 % 2) 0 170) (bitOr (n / 2 % 2) 0 170) (bitOr (n / 4 % 2) 0 170)) (by simp [results, Tryd.results121, go_sem]) rfl ⟨by rw [H.out.1, H.out.2.1, H.out.2.2], by go_grown⟩
  by_cases c1 : n < 16
  · have H : Hid (pr n = bitOr (n / 1 % 2) 85 255 ∧ pg n = bitOr (n / 2 % 2) 85 255 ∧ pb n = bitOr (n / 4 % 2) 85 255) := by
      unfold Hid pr pg pb
      rw [if_neg c, if_neg c, if_neg c, if_pos c1, if_pos c1, if_pos c1, Int.ediv_one]
      exact ⟨rfl, rfl, rfl⟩
    go_enter Tryd.func121, Tryd.ntmps121
    go_wp2_with (go_at_call 133; refine (ref_bit _ _ _ _ (by omega) (by omega) (by omega) _).mono ?_; rintro e w' ⟨rfl, rfl⟩)
    exact bodyPost_ret (v := tri (bitOr (n / 1 % 2) 85 255) (bitOr (n / 2 % 2) 85 255) (bitOr (n / 4 % 2) 85 255)) (by simp [results, Tryd.results121, go_sem]) rfl ⟨by rw [H.out.1, H.out.2.1, H.out.2.2], by go_grown⟩
  by_cases c2 : n < 232
  · have H : Hid (pr n = lev ((n - 16) / 36) ∧ pg n = lev ((n - 16) / 6 % 6) ∧ pb n = lev ((n - 16) % 6)) := by
      unfold Hid pr pg pb
      rw [if_neg (by omega), if_neg c1, if_pos c2, if_neg (by omega), if_neg c1, if_pos c2, if_neg (by omega), if_neg c1, if_pos c2]
      exact ⟨rfl, rfl, rfl⟩
    go_enter Tryd.func121, Tryd.ntmps121
    go_wp2_with fail
    refine (ref_cube _ (by omega) (by omega) _).mono ?_; rintro e w1 ⟨rfl, hb1⟩
    have hb1' : Below w.heap.size w w1 := below_call ((Below.refl _ _).alloc (Nat.le_refl _) _) (by simp) hb1
    obtain ⟨hcl1, hfz1, hz1⟩ := bcell hb1; simp only [World.size_alloc] at hcl1 hfz1 hz1; clear hb1
    go_wp2_with fail
    refine (ref_cube _ (by omega) (by omega) _).mono ?_; rintro e w2 ⟨rfl, hb2⟩
    have hb2' : Below w.heap.size w w2 := below_call hb1' (by omega) hb2
    obtain ⟨hcl2, hfz2, hz2⟩ := bcell hb2; clear hb2
    go_wp2_with fail
    refine (ref_cube _ (by omega) (by omega) _).mono ?_; rintro e w3 ⟨rfl, hb3⟩
    have hb3' : Below w.heap.size w w3 := below_call hb2' (by omega) hb3
    obtain ⟨hcl3, hfz3, hz3⟩ := bcell hb3; clear hb3
    have z1 : w.heap.size < w1.heap.size := by omega
    have z2 : w.heap.size < w2.heap.size := by omega
    have z3 : w.heap.size < w3.heap.size := by omega
    go_wp2_with fail
    exact bodyPost_ret (v := tri (lev ((n - 16) / 36)) (lev ((n - 16) / 6 % 6)) (lev ((n - 16) % 6))) (by simp [results, Tryd.results121, go_sem, hcl1, hcl2, hcl3, z1, z2]) rfl ⟨by rw [H.out.1, H.out.2.1, H.out.2.2], by go_grown⟩
  · have H : Hid (pr n = 8 + 10 * (n - 232) ∧ pg n = 8 + 10 * (n - 232) ∧ pb n = 8 + 10 * (n - 232)) := by
      unfold Hid pr pg pb
      rw [if_neg c, if_neg c1, if_neg c2, if_neg c, if_neg c1, if_neg c2, if_neg c, if_neg c1, if_neg c2]
      exact ⟨rfl, rfl, rfl⟩
    go_enter Tryd.func121, Tryd.ntmps121
    go_wp2
    exact bodyPost_ret (v := tri (8 + 10 * (n - 232)) (8 + 10 * (n - 232)) (8 + 10 * (n - 232))) (by simp [results, Tryd.results121, go_sem]) rfl ⟨by rw [H.out.1, H.out.2.1, H.out.2.2], by go_grown⟩

theorem ref_RGB (c : Int) (hl : -2147483648 ≤ c) (hh : c ≤ 2147483647) : Gives 104 #[.int .i32 c] (.tuple #[tri (chR c) (chG c) (chB c), .bool (hasC c)]) := by
  intro w
  rcases sort_cases c with ⟨h, hk, hn⟩ | ⟨h, h', hk, hn⟩ | ⟨h, h', hk, hn⟩ | ⟨h, h2, h3, hk, hn⟩
  · have H : Hid (hasC c = false ∧ chR c = 0 ∧ chG c = 0 ∧ chB c = 0) := by subst h; exact ⟨rfl, rfl, rfl, rfl⟩
    clear h
    go_enter Tryd.func104, Tryd.ntmps104
    go_wp2_with (go_at_call 88; refine (ref_sort _ hl hh _).mono ?_; rw [hk, hn]; rintro e w' ⟨rfl, rfl⟩)
    exact bodyPost_ret (v := .tuple #[tri 0 0 0, .bool false]) (by simp [results, Tryd.results104, go_sem]) rfl ⟨by rw [H.out.1, H.out.2.1, H.out.2.2.1, H.out.2.2.2], by go_grown⟩
  · have H : Hid (hasC c = true ∧ chR c = pr (c - 256) ∧ chG c = pg (c - 256) ∧ chB c = pb (c - 256)) := by
      unfold Hid hasC chR chG chB
      have n1 : ¬ (16777216 ≤ c ∧ c < 33554432) := by omega
      rw [if_neg n1, if_neg n1, if_neg n1, if_pos ⟨h, h'⟩, if_pos ⟨h, h'⟩, if_pos ⟨h, h'⟩, decide_eq_true_iff]
      exact ⟨Or.inl ⟨h, h'⟩, rfl, rfl, rfl⟩
    go_enter Tryd.func104, Tryd.ntmps104
    go_wp2_with (first | (go_at_call 88; refine (ref_sort _ hl hh _).mono ?_; rw [hk, hn]; rintro e w' ⟨rfl, rfl⟩) | (go_at_call 121; refine (ref_Channels _ (by omega) (by omega) _).mono ?_; rintro e w1 ⟨rfl, hb1⟩; obtain ⟨hcl, hfz, hz⟩ := bcell hb1; simp only [World.size_alloc] at hcl hfz hz))
    have hb2 : Below w.heap.size w w1 := below_call ((Below.refl _ _).alloc (Nat.le_refl _) _) (by simp) hb1
    exact bodyPost_ret (v := .tuple #[tri (pr (c - 256)) (pg (c - 256)) (pb (c - 256)), .bool true]) (by simp [results, Tryd.results104, go_sem, hcl]) rfl ⟨by rw [H.out.1, H.out.2.1, H.out.2.2.1, H.out.2.2.2], by go_grown⟩
  · have H : Hid (hasC c = true ∧ chR c = (c - 16777216) / 65536 ∧ chG c = (c - 16777216) / 256 % 256 ∧ chB c = (c - 16777216) % 256) := by
      unfold Hid hasC chR chG chB
      rw [if_pos ⟨h, h'⟩, if_pos ⟨h, h'⟩, if_pos ⟨h, h'⟩, decide_eq_true_iff]
      exact ⟨Or.inr ⟨h, h'⟩, by omega, by omega, by omega⟩
    go_enter Tryd.func104, Tryd.ntmps104
    go_wp2_with (go_at_call 88; refine (ref_sort _ hl hh _).mono ?_; rw [hk, hn]; rintro e w' ⟨rfl, rfl⟩)
    exact bodyPost_ret (v := .tuple #[tri ((c - 16777216) / 65536) ((c - 16777216) / 256 % 256) ((c - 16777216) % 256), .bool true]) (by simp [results, Tryd.results104, go_sem]) rfl ⟨by rw [H.out.1, H.out.2.1, H.out.2.2.1, H.out.2.2.2], by go_grown⟩
  · have H : Hid (hasC c = false ∧ chR c = 0 ∧ chG c = 0 ∧ chB c = 0) := by
      unfold Hid hasC chR chG chB
      rw [if_neg h3, if_neg h3, if_neg h3, if_neg h2, if_neg h2, if_neg h2, decide_eq_false_iff_not]
      exact ⟨by rintro (x | x) <;> contradiction, rfl, rfl, rfl⟩
    clear h h2 h3
    go_enter Tryd.func104, Tryd.ntmps104
    go_wp2_with (go_at_call 88; refine (ref_sort _ hl hh _).mono ?_; rw [hk, hn]; rintro e w' ⟨rfl, rfl⟩)
    exact bodyPost_ret (v := .tuple #[tri 0 0 0, .bool false]) (by simp [results, Tryd.results104, go_sem]) rfl ⟨by rw [H.out.1, H.out.2.1, H.out.2.2.1, H.out.2.2.2], by go_grown⟩

/-- the ranges of channels -/
theorem ch_range (c : Int) : (0 ≤ chR c ∧ chR c ≤ 255) ∧ (0 ≤ chG c ∧ chG c ≤ 255) ∧ (0 ≤ chB c ∧ chB c ≤ 255) := by
  have lv : ∀ n : Int, 0 ≤ n → n ≤ 5 → 0 ≤ lev n ∧ lev n ≤ 255 := by intro n a b; unfold lev; split <;> omega
  have bo : ∀ b lo hi : Int, 0 ≤ lo → lo ≤ 255 → 0 ≤ hi → hi ≤ 255 → 0 ≤ bitOr b lo hi ∧ bitOr b lo hi ≤ 255 := by intro b lo hi _ _ _ _; unfold bitOr; split <;> omega
  unfold chR chG chB
  by_cases h : 16777216 ≤ c ∧ c < 33554432
  · rw [if_pos h, if_pos h, if_pos h]; omega
  rw [if_neg h, if_neg h, if_neg h]
  by_cases h2 : 256 ≤ c ∧ c < 512
  · rw [if_pos h2, if_pos h2, if_pos h2]
    obtain ⟨a, b⟩ := h2
    refine ⟨?_, ?_, ?_⟩
    · unfold pr
      split
      · exact bo _ _ _ (by decide) (by decide) (by decide) (by decide)
      split
      · exact bo _ _ _ (by decide) (by decide) (by decide) (by decide)
      split
      · exact lv _ (by omega) (by omega)
      · omega
    · unfold pg
      split
      · exact bo _ _ _ (by decide) (by decide) (by decide) (by decide)
      split
      · exact bo _ _ _ (by decide) (by decide) (by decide) (by decide)
      split
      · exact lv _ (by omega) (by omega)
      · omega
    · unfold pb
      split
      · exact bo _ _ _ (by decide) (by decide) (by decide) (by decide)
      split
      · exact bo _ _ _ (by decide) (by decide) (by decide) (by decide)
      split
      · exact lv _ (by omega) (by omega)
      · omega
  · rw [if_neg h2, if_neg h2, if_neg h2]; omega


end Go.Proofs.YthcdcbibbfdjmaaDoor
