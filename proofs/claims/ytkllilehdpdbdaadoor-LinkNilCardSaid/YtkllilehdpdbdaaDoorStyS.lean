/- How long a row of numbers is; a colour's numbers put behind a row: the program's walks. -/
import Derived.Test.YtkllilehdpdbdaaDoorStyO
import Derived.Test.YtkllilehdpdbdaaDoorStyPl
import Derived.Test.YtkllilehdpdbdaaDoorRows2
import Derived.Laws.AppendOwnNone
import Derived.Maps.AppendAt
namespace Go.Proofs.YtkllilehdpdbdaaDoor
open Go.RowKit Go.Sort
set_option linter.unusedVariables false

def ints (l : List Int) : List Value := l.map (.int .i64)
theorem ints_app (a b : List Int) : ints (a ++ b) = ints a ++ ints b := by simp [ints]
theorem ints_len (a : List Int) : (ints a).length = a.length := by simp [ints]

def sumD (l : List Int) : Int := (l.map digN).sum
theorem sumD_snoc (l : List Int) (x : Int) : sumD (l ++ [x]) = sumD l + digN x := by unfold sumD; simp
theorem sumD_bound (l : List Int) : 0 ≤ sumD l ∧ sumD l ≤ 3 * l.length := by
  unfold sumD
  induction l with
  | nil => simp
  | cons x r ih =>
    rw [List.map_cons, List.sum_cons, List.length_cons]
    have := digN_pos x
    have : digN x ≤ 3 := by unfold digN; split; decide; split <;> decide
    omega

set_option maxHeartbeats 4000000 in
set_option maxRecDepth 100000 in
theorem st_size (A : Option Addr) (c : Nat) (xs : List Int) (hx : ∀ x ∈ xs, 0 ≤ x ∧ x < 1000) (hm : xs.length ≤ 1000) (w : World) (h : Sees w w.heap.size A (ints xs)) :
    Calls Tryd.prog 50 #[.slice A xs.length c] w fun e w' => e = .returned (.int .i64 (sizeL xs)) ∧ w = w' := by
  have F := Lib.hid (fun (k : Nat) (hk : k < xs.length) => h.at (k := k) (by simpa [ints] using hk))
  have HX := Lib.hid hx
  obtain ⟨n, hn⟩ : ∃ n, n = xs.length := ⟨_, rfl⟩
  have HN := Lib.hid hn
  rw [← hn] at hm ⊢
  have SB := Lib.hid (fun k => sumD_bound (xs.take k))
  clear h hx hn
  go_enter Tryd.func50, Tryd.ntmps50
  go_wp2_with fail
  go_loop [3, 11] (fun s i => ∃ (k : Nat) (z : Int), k ≤ n ∧ i = .int .i64 k ∧ s = .int .i64 z ∧ Hid (z = (n : Int) - 1 + sumD (xs.take k))) (fun _ i => n - (intOf i).toNat)
  case atStart => exact ⟨0, _, by omega, rfl, rfl, Lib.hid (by simp [sumD])⟩
  case round =>
    obtain ⟨k, z, hk, rfl, rfl, hz⟩ := hrel
    have zb : -1 ≤ z ∧ z ≤ 4000 := by
      have := SB.out k
      have l := List.length_take_le k xs
      have e := hz.out
      have := HN.out
      omega
    obtain ⟨zb1, zb2⟩ := zb
    by_cases lt : k < n
    · have kl : k < xs.length := by have := HN.out; omega
      obtain ⟨ad, rfl, hb, hc0⟩ := F.out k kl
      have NX : Hid (sumD (xs.take (k + 1)) = sumD (xs.take k) + digN xs[k]) := Lib.hid (by rw [List.take_succ_eq_append_getElem kl, sumD_snoc])
      obtain ⟨x0, x1⟩ := HX.out xs[k] (List.getElem_mem _)
      have hc : w.cell? (ad.add k) = some (.int .i64 xs[k]) := by rw [hc0]; simp [ints]
      clear hc0
      generalize xs[k] = x at *
      by_cases t1 : x < 10
      · have D : Hid (digN x = 1) := Lib.hid (by unfold digN; rw [if_pos t1])
        go_wp2_with fail
        go_rounds 1
        go_round
        case rel => exact ⟨k + 1, _, by omega, by go_num, rfl, Lib.hid (by rw [NX.out, D.out, hz.out]; omega)⟩
        case measure => simp [intOf]; omega
      by_cases t2 : x < 100
      · have D : Hid (digN x = 2) := Lib.hid (by unfold digN; rw [if_neg t1, if_pos t2])
        have e1 : x / 10 < 10 := by omega
        have e2 : 0 ≤ x / 10 := by omega
        go_wp2_with fail
        go_rounds 2
        go_round
        case rel => exact ⟨k + 1, _, by omega, by go_num, rfl, Lib.hid (by rw [NX.out, D.out, hz.out]; omega)⟩
        case measure => simp [intOf]; omega
      · have D : Hid (digN x = 3) := Lib.hid (by unfold digN; rw [if_neg t1, if_neg t2])
        have e1 : 10 ≤ x / 10 := by omega
        have e3 : x / 10 / 10 < 10 := by omega
        have e4 : 0 ≤ x / 10 / 10 := by omega
        go_wp2_with fail
        go_rounds 3
        go_round
        case rel => exact ⟨k + 1, _, by omega, by go_num, rfl, Lib.hid (by rw [NX.out, D.out, hz.out]; omega)⟩
        case measure => simp [intOf]; omega
    · have e : k = n := by omega
      subst e
      have E : Hid (z = sizeL xs) := Lib.hid (by rw [hz.out, HN.out, List.take_length]; unfold sizeL sumD; omega)
      go_wp2_with fail
      go_ret
      exact ⟨ret_int E.out, rfl⟩
theorem infoI : (Tryd.prog.info? 3).map (fun i => (i.zero, i.size, i.bytes)) = some (some (.int .i64 0), 1, 8) := by kernel_rfl

theorem newsL (w : World) (l : List Value) (T : TypeId) : ∀ (j : Nat) (u : Value), l[j]? = some u → (w.alloc (.cells l.toArray T)).cell? ((⟨w.heap.size, 0, none⟩ : Addr).add j) = some u := by
  intro j u h
  have hj : j < l.length := (List.getElem?_eq_some_iff.1 h).1
  have e : ((⟨w.heap.size, 0, none⟩ : Addr).add j) = ⟨w.heap.size, j, none⟩ := by
    unfold Addr.add
    split
    · rename_i z; rw [z]
    · simp
  rw [e]
  simp [go_sem, h]

theorem grown_alloc {w w' : World} {row : Option Nat} {o : Obj} (h : (w.alloc o).grownBy w' row) : w.grownBy w' row :=
  ⟨h.os, h.tape, h.output, Nat.le_trans (by simp) h.size, fun i hi hr => (h.block i (by simp; omega) hr).trans (((Below.refl w.heap.size w).alloc (Nat.le_refl _) o).block i hi)⟩

/-- a row of numbers that a call appends to -/
def AppRet (lo : Nat) (w : World) (v : Value) (ys : List Int) (e : Ending) (w' : World) : Prop :=
  ∃ v', e = .returned v' ∧ w'.ownsRow lo 3 1 v' ys.length (ints ys) ∧ w.grownBy w' v.ownBlock ∧ (v'.ownBlock = v.ownBlock ∨ ∃ g, v'.ownBlock = some g ∧ w.heap.size ≤ g)

theorem i64_low (n : Int) : bits .and .i64 n 255 = n % 256 := by
  have h : (BitVec.ofInt 64 255).toNat = 2 ^ 8 - 1 := by decide
  have k : (BitVec.ofInt 64 n &&& BitVec.ofInt 64 255).toNat = (n % ((2 ^ 64 : Nat) : Int)).toNat % 2 ^ 8 := by
    rw [BitVec.toNat_and, BitVec.toNat_ofInt, h, Nat.and_two_pow_sub_one_eq_mod]
  show IntKind.i64.wrap ((BitVec.ofInt 64 n &&& BitVec.ofInt 64 255).toNat : Nat) = n % 256
  rw [k, IntKind.wrap_i64]
  omega

set_option maxHeartbeats 4000000 in
set_option maxRecDepth 100000 in
theorem st_color (lo : Nat) (v : Value) (xs : List Int) (c base : Int) (hc : inSty c) (hb0 : 0 ≤ base) (hb1 : base ≤ 1000) (hm : xs.length ≤ 1000) (w : World) (hlo : lo ≤ w.heap.size) (h : w.ownsRow lo 3 1 v xs.length (ints xs)) :
    Calls Tryd.prog 49 #[v, .int .i32 c, .int .i64 base] w (AppRet lo w v (xs ++ colL c base)) := by
  obtain ⟨i0, hi0, hz0, hz1, hz2⟩ := info_parts infoI
  have O1 := Lib.hid (fun (l : List Int) (hl : l.length ≤ 5) => show ∀ (v' : Value) (w3 : World), w3.ownsRow lo 3 1 v' (xs.length + l.length) (ints xs ++ ints l) → (w.alloc (.cells (ints l).toArray 3)).grownBy w3 v.ownBlock → (v'.ownBlock = v.ownBlock ∨ v'.ownBlock = some (w.alloc (.cells (ints l).toArray 3)).heap.size) → AppRet lo w v (xs ++ l) (.returned v') w3 from
    fun v' w3 a b d => ⟨v', rfl, by rw [List.length_append, ints_app]; exact a, grown_alloc b, d.imp id fun e => ⟨_, e, by simp⟩⟩)
  have H := Lib.hid (fun (l : List Int) => h.alloc (.cells (ints l).toArray 3))
  have NL := Lib.hid (fun (l : List Int) => newsL w (ints l) 3)
  obtain ⟨n, hn⟩ : ∃ n, n = xs.length := ⟨_, rfl⟩
  have HN := Lib.hid hn
  have H2 : ∀ k, k ≤ 5 → xs.length + k ≤ maxLen ∧ (xs.length + k) * 8 ≤ 140737488355328 := fun k hk => by unfold maxLen; omega
  have H2 := Lib.hid H2
  have H4 : ∀ l : List Int, lo ≤ (w.alloc (.cells (ints l).toArray 3)).heap.size := fun l => by simp; omega
  have H4 := Lib.hid H4
  have H1 := Lib.hid (fun (l : List Int) => show ∀ u ∈ ints l, u.oneCell' = true from fun u hu => by
    unfold ints at hu
    obtain ⟨x, _, rfl⟩ := List.mem_map.1 hu
    rfl)
  clear h hn hm hlo
  rcases hc with rfl | ⟨c0, c1⟩ | ⟨c0, c1⟩
  · have E : Hid (colL 0 base = [base + 9]) := Lib.hid rfl
    go_enter Tryd.func49, Tryd.ntmps49
    go_wp2_with (at_builtin; refine wpList_append_own_at _ rfl (.tmp 11) (.tmp 14) 74 rfl lo 3 i0 (.int .i64 0) 1 8 Tryd.underlying74 hi0 hz0 hz1 hz2 rfl (by decide) v xs.length (ints xs) rfl (H.out [base + 9]) ⟨w.heap.size, 0, none⟩ 1 1 (ints [base + 9]) rfl rfl (NL.out [base + 9]) (H1.out _) (H2.out 1 (by decide)).1 (H2.out 1 (by decide)).2 (H4.out [base + 9]) ?_; intro v' w3 hown3 hg3 _ hat3)
    have R := O1.out [base + 9] (by simp) v' w3 hown3 hg3 hat3
    have R := Lib.hid R
    clear hown3 hg3 hat3
    go_wp2_with fail
    go_ret
    rw [E.out]
    exact R.out
  · by_cases t1 : 272 ≤ c
    · have E : Hid (colL c base = [base + 8, 5, c - 256]) := Lib.hid (by unfold colL; rw [if_neg (by omega), if_neg (by omega), if_pos t1])
      go_enter Tryd.func49, Tryd.ntmps49
      go_wp2_with (at_builtin; refine wpList_append_own_at _ rfl (.tmp 37) (.tmp 43) 74 rfl lo 3 i0 (.int .i64 0) 1 8 Tryd.underlying74 hi0 hz0 hz1 hz2 rfl (by decide) v xs.length (ints xs) rfl (H.out [base + 8, 5, c - 256]) ⟨w.heap.size, 0, none⟩ 3 3 (ints [base + 8, 5, c - 256]) rfl rfl (NL.out [base + 8, 5, c - 256]) (H1.out _) (H2.out 3 (by decide)).1 (H2.out 3 (by decide)).2 (H4.out [base + 8, 5, c - 256]) ?_; intro v' w3 hown3 hg3 _ hat3)
      have R := O1.out [base + 8, 5, c - 256] (by simp) v' w3 hown3 hg3 hat3
      have R := Lib.hid R
      clear hown3 hg3 hat3
      go_wp2_with fail
      go_ret
      rw [E.out]
      exact R.out
    by_cases t2 : 264 ≤ c
    · have E : Hid (colL c base = [base + 60 + (c - 256 - 8)]) := Lib.hid (by unfold colL; rw [if_neg (by omega), if_neg (by omega), if_neg t1, if_pos t2, show c - 256 - 8 = c - 264 by omega])
      go_enter Tryd.func49, Tryd.ntmps49
      go_wp2_with (at_builtin; refine wpList_append_own_at _ rfl (.tmp 48) (.tmp 56) 74 rfl lo 3 i0 (.int .i64 0) 1 8 Tryd.underlying74 hi0 hz0 hz1 hz2 rfl (by decide) v xs.length (ints xs) rfl (H.out [base + 60 + (c - 256 - 8)]) ⟨w.heap.size, 0, none⟩ 1 1 (ints [base + 60 + (c - 256 - 8)]) rfl rfl (NL.out [base + 60 + (c - 256 - 8)]) (H1.out _) (H2.out 1 (by decide)).1 (H2.out 1 (by decide)).2 (H4.out [base + 60 + (c - 256 - 8)]) ?_; intro v' w3 hown3 hg3 _ hat3)
      have R := O1.out [base + 60 + (c - 256 - 8)] (by simp) v' w3 hown3 hg3 hat3
      have R := Lib.hid R
      clear hown3 hg3 hat3
      go_wp2_with fail
      go_ret
      rw [E.out]
      exact R.out
    · have E : Hid (colL c base = [base + (c - 256)]) := Lib.hid (by unfold colL; rw [if_neg (by omega), if_neg (by omega), if_neg t1, if_neg t2])
      go_enter Tryd.func49, Tryd.ntmps49
      go_wp2_with (at_builtin; refine wpList_append_own_at _ rfl (.tmp 58) (.tmp 64) 74 rfl lo 3 i0 (.int .i64 0) 1 8 Tryd.underlying74 hi0 hz0 hz1 hz2 rfl (by decide) v xs.length (ints xs) rfl (H.out [base + (c - 256)]) ⟨w.heap.size, 0, none⟩ 1 1 (ints [base + (c - 256)]) rfl rfl (NL.out [base + (c - 256)]) (H1.out _) (H2.out 1 (by decide)).1 (H2.out 1 (by decide)).2 (H4.out [base + (c - 256)]) ?_; intro v' w3 hown3 hg3 _ hat3)
      have R := O1.out [base + (c - 256)] (by simp) v' w3 hown3 hg3 hat3
      have R := Lib.hid R
      clear hown3 hg3 hat3
      go_wp2_with fail
      go_ret
      rw [E.out]
      exact R.out
  · obtain ⟨N, hN⟩ : ∃ N, N = c - 16777216 := ⟨_, rfl⟩
    have E : Hid (colL c base = [base + 8, 2, N / 65536, N / 256 % 256, N % 256]) := Lib.hid (by unfold colL; rw [if_neg (by omega), if_pos c0, ← hN])
    have n0 : 0 ≤ N := by omega
    have n1 : N < 16777216 := by omega
    have ec : c = N + 16777216 := by omega
    subst ec
    have en : N + 16777216 - 16777216 = N := by omega
    have b1 := i64_low (N / 256)
    have b2 := i64_low N
    clear hN
    go_enter Tryd.func49, Tryd.ntmps49
    go_wp2_with (at_builtin; refine wpList_append_own_at _ rfl (.tmp 22) (.tmp 32) 74 rfl lo 3 i0 (.int .i64 0) 1 8 Tryd.underlying74 hi0 hz0 hz1 hz2 rfl (by decide) v xs.length (ints xs) rfl (H.out [base + 8, 2, N / 65536, N / 256 % 256, N % 256]) ⟨w.heap.size, 0, none⟩ 5 5 (ints [base + 8, 2, N / 65536, N / 256 % 256, N % 256]) rfl rfl (NL.out [base + 8, 2, N / 65536, N / 256 % 256, N % 256]) (H1.out _) (H2.out 5 (by decide)).1 (H2.out 5 (by decide)).2 (H4.out [base + 8, 2, N / 65536, N / 256 % 256, N % 256]) ?_; intro v' w3 hown3 hg3 _ hat3)
    have R := O1.out [base + 8, 2, N / 65536, N / 256 % 256, N % 256] (by simp) v' w3 hown3 hg3 hat3
    have R := Lib.hid R
    clear hown3 hg3 hat3
    go_wp2_with fail
    go_ret
    rw [E.out]
    exact R.out
end Go.Proofs.YtkllilehdpdbdaaDoor
