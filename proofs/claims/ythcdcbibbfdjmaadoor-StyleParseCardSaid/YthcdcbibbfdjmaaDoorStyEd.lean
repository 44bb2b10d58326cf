/- The numbers that make one style of another: the walks of the reference. -/
import Derived.Test.YthcdcbibbfdjmaaDoorStyEb
import Derived.Test.YthcdcbibbfdjmaaDoorStyC
import Derived.Deep.DeepCutAuto
namespace Go.Proofs.YthcdcbibbfdjmaaDoor
open Go Go.RowKit Go.Sort
set_option linter.unusedVariables false

theorem ref_digits (n : Int) (h0 : 0 ≤ n) (h1 : n < 1000) : Tells 74 #[.int .i64 n] (.int .i64 (digN n)) := by
  intro w
  by_cases t1 : n < 10
  · have D : Hid (digN n = 1) := Lib.hid (by unfold digN; rw [if_pos t1])
    go_enter Tryd.func74, Tryd.ntmps74
    go_wp2_with fail
    go_rounds 1
    go_ret
    exact ⟨ret_int D.out.symm, rfl⟩
  by_cases t2 : n < 100
  · have D : Hid (digN n = 2) := Lib.hid (by unfold digN; rw [if_neg t1, if_pos t2])
    have e1 : n / 10 < 10 := by omega
    have e2 : 0 ≤ n / 10 := by omega
    go_enter Tryd.func74, Tryd.ntmps74
    go_wp2_with fail
    go_rounds 2
    go_ret
    exact ⟨ret_int D.out.symm, rfl⟩
  · have D : Hid (digN n = 3) := Lib.hid (by unfold digN; rw [if_neg t1, if_neg t2])
    have e1 : 10 ≤ n / 10 := by omega
    have e3 : n / 10 / 10 < 10 := by omega
    have e4 : 0 ≤ n / 10 / 10 := by omega
    go_enter Tryd.func74, Tryd.ntmps74
    go_wp2_with fail
    go_rounds 3
    go_ret
    exact ⟨ret_int D.out.symm, rfl⟩

set_option maxHeartbeats 4000000 in
theorem ref_Bytes (A : Option Addr) (c : Nat) (xs : List Int) (hx : ∀ x ∈ xs, 0 ≤ x ∧ x < 1000) (hm : xs.length ≤ 1000) (w : World) (h : Sees w w.heap.size A (ints xs)) :
    Calls Tryd.prog 39 #[.slice A xs.length c] w fun e w' => e = .returned (.int .i64 (bytesL xs)) ∧ w = w' := by
  have F := Lib.hid (fun (k : Nat) (hk : k < xs.length) => h.at (k := k) (by simpa [ints] using hk))
  have HX := Lib.hid hx
  obtain ⟨n, hn⟩ : ∃ n, n = xs.length := ⟨_, rfl⟩
  have HN := Lib.hid hn
  rw [← hn] at hm ⊢
  have SB := Lib.hid (fun k hk => bytesK_bound xs k hk)
  clear h hx hn
  go_enter Tryd.func39, Tryd.ntmps39
  go_wp2_with fail
  go_loop [3, 4] (fun s i => ∃ (k : Nat) (z : Int), k ≤ n ∧ i = .int .i64 k ∧ s = .int .i64 z ∧ Hid (z = bytesK xs k)) (fun _ i => n - (intOf i).toNat)
  case atStart => exact ⟨0, _, by omega, rfl, rfl, Lib.hid rfl⟩
  case round =>
    obtain ⟨k, z, hk, rfl, rfl, hz⟩ := hrel
    have zb : 0 ≤ z ∧ z ≤ 4000 := by
      have := SB.out k (by have := HN.out; omega)
      have e := hz.out
      omega
    obtain ⟨zb1, zb2⟩ := zb
    by_cases lt : k < n
    · have kl : k < xs.length := by have := HN.out; omega
      obtain ⟨ad, rfl, hb, hc0⟩ := F.out k kl
      have NX := Lib.hid (bytesK_next xs k kl)
      obtain ⟨x0, x1⟩ := HX.out xs[k] (List.getElem_mem _)
      have hc : w.cell? (ad.add k) = some (.int .i64 xs[k]) := by rw [hc0]; simp [ints]
      have D := Lib.hid (ref_digits _ x0 x1)
      have DB : 1 ≤ digN xs[k] ∧ digN xs[k] ≤ 3 := by unfold digN; split; decide; split <;> decide
      obtain ⟨db1, db2⟩ := DB
      clear hc0
      generalize digN xs[k] = dn at *
      by_cases k0 : 0 < k
      · go_wp2_with (go_at_call 74; refine (D.out _).mono ?_; rintro e w' ⟨rfl, rfl⟩)
        go_round
        case rel => exact ⟨k + 1, _, by omega, by go_num, rfl, Lib.hid (by rw [NX.out, hz.out, if_neg (by omega)])⟩
        case measure => simp [intOf]; omega
      · have kz : ¬ (0 : Int) < (k : Int) := by omega
        go_wp2_with (go_at_call 74; refine (D.out _).mono ?_; rintro e w' ⟨rfl, rfl⟩)
        go_round
        case rel => exact ⟨k + 1, _, by omega, by go_num, rfl, Lib.hid (by rw [NX.out, hz.out, if_pos (by omega)]; omega)⟩
        case measure => simp [intOf]; omega
    · have e : k = n := by omega
      subst e
      have E : Hid (z = bytesL xs) := Lib.hid (by rw [hz.out, HN.out]; exact bytesK_all xs)
      go_wp2_with fail
      go_ret
      exact ⟨ret_int E.out, rfl⟩

theorem ref_bit6 (a : B8) (k : Nat) (h : k < 8) : Tells 66 #[.int .u8 (bI a), .int .i64 (k : Int)] (.bool (a.getLsbD k)) := by
  intro w
  have hb := b8_bit a k h
  have hs : bI a / 2 ^ min (Int.toNat (k : Int)) 8 = bI a / 2 ^ k := by rw [Int.toNat_natCast, Nat.min_eq_left (by omega)]
  have GB := bI_lt a
  cases e : a.getLsbD k
  all_goals
    rw [e] at hb
    simp only [Bool.false_eq_true, if_false, if_true] at hb
    clear e
    go_enter Tryd.func66, Tryd.ntmps66
    go_wp2
    go_ret
    exact ⟨rfl, rfl⟩

set_option maxHeartbeats 4000000 in
theorem ref_colored (c more : Int) (hc : inSty c) (hm : more = 0 ∨ more = 10) (w : World) : Calls Tryd.prog 73 #[.int .i32 c, .int .i64 more] w (RowRet w (colL c (30 + more))) := by
  have FIN : Hid (∀ L : List Int, colL c (30 + more) = L → RowRet w (colL c (30 + more)) (.returned (.slice (some ⟨w.heap.size, 0, none⟩) L.length L.length)) (w.alloc (.cells (ints L).toArray 3))) := Lib.hid (fun L e => by
    rw [e]
    exact ⟨_, rfl, ⟨_, rfl, by simp, fun i u h => (new_cell w (ints L) 3 i u h).1⟩, Nat.le_refl _, (Below.refl _ _).alloc (Nat.le_refl _) _⟩)
  have m0 : 0 ≤ more := by omega
  have m1 : more ≤ 10 := by omega
  clear hm
  rcases hc with rfl | ⟨c0, c1⟩ | ⟨c0, c1⟩
  · go_enter Tryd.func73, Tryd.ntmps73
    go_wp2
    go_ret
    exact FIN.out [39 + more] (by unfold colL; rw [if_pos rfl]; congr 1; omega)
  · by_cases t1 : 272 ≤ c
    · go_enter Tryd.func73, Tryd.ntmps73
      go_wp2
      go_ret
      exact FIN.out [38 + more, 5, c - 256] (by unfold colL; rw [if_neg (by omega), if_neg (by omega), if_pos t1]; congr 1; omega)
    by_cases t2 : 264 ≤ c
    · go_enter Tryd.func73, Tryd.ntmps73
      go_wp2
      go_ret
      exact FIN.out [90 + more + c - 256 - 8] (by unfold colL; rw [if_neg (by omega), if_neg (by omega), if_neg (by omega), if_pos (by omega)]; congr 1; omega)
    · go_enter Tryd.func73, Tryd.ntmps73
      go_wp2
      go_ret
      exact FIN.out [30 + more + c - 256] (by unfold colL; rw [if_neg (by omega), if_neg (by omega), if_neg (by omega), if_neg (by omega)]; congr 1; omega)
  · obtain ⟨N, hN⟩ : ∃ N, N = c - 16777216 := ⟨_, rfl⟩
    have n0 : 0 ≤ N := by omega
    have n1 : N < 16777216 := by omega
    have ec : c = N + 16777216 := by omega
    subst ec
    have en : N + 16777216 - 16777216 = N := by omega
    clear hN
    go_enter Tryd.func73, Tryd.ntmps73
    go_wp2
    go_ret
    exact FIN.out [38 + more, 2, N / 65536, N / 256 % 256, N % 256] (by unfold colL; rw [if_neg (by omega), if_pos c0, en]; congr 1; omega)

/-- an append of a whole row to the first of two -/
theorem wp_appL {ops : Array Oper} {rest : List Oper} {o : Oper} {a : Act} {Q : Exit → Act → World → Prop} {W0 w : World} {v1 v2 : Value} {l1 l2 : List Int} (P : Pair W0 w v1 v2 l1 l2) (s x : Operand) (L : List Int) (g : Nat) (hm : l1.length + L.length ≤ 2000) (hgd : o.guard = none)
    (ho : o.op = .call { callee := .builtin .append, args := #[s, x], argTypes := #[25, 25] }) (hs : a.eval s = v1) (hx : a.eval x = .slice (some ⟨g, 0, none⟩) L.length L.length) (hS : Shows L.length (ints L) (.slice (some ⟨g, 0, none⟩) L.length L.length) w)
    (h : ∀ v' w', Hid (Pair W0 w' v' v2 (l1 ++ L) l2) → wpList Tryd.prog ops Q rest (a.put o.dst v') w') : wpList Tryd.prog ops Q (o :: rest) a w := by
  obtain ⟨i0, hi0, hz0, hz1, hz2⟩ := info_parts infoI
  obtain ⟨_, e, _, hc⟩ := hS
  cases e
  refine wpList_append_own_at _ hgd s x 25 ho W0.heap.size 3 i0 (.int .i64 0) 1 8 Tryd.underlying25 hi0 hz0 hz1 hz2 rfl (by decide) v1 l1.length (ints l1) hs P.o1 ⟨g, 0, none⟩ L.length L.length (ints L) hx (by simp [ints]) (fun j u hu => by
      have : ((⟨g, 0, none⟩ : Addr).add j) = ⟨g, j, none⟩ := by
        unfold Addr.add
        split
        · rename_i z; rw [z]
        · simp
      rw [this]; exact hc j u hu)
    (fun u hu => by unfold ints at hu; obtain ⟨y, _, rfl⟩ := List.mem_map.1 hu; rfl) (by unfold maxLen; omega) (by omega) P.be.size ?_
  intro v' w' h1 h2 _ h4
  refine h v' w' (Lib.hid (P.one ?_ h2 ?_))
  · rw [List.length_append, ints_app]; exact h1
  · rcases h4 with e | e
    · exact Or.inl e
    · exact Or.inr ⟨_, e, Nat.le_refl _⟩

theorem own_new (w : World) (L : List Int) (h : L.length ≤ 1000) : (w.alloc (.cells (ints L).toArray 3)).ownsRow w.heap.size 3 1 (.slice (some ⟨w.heap.size, 0, none⟩) L.length L.length) L.length (ints L) :=
  ⟨by simp [ints], Or.inr ⟨w.heap.size, L.length, (ints L).toArray, rfl, Nat.le_refl _, Array.getElem?_push_size, Nat.le_refl _, by unfold maxLen; omega, by simp [ints], by rw [Nat.mul_one, List.take_of_length_le (by simp [ints])]⟩⟩
theorem ref_sets6 (w : World) : Calls Tryd.prog 72 #[] w fun e w' => e = .returned (.slice (some ⟨w.heap.size, 0, none⟩) 8 8) ∧ w' = w.alloc (.cells (ints setsL).toArray 3) := by
  go_enter Tryd.func72, Tryd.ntmps72
  go_wp2
  go_ret
  exact ⟨rfl, rfl⟩
theorem ref_takes6 (w : World) : Calls Tryd.prog 71 #[] w fun e w' => e = .returned (.slice (some ⟨w.heap.size, 0, none⟩) 8 8) ∧ w' = w.alloc (.cells (ints takesL).toArray 3) := by
  go_enter Tryd.func71, Tryd.ntmps71
  go_wp2
  go_ret
  exact ⟨rfl, rfl⟩
theorem Pair.call {W0 w w' : World} {v1 v2 : Value} {l1 l2 : List Int} (h : Pair W0 w v1 v2 l1 l2) (hb : Below w.heap.size w w') : Pair W0 w' v1 v2 l1 l2 :=
  ⟨own_call h.o1 hb, own_call h.o2 hb, h.ap, below_call h.be h.be.size hb⟩
end Go.Proofs.YthcdcbibbfdjmaaDoor
