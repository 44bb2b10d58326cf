/- The law's own functions on slices of colours: lent, same, kept, spoil, grown, marked, turn. -/
import Derived.Test.YtpbpkdhdjdaiiaaDoorRampR
import Derived.Test.YtpbpkdhdjdaiiaaDoorRows2
import Derived.Laws.AppendOwnNone
import Derived.Maps.AppendAt
namespace Go.Proofs.YtpbpkdhdjdaiiaaDoor
open Go.RowKit
set_option linter.unusedVariables false

theorem below_of_grown {B : Nat} {w0 w w' : World} (h : Below B w0 w) (hg : w.grownBy w' none) (hB : B ≤ w.heap.size) : Below B w0 w' := h.grown hg hB (fun k e => by cases e)

set_option maxHeartbeats 2000000 in
theorem law_same (A1 A2 : Option Addr) (c1 c2 : Nat) (xs : List Int) (hm : xs.length ≤ 100000000000000) (w : World) (h1 : Sees w w.heap.size A1 (xs.map (.int .i32))) (h2 : Sees w w.heap.size A2 (xs.map (.int .i32))) :
    Calls Tryd.prog 38 #[.slice A1 xs.length c1, .slice A2 xs.length c2] w fun e w' => e = .returned (.bool true) ∧ Below w.heap.size w w' := by
  have F1 := Lib.hid (fun (k : Nat) (hk : k < xs.length) => h1.at (k := k) (by simpa using hk))
  have F2 := Lib.hid (fun (k : Nat) (hk : k < xs.length) => h2.at (k := k) (by simpa using hk))
  clear h1 h2
  obtain ⟨m, hmm⟩ : ∃ m, m = xs.length := ⟨_, rfl⟩
  have HM := Lib.hid hmm
  rw [← hmm] at hm ⊢
  clear hmm
  go_enter Tryd.func38, Tryd.ntmps38
  go_wp2_with fail
  go_loopw [13] (fun i wr => ∃ k : Nat, k ≤ m ∧ i = .int .i64 k ∧ ∃ q, Hid (wr = w.drewN q)) (fun i _ => m - (intOf i).toNat)
  case atStart => exact ⟨0, Nat.zero_le _, rfl, 0, rfl⟩
  case round =>
    obtain ⟨k, hk, rfl, q, hq⟩ := hrel
    have hq := hq.out
    subst hq
    by_cases lt : k < m
    · obtain ⟨a1, rfl, _, g1⟩ := F1.out k (by have := HM.out; omega)
      obtain ⟨a2, rfl, _, g2⟩ := F2.out k (by have := HM.out; omega)
      rw [List.getElem_map] at g1 g2
      generalize xs[k] = x at *
      go_wp2_with fail
      go_quiet (fail)
      go_wp2_with fail
      go_roundw
      case rel => exact ⟨k + 1, by omega, by go_num, _, Lib.hid rfl⟩
      case measure => simp [intOf]; omega
    · go_wp2_with fail
      go_ret
      exact ⟨rfl, below_drewN (Below.refl _ _) _⟩

set_option maxHeartbeats 2000000 in
theorem law_kept (g lo : Nat) (A : Option Addr) (c : Nat) (xs : List Int) (hm : xs.length ≤ 100000000000000) (w : World)
    (h1 : w.ownsRow lo 22 1 (.slice (some ⟨g, 0, none⟩) (xs.length + 70) (xs.length + 70)) (xs.length + 70) (xs.map (.int .i32) ++ List.replicate 70 (.int .i32 (-77)))) (h2 : Sees w w.heap.size A (xs.map (.int .i32))) :
    Calls Tryd.prog 39 #[.slice (some ⟨g, 0, none⟩) xs.length (xs.length + 70), .slice A xs.length c] w fun e w' => e = .returned (.bool true) ∧ Below w.heap.size w w' := by
  have F1 := Lib.hid (fun (k : Nat) (h0 : xs.length ≤ k) (hk : k < xs.length + 70) => show w.cell? ⟨g, k, none⟩ = some (.int .i32 (-77)) by
    rw [h1.cellAt k (by omega), List.getElem?_append_right (by simpa using h0), List.getElem?_replicate, if_pos (by simp; omega)])
  have h3 := own_take h1 (m := xs.length) (by omega)
  rw [List.take_append_of_le_length (by simp), List.take_of_length_le (by simp)] at h3
  have S := Lib.hid (law_same (some ⟨g, 0, none⟩) A (xs.length + 70) c xs hm w (Sees.of_own h3) h2)
  clear h1 h2 h3
  generalize xs.length = m at *
  go_enter Tryd.func39, Tryd.ntmps39
  go_wp2_with fail
  go_loop [6] (fun i => ∃ k : Nat, m ≤ k ∧ k ≤ m + 70 ∧ i = .int .i64 k) (fun i => m + 70 - (intOf i).toNat)
  case atStart => exact ⟨m, by omega, by omega, rfl⟩
  case round =>
    obtain ⟨k, k0, k1, rfl⟩ := hrel
    by_cases lt : k < m + 70
    · have g1 := F1.out k k0 lt
      go_wp2_with fail
      go_round
      case rel => exact ⟨k + 1, by omega, by omega, by go_num⟩
      case measure => simp [intOf]; omega
    · go_wp2_with fail
      refine S.out.mono ?_; rintro e w' ⟨rfl, hb⟩
      go_wp2_with fail
      go_ret
      exact ⟨rfl, hb⟩

set_option maxHeartbeats 2000000 in
theorem law_marked (A : Option Addr) (c n : Nat) (mark : Int) (hm : n ≤ 100000000000000) (w : World) (h1 : Sees w w.heap.size A (List.replicate n (.int .i32 mark))) :
    Calls Tryd.prog 42 #[.slice A n c, .int .i32 mark] w fun e w' => e = .returned (.bool true) ∧ Below w.heap.size w w' := by
  have F1 := Lib.hid (fun (k : Nat) (hk : k < n) => h1.at (k := k) (by simpa using hk))
  clear h1
  go_enter Tryd.func42, Tryd.ntmps42
  go_wp2_with fail
  go_loop [8] (fun i => ∃ k : Nat, k ≤ n ∧ i = .int .i64 k) (fun i => n - (intOf i).toNat)
  case atStart => exact ⟨0, Nat.zero_le _, rfl⟩
  case round =>
    obtain ⟨k, hk, rfl⟩ := hrel
    by_cases lt : k < n
    · obtain ⟨a1, rfl, _, g1⟩ := F1.out k lt
      rw [List.getElem_replicate] at g1
      go_wp2_with fail
      go_round
      case rel => exact ⟨k + 1, by omega, by go_num⟩
      case measure => simp [intOf]; omega
    · go_wp2_with fail
      go_ret
      exact ⟨rfl, Below.refl _ _⟩

/-- the first k places written over -/
def overK (xs : List Value) (m : Value) (k : Nat) : List Value := List.replicate k m ++ xs.drop k
theorem overK_set (xs : List Value) (m : Value) (k : Nat) (h : k < xs.length) : (overK xs m k).set k m = overK xs m (k + 1) := by
  unfold overK
  rw [List.set_append_right _ _ (by simp), List.length_replicate, Nat.sub_self, List.drop_eq_getElem_cons h, List.set_cons_zero, List.replicate_succ', List.append_assoc]
  rfl
theorem overK_len (xs : List Value) (m : Value) (k : Nat) (h : k ≤ xs.length) : (overK xs m k).length = xs.length := by simp [overK]; omega

set_option maxHeartbeats 2000000 in
theorem law_spoil (v : Value) (n lo : Nat) (xs : List Value) (mark : Int) (hm : n ≤ 100000000000000) (w : World) (h : w.ownsRow lo 22 1 v n xs) :
    Calls Tryd.prog 40 #[v, .int .i32 mark] w fun e w' => e = .returned (.tuple #[]) ∧ w'.ownsRow lo 22 1 v n (List.replicate n (.int .i32 mark)) ∧ w.grownBy w' v.ownBlock := by
  obtain ⟨hl, hf⟩ := own_form h
  rcases hf with ⟨rfl, rfl⟩ | ⟨g, c, rfl, _, _, _, _⟩
  · have e : xs = [] := List.eq_nil_of_length_eq_zero hl
    subst e
    go_enter Tryd.func40, Tryd.ntmps40
    go_wp2_with fail
    refine wp_loop_rounds 1 ?_
    rw [rounds_succ]
    go_wp2_with fail
    go_end0
    exact ⟨rfl, World.ownsRow_nil _ _ _ _, World.grownBy.refl _ _⟩
  · have H := Lib.hid h
    have HL := Lib.hid hl
    clear h hl
    go_enter Tryd.func40, Tryd.ntmps40
    go_wp2_with fail
    go_loopw [7] (fun i wr => ∃ k : Nat, k ≤ n ∧ i = .int .i64 k ∧ wr.ownsRow lo 22 1 (.slice (some ⟨g, 0, none⟩) n c) n (overK xs (.int .i32 mark) k) ∧ w.grownBy wr (some g)) (fun i _ => n - (intOf i).toNat)
    case atStart => exact ⟨0, Nat.zero_le _, rfl, by simpa [overK] using H.out, World.grownBy.refl _ _⟩
    case round =>
      obtain ⟨k, hk, rfl, ho, hg⟩ := hrel
      by_cases lt : k < n
      · have c0 := ho.cellAt k (by omega)
        rw [List.getElem?_eq_getElem (by rw [overK_len _ _ _ (by have := HL.out; omega)]; have := HL.out; omega)] at c0
        have f0 := ho.frozenAt k
        have st := (ho.stored k (.int .i32 mark))
        have OW : Hid ((wr.setCell ⟨g, k, none⟩ (.int .i32 mark)).ownsRow lo 22 1 (.slice (some ⟨g, 0, none⟩) n c) n (overK xs (.int .i32 mark) (k + 1))) := by
          rw [← overK_set _ _ _ (by have := HL.out; omega)]; exact Lib.hid st.1
        have GW : w.grownBy (wr.setCell ⟨g, k, none⟩ (.int .i32 mark)) (some g) := hg.trans st.2
        clear ho st hg
        go_wp2_with fail
        go_roundw
        case rel => exact ⟨k + 1, by omega, by go_num, OW.out, GW⟩
        case measure => simp [intOf]; omega
      · have e : k = n := by omega
        subst e
        go_wp2_with fail
        go_end0
        refine ⟨rfl, ?_, hg⟩
        have l := HL.out
        subst l
        simpa [overK] using ho

set_option maxHeartbeats 2000000 in
set_option maxRecDepth 100000 in
theorem law_grown (A : Option Addr) (n : Nat) (xs : List Value) (hl : xs.length = n) (hA : A = none → n = 0) (mark : Int) (hm : n ≤ 100000000000) (w : World) (h : Sees w w.heap.size A xs) :
    Calls Tryd.prog 41 #[.slice A n n, .int .i32 mark] w (OwnRet w 22 (xs ++ List.replicate 70 (.int .i32 mark))) := by
  have F := Lib.hid (fun (b : Addr) (e : A = some b) (j : Nat) (u : Value) (hu : xs[j]? = some u) => show w.cell? (b.add j) = some u by
    have ne : xs ≠ [] := fun e => by rw [e] at hu; simp at hu
    obtain ⟨ad, e2, _, cc⟩ := h ne
    rw [e2] at e
    cases e
    exact cc j u hu)
  have FB := Lib.hid (fun (b : Addr) (e : A = some b) (hn : 0 < n) => show b.block < w.heap.size by
    have ne : xs ≠ [] := fun e => by rw [e] at hl; simp at hl; omega
    obtain ⟨ad, e2, bb, _⟩ := h ne
    rw [e2] at e
    cases e
    exact bb)
  have HA := Lib.hid hA
  have HL := Lib.hid hl
  have H1 : ∀ u ∈ [Value.int .i32 mark], u.oneCell' = true := by intro u hu; simp at hu; subst hu; rfl
  obtain ⟨i0, hi0, hz0, hz1, hz2⟩ := info_parts infoC
  clear h hl hA
  go_enter Tryd.func41, Tryd.ntmps41
  go_wp2_with fail
  go_loopw [0, 5] (fun v i wr => ∃ k : Nat, k ≤ 70 ∧ i = .int .i64 k ∧ ((k = 0 ∧ v = .slice A n n ∧ Hid (wr = w)) ∨ (1 ≤ k ∧ wr.ownsRow w.heap.size 22 1 v (n + k) (xs ++ List.replicate k (.int .i32 mark)) ∧ Below w.heap.size w wr))) (fun _ i _ => 70 - (intOf i).toNat)
  case atStart => exact ⟨0, Nat.zero_le _, rfl, Or.inl ⟨rfl, rfl, Lib.hid rfl⟩⟩
  case round =>
    obtain ⟨k, hk, rfl, hd⟩ := hrel
    by_cases lt : k < 70
    · rcases hd with ⟨k0, rfl, hw⟩ | ⟨k1, ho, hb⟩
      · have hw := hw.out
        subst hw
        subst k0
        have N1 : ∀ b, A = some b → ∀ j u, xs[j]? = some u → (wr.alloc (.cells #[.int .i32 mark] 22)).cell? (b.add j) = some u := fun b e j u hu => by
          have c := F.out b e j u hu
          have hn : 0 < n := by
            have := HL.out
            rcases Nat.eq_zero_or_pos n with z | z
            · rw [z] at this; rw [List.eq_nil_of_length_eq_zero this] at hu; simp at hu
            · exact z
          have bb := FB.out b e hn
          exact (((Below.refl wr.heap.size wr).alloc (Nat.le_refl _) _).cell (by rw [add_blk]; exact bb)).trans c
        have N1 := Lib.hid N1
        have H2 : n + 1 ≤ maxLen := by unfold maxLen; omega
        have H3 : (n + 1) * 4 ≤ 140737488355328 := by omega
        have H5 : A = none → n = 0 ∧ n = 0 := fun e => ⟨HA.out e, HA.out e⟩
        have H5 := Lib.hid H5
        have H6 : xs.length = n * 1 := by rw [HL.out]; omega
        have H6 := Lib.hid H6
        have H7 : n < n + 1 := by omega
        go_wp2_with (at_builtin; refine wpList_append_grows _ rfl (.tmp 7) (.tmp 9) 48 rfl 22 i0 (.int .i32 0) 1 4 Tryd.underlying48 hi0 hz0 hz1 hz2 rfl (by decide) A n n xs rfl H5.out H6.out N1.out ⟨wr.heap.size, 0, none⟩ 1 1 [.int .i32 mark] rfl rfl (news1 _ _ _) H1 H7 H2 H3 ?_; intro v' w3 hown3 hg3)
        have OW : Hid (w3.ownsRow wr.heap.size 22 1 v' (n + 1) (xs ++ List.replicate 1 (.int .i32 mark))) := by
          refine Lib.hid ?_
          have b := hown3
          rcases b.2 with ⟨_, z⟩ | ⟨g, cap, cur, e, hbg, rest⟩
          · omega
          · exact ⟨b.1, Or.inr ⟨g, cap, cur, e, by simp at hbg; omega, rest⟩⟩
        have BW : Below wr.heap.size wr w3 := below_of_grown ((Below.refl _ _).alloc (Nat.le_refl _) _) hg3 (by simp)
        clear hown3 hg3
        go_wp2_with fail
        go_roundw
        case rel => exact ⟨1, by omega, rfl, Or.inr ⟨by omega, OW.out, BW⟩⟩
        case measure => simp [intOf]
      · have HO := Lib.hid (ho.alloc (.cells #[.int .i32 mark] 22))
        have H2 : (n + k) + 1 ≤ maxLen := by unfold maxLen; omega
        have H3 : ((n + k) + 1) * 4 ≤ 140737488355328 := by omega
        have H4 := (hb.alloc hb.size (.cells #[.int .i32 mark] 22)).size
        have LT := Lib.hid ho.lt
        clear ho
        go_wp2_with (at_builtin; refine wpList_append_own _ rfl (.tmp 7) (.tmp 9) 48 rfl w.heap.size 22 i0 (.int .i32 0) 1 4 Tryd.underlying48 hi0 hz0 hz1 hz2 rfl (by decide) _ _ _ rfl HO.out ⟨wr.heap.size, 0, none⟩ 1 1 [.int .i32 mark] rfl rfl (news1 _ _ _) H1 H2 H3 H4 ?_; intro v' w3 hown3 hg3 _)
        have OW : Hid (w3.ownsRow w.heap.size 22 1 v' (n + (k + 1)) (xs ++ List.replicate (k + 1) (.int .i32 mark))) := by
          refine Lib.hid ?_
          rw [List.replicate_succ', ← List.append_assoc, show n + (k + 1) = n + k + 1 by omega]
          exact hown3
        have BW : Below w.heap.size w w3 := (hb.alloc hb.size _).grown hg3 H4 (fun g hg => (LT.out g hg).1)
        clear hown3 hg3
        go_wp2_with fail
        go_roundw
        case rel => exact ⟨k + 1, by omega, by go_num, Or.inr ⟨by omega, OW.out, BW⟩⟩
        case measure => simp [intOf]; omega
    · rcases hd with ⟨k0, _⟩ | ⟨k1, ho, hb⟩
      · omega
      · have e : k = 70 := by omega
        subst e
        go_wp2_with fail
        go_ret
        exact ⟨_, rfl, by rw [List.length_append, HL.out, List.length_replicate]; exact ho, hb⟩

set_option maxHeartbeats 2000000 in
set_option maxRecDepth 100000 in
theorem law_turn (A : Option Addr) (c : Nat) (xs : List Int) (hm : xs.length ≤ 35184372087808) (w : World) (h : Sees w w.heap.size A (xs.map (.int .i32))) :
    Calls Tryd.prog 43 #[.slice A xs.length c] w (OwnRet w 22 (xs.reverse.map (.int .i32))) := by
  have F := Lib.hid (fun (k : Nat) (hk : k < xs.length) => show ∃ ad, A = some ad ∧ ad.block < w.heap.size ∧ w.cell? (ad.add k) = some (.int .i32 (xs.getD k 0)) by
    obtain ⟨ad, e, b, cc⟩ := h.at (k := k) (by simpa using hk)
    exact ⟨ad, e, b, by rw [cc, List.getElem_map, List.getD_eq_getElem?_getD, List.getElem?_eq_getElem hk]; rfl⟩)
  obtain ⟨i0, hi0, hz0, hz1, hz2⟩ := info_parts infoC
  obtain ⟨n, hn⟩ : ∃ n, n = xs.length := ⟨_, rfl⟩
  have HN := Lib.hid hn
  rw [← hn] at hm ⊢
  clear h hn
  have hmk1 : i0.bytes * n ≤ 281474976710656 := by rw [hz2]; omega
  have hmk2 : n ≤ maxLen := by unfold maxLen; omega
  go_enter Tryd.func43, Tryd.ntmps43
  go_wp2_with (at_make; refine wpList_make_own _ rfl _ _ _ rfl w.heap.size 22 i0 (.int .i32 0) 1 Tryd.underlying48 hi0 hz0 hz1 .i64 .i64 n n rfl rfl rfl hmk1 hmk2 (Nat.le_refl _) ?_; intro w1 hown hg1)
  have hb1 : Below w.heap.size w w1 := below_of_grown (Below.refl _ _) hg1 (Nat.le_refl _)
  clear hg1
  obtain ⟨R, hR⟩ : ∃ R : List Value, R = xs.reverse.map (.int .i32) := ⟨_, rfl⟩
  have RN : Hid (∀ (k t : Nat) (e : k + t + 1 = xs.length), R.take k ++ [.int .i32 (xs.getD t 0)] = R.take (k + 1)) := by
    refine Lib.hid fun k t e => ?_
    have lr : k < R.length := by rw [hR]; simp; omega
    rw [List.take_succ_eq_append_getElem lr]
    congr 2
    subst hR
    simp only [List.getElem_map, List.getElem_reverse]
    rw [List.getD_eq_getElem?_getD, List.getElem?_eq_getElem (show t < xs.length by omega)]
    simp only [Option.getD_some]
    congr 2
    omega
  have RE : Hid (R.take n = xs.reverse.map (.int .i32) ∧ R.length = n) := by
    have := HN.out
    subst this
    refine Lib.hid ⟨?_, by rw [hR]; simp⟩
    rw [hR, List.take_of_length_le (by simp)]
  rw [← hR]
  have HR := Lib.hid hR
  clear hR
  go_loopw [3, 4] (fun v i wr => ∃ (k : Nat) (a : Int), k ≤ n ∧ i = .int .i64 a ∧ Hid (a = (n : Int) - k - 1) ∧ v = .slice (some ⟨w.heap.size, 0, none⟩) k n ∧ wr.ownsRow w.heap.size 22 1 (.slice (some ⟨w.heap.size, 0, none⟩) k n) k (R.take k) ∧ Below w.heap.size w wr) (fun _ i _ => (intOf i + 1).toNat)
  case atStart => exact ⟨0, _, Nat.zero_le _, rfl, Lib.hid (by omega), rfl, by simpa using hown, hb1⟩
  case round =>
    obtain ⟨k, a, hk, rfl, ha, rfl, ho, hb⟩ := hrel
    by_cases lt : k < n
    · obtain ⟨t, ht⟩ : ∃ t, t = n - 1 - k := ⟨_, rfl⟩
      have e1 : a = (t : Int) := by have := ha.out; omega
      subst e1
      have tn : t < n := by omega
      have kt : k + t + 1 = xs.length := by have := HN.out; omega
      obtain ⟨a1, rfl, ab, g0⟩ := F.out t (by omega)
      have g1 := (hb.cell (p := a1.add t) (by rw [add_blk]; exact ab)).trans g0
      clear g0
      have NX := RN.out k t kt
      have NX := Lib.hid NX
      have KT := Lib.hid kt
      have HT := Lib.hid ht
      clear ht kt
      generalize xs.getD t 0 = x at *
      have H1 : ∀ u ∈ [Value.int .i32 x], u.oneCell' = true := by intro u hu; simp at hu; subst hu; rfl
      have HO := Lib.hid (ho.alloc (.cells #[.int .i32 x] 22))
      have HLT := Lib.hid ho.lt
      have H2 : k + 1 ≤ n := by omega
      clear ho
      go_wp2_with (at_builtin; refine wpList_append_fits _ rfl (.tmp 15) (.tmp 20) 48 rfl w.heap.size 22 i0 1 Tryd.underlying48 hi0 hz1 w.heap.size k n (R.take k) rfl HO.out ⟨wr.heap.size, 0, none⟩ 1 1 [.int .i32 x] rfl rfl (news1 _ _ _) H1 H2 ?_; intro w3 hown3 hg3)
      have OW : Hid (w3.ownsRow w.heap.size 22 1 (.slice (some ⟨w.heap.size, 0, none⟩) (k + 1) n) (k + 1) (R.take (k + 1))) := by
        rw [← NX.out]; exact Lib.hid hown3
      have BW : Below w.heap.size w w3 := (hb.alloc hb.size _).grown hg3 (by have := hb.size; simp; omega) (fun g hg => (HLT.out g hg).1)
      clear hown3 hg3
      go_wp2_with fail
      go_roundw
      case rel => exact ⟨k + 1, (t : Int) - 1, by omega, rfl, Lib.hid (by have := HT.out; omega), rfl, OW.out, BW⟩
      case measure => simp [intOf]
    · have e1 : a = -1 := by have := ha.out; omega
      subst e1
      have e2 : k = n := by omega
      subst e2
      go_wp2_with fail
      go_ret
      have ⟨r1, r2⟩ := RE.out
      rw [r1] at ho
      have r3 : (xs.reverse.map (Value.int .i32)).length = k := by rw [← HR.out]; exact r2
      exact ⟨_, rfl, by rw [r3]; exact ho, hb⟩

/-- what is lent: the row with its 70 marks -/
def lentL (xs : List Int) : List Value := xs.map (.int .i32) ++ List.replicate 70 (.int .i32 (-77))
theorem lentL_len (xs : List Int) : (lentL xs).length = xs.length + 70 := by simp [lentL]

set_option maxHeartbeats 2000000 in
set_option maxRecDepth 100000 in
theorem law_lent (A : Option Addr) (c : Nat) (xs : List Int) (hA : A = none → c = 0) (hm : xs.length ≤ 35184372087808) (w : World) (h : Sees w w.heap.size A (xs.map (.int .i32))) :
    Calls Tryd.prog 36 #[.slice A xs.length c] w fun e w' => e = .returned (.slice (some ⟨w.heap.size, 0, none⟩) xs.length (xs.length + 70)) ∧
      w'.ownsRow w.heap.size 22 1 (.slice (some ⟨w.heap.size, 0, none⟩) (xs.length + 70) (xs.length + 70)) (xs.length + 70) (lentL xs) ∧ Below w.heap.size w w' := by
  obtain ⟨i0, hi0, hz0, hz1, hz2⟩ := info_parts infoC
  obtain ⟨n, hn⟩ : ∃ n, n = xs.length := ⟨_, rfl⟩
  obtain ⟨L, hL⟩ : ∃ L : List Value, L = xs.map (.int .i32) := ⟨_, rfl⟩
  have HLL : L.length = n := by rw [hL, hn]; simp
  have HLL := Lib.hid HLL
  have LE : Hid (lentL xs = L ++ List.replicate 70 (.int .i32 (-77))) := by rw [hL]; rfl
  have ON : ∀ u ∈ L, u.oneCell' = true := by
    intro u hu
    rw [hL] at hu
    obtain ⟨x, _, rfl⟩ := List.mem_map.1 hu
    rfl
  have ON := Lib.hid ON
  rw [← hL] at h
  have S0 := Lib.hid h
  have NZ : n = 0 → L = [] := fun e => List.eq_nil_of_length_eq_zero (by rw [HLL.out, e])
  have NZ := Lib.hid NZ
  rw [← hn] at hm ⊢
  clear h hL hn
  have hmk1 : i0.bytes * (n + 70) ≤ 281474976710656 := by rw [hz2]; omega
  have hmk2 : n + 70 ≤ maxLen := by unfold maxLen; omega
  have HM1 := Lib.hid hmk1; have HM2 := Lib.hid hmk2
  have HA := Lib.hid hA
  have hmi : (n : Int) ≤ 35184372087808 := by omega
  clear hmk1 hmk2 hm hA
  have H1 : ∀ u ∈ [Value.int .i32 (-77)], u.oneCell' = true := by intro u hu; simp at hu; subst hu; rfl
  go_enter Tryd.func36, Tryd.ntmps36
  go_upto_region 2 with (at_make; refine wpList_make_own _ rfl _ _ _ rfl w.heap.size 22 i0 (.int .i32 0) 1 Tryd.underlying48 hi0 hz0 hz1 .i64 .i64 ((n : Int) + 70) (n + 70) rfl rfl (by omega) HM1.out HM2.out (Nat.le_refl _) ?_; intro w1 hown hg1)
  have hb1 : Below w.heap.size w w1 := below_of_grown (Below.refl _ _) hg1 (Nat.le_refl _)
  have HOWN := Lib.hid hown
  clear hg1 hown
  go_cut [3] (fun s3 wx => s3 = .slice (some ⟨w.heap.size, 0, none⟩) n (n + 70) ∧ wx.ownsRow w.heap.size 22 1 (.slice (some ⟨w.heap.size, 0, none⟩) n (n + 70)) n L ∧ Below w.heap.size w wx)
  case first =>
    rcases A with _ | ad
    · have c0 := HA.out rfl
      subst c0
      have n0 : n = 0 := by
        by_cases z : n = 0
        · exact z
        · obtain ⟨ad, e, _⟩ := S0.out (fun e => z (by rw [← HLL.out, e]; rfl))
          cases e
      have l0 := NZ.out n0
      subst n0
      subst l0
      go_wp2_with (at_builtin; refine wpList_append_own_none rfl (.tmp 8) (.tmp 9) 48 rfl w.heap.size 22 i0 1 Tryd.underlying48 hi0 _ 0 [] rfl HOWN.out rfl ?_)
      go_meet
      exact ⟨rfl, HOWN.out, hb1⟩
    · have NEWS : ∀ (j : Nat) (u : Value), L[j]? = some u → w1.cell? (ad.add j) = some u := fun j u hu => by
        obtain ⟨ad', e, ab, cc⟩ := S0.out (fun e => by rw [e] at hu; simp at hu)
        cases e
        exact (hb1.cell (by rw [add_blk]; exact ab)).trans (cc j u hu)
      have NEWS := Lib.hid NEWS
      have H3 : 0 + n ≤ n + 70 := by omega
      have H4 : L.length = n * 1 := by rw [HLL.out]; omega
      have H4 := Lib.hid H4
      go_wp2_with (at_builtin; refine wpList_append_fits _ rfl (.tmp 8) (.tmp 9) 48 rfl w.heap.size 22 i0 1 Tryd.underlying48 hi0 hz1 w.heap.size 0 (n + 70) [] rfl HOWN.out ad n c L rfl H4.out NEWS.out ON.out H3 ?_; intro w3 hown3 hg3)
      have OW : Hid (w3.ownsRow w.heap.size 22 1 (.slice (some ⟨w.heap.size, 0, none⟩) n (n + 70)) n L) := by
        have := hown3
        rw [Nat.zero_add, List.nil_append] at this
        exact Lib.hid this
      have BW : Below w.heap.size w w3 := hb1.grown hg3 hb1.size (fun g hg => (HOWN.out.lt g hg).1)
      clear hown3 hg3
      go_wp2_with fail
      go_meet
      exact ⟨by simp, OW.out, BW⟩
  case rest =>
    obtain ⟨rfl, ho0, hb0⟩ := hcut
    have HO0 := Lib.hid ho0
    clear ho0
    go_wp2_with fail
    go_loopw [3, 11] (fun v i wr => ∃ k : Nat, k ≤ 70 ∧ i = .int .i64 k ∧ v = .slice (some ⟨w.heap.size, 0, none⟩) (n + k) (n + 70) ∧ wr.ownsRow w.heap.size 22 1 (.slice (some ⟨w.heap.size, 0, none⟩) (n + k) (n + 70)) (n + k) (L ++ List.replicate k (.int .i32 (-77))) ∧ Below w.heap.size w wr) (fun _ i _ => 70 - (intOf i).toNat)
    case atStart => exact ⟨0, Nat.zero_le _, rfl, rfl, by simpa using HO0.out, hb0⟩
    case round =>
      obtain ⟨k, hk, rfl, rfl, ho, hb⟩ := hrel
      by_cases lt : k < 70
      · have HO := Lib.hid (ho.alloc (.cells #[.int .i32 (-77)] 22))
        have HLT := Lib.hid ho.lt
        have H2 : n + k + 1 ≤ n + 70 := by omega
        clear ho
        go_wp2_with (at_builtin; refine wpList_append_fits _ rfl (.tmp 13) (.tmp 14) 48 rfl w.heap.size 22 i0 1 Tryd.underlying48 hi0 hz1 w.heap.size (n + k) (n + 70) _ rfl HO.out ⟨wr.heap.size, 0, none⟩ 1 1 [.int .i32 (-77)] rfl rfl (news1 _ _ _) H1 H2 ?_; intro w3 hown3 hg3)
        have OW : Hid (w3.ownsRow w.heap.size 22 1 (.slice (some ⟨w.heap.size, 0, none⟩) (n + (k + 1)) (n + 70)) (n + (k + 1)) (L ++ List.replicate (k + 1) (.int .i32 (-77)))) := by
          have := hown3
          rw [List.append_assoc, ← List.replicate_succ', Nat.add_assoc] at this
          exact Lib.hid this
        have BW : Below w.heap.size w w3 := (hb.alloc hb.size _).grown hg3 (by have := hb.size; simp; omega) (fun g hg => (HLT.out g hg).1)
        clear hown3 hg3
        go_wp2_with fail
        go_roundw
        case rel => exact ⟨k + 1, by omega, by go_num, rfl, OW.out, BW⟩
        case measure => simp [intOf]; omega
      · have e : k = 70 := by omega
        subst e
        have HO := Lib.hid ho
        clear ho
        go_wp2_with fail
        go_ret
        exact ⟨rfl, by rw [LE.out]; exact HO.out, hb⟩
end Go.Proofs.YtpbpkdhdjdaiiaaDoor
