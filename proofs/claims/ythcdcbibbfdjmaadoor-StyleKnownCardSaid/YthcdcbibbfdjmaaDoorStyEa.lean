/- The law's own functions on rows of numbers: same, spoil, grown, full. -/
import Derived.Test.YthcdcbibbfdjmaaDoorStyS
import Derived.Test.YthcdcbibbfdjmaaDoorStyM
namespace Go.Proofs.YthcdcbibbfdjmaaDoor
open Go.RowKit
set_option linter.unusedVariables false

theorem below_none {B : Nat} {w0 w w' : World} (h : Below B w0 w) (hg : w.grownBy w' none) (hB : B ≤ w.heap.size) : Below B w0 w' := h.grown hg hB (fun k e => by cases e)
theorem news6 (w : World) (x : Value) (T : TypeId) : ∀ (j : Nat) (u : Value), [x][j]? = some u → (w.alloc (.cells #[x] T)).cell? ((⟨w.heap.size, 0, none⟩ : Addr).add j) = some u := newsL w [x] T

set_option maxHeartbeats 2000000 in
theorem law_same (A1 A2 : Option Addr) (c1 c2 : Nat) (xs : List Int) (hm : xs.length ≤ 100000000000000) (w : World) (h1 : Sees w w.heap.size A1 (ints xs)) (h2 : Sees w w.heap.size A2 (ints xs)) :
    Calls Tryd.prog 17 #[.slice A1 xs.length c1, .slice A2 xs.length c2] w fun e w' => e = .returned (.bool true) ∧ Below w.heap.size w w' := by
  have F1 := Lib.hid (fun (k : Nat) (hk : k < xs.length) => h1.at (k := k) (by simpa [ints] using hk))
  have F2 := Lib.hid (fun (k : Nat) (hk : k < xs.length) => h2.at (k := k) (by simpa [ints] using hk))
  clear h1 h2
  obtain ⟨m, hmm⟩ : ∃ m, m = xs.length := ⟨_, rfl⟩
  have HM := Lib.hid hmm
  rw [← hmm] at hm ⊢
  clear hmm
  go_enter Tryd.func17, Tryd.ntmps17
  go_wp2_with fail
  go_loopw [5] (fun i wr => ∃ k : Nat, k ≤ m ∧ i = .int .i64 k ∧ ∃ q, Hid (wr = w.drewN q)) (fun i _ => m - (intOf i).toNat)
  case atStart => exact ⟨0, Nat.zero_le _, rfl, 0, rfl⟩
  case round =>
    obtain ⟨k, hk, rfl, q, hq⟩ := hrel
    have hq := hq.out
    subst hq
    by_cases lt : k < m
    · obtain ⟨a1, rfl, _, g1⟩ := F1.out k (by have := HM.out; omega)
      obtain ⟨a2, rfl, _, g2⟩ := F2.out k (by have := HM.out; omega)
      have g1' : w.cell? (a1.add k) = some (.int .i64 (xs[k]'(by have := HM.out; omega))) := by rw [g1]; simp [ints]
      have g2' : w.cell? (a2.add k) = some (.int .i64 (xs[k]'(by have := HM.out; omega))) := by rw [g2]; simp [ints]
      clear g1 g2
      generalize xs[k]'(by have := HM.out; omega) = x at *
      go_wp2_with fail
      go_quiet (fail)
      go_wp2_with fail
      go_roundw
      case rel => exact ⟨k + 1, by omega, by go_num, _, Lib.hid rfl⟩
      case measure => simp [intOf]; omega
    · go_wp2_with fail
      go_ret
      exact ⟨rfl, below_drewN (Below.refl _ _) _⟩

set_option maxHeartbeats 2000000 in
theorem law_full (A : Option Addr) (c n : Nat) (mark : Int) (hm : n ≤ 100000000000000) (w : World) (h1 : Sees w w.heap.size A (List.replicate n (.int .i64 mark))) :
    Calls Tryd.prog 20 #[.slice A n c, .int .i64 mark] w fun e w' => e = .returned (.bool true) ∧ Below w.heap.size w w' := by
  have F1 := Lib.hid (fun (k : Nat) (hk : k < n) => h1.at (k := k) (by simpa using hk))
  clear h1
  go_enter Tryd.func20, Tryd.ntmps20
  go_wp2_with fail
  go_loop [5] (fun i => ∃ k : Nat, k ≤ n ∧ i = .int .i64 k) (fun i => n - (intOf i).toNat)
  case atStart => exact ⟨0, Nat.zero_le _, rfl⟩
  case round =>
    obtain ⟨k, hk, rfl⟩ := hrel
    by_cases lt : k < n
    · obtain ⟨a1, rfl, _, g1⟩ := F1.out k lt
      rw [List.getElem_replicate] at g1
      go_wp2_with fail
      go_round
      case rel => exact ⟨k + 1, by omega, by go_num⟩
      case measure => simp [intOf]; omega
    · go_wp2_with fail
      go_ret
      exact ⟨rfl, Below.refl _ _⟩

/-- the first k places written over -/
def overK (xs : List Value) (m : Value) (k : Nat) : List Value := List.replicate k m ++ xs.drop k
theorem overK_set (xs : List Value) (m : Value) (k : Nat) (h : k < xs.length) : (overK xs m k).set k m = overK xs m (k + 1) := by
  unfold overK
  rw [List.set_append_right _ _ (by simp), List.length_replicate, Nat.sub_self, List.drop_eq_getElem_cons h, List.set_cons_zero, List.replicate_succ', List.append_assoc]
  rfl
theorem overK_len (xs : List Value) (m : Value) (k : Nat) (h : k ≤ xs.length) : (overK xs m k).length = xs.length := by simp [overK]; omega

set_option maxHeartbeats 2000000 in
theorem law_spoil (v : Value) (n lo : Nat) (xs : List Value) (mark : Int) (hm : n ≤ 100000000000000) (w : World) (h : w.ownsRow lo 3 1 v n xs) :
    Calls Tryd.prog 18 #[v, .int .i64 mark] w fun e w' => e = .returned (.tuple #[]) ∧ w'.ownsRow lo 3 1 v n (List.replicate n (.int .i64 mark)) ∧ w.grownBy w' v.ownBlock := by
  obtain ⟨hl, hf⟩ := own_form h
  rcases hf with ⟨rfl, rfl⟩ | ⟨g, c, rfl, _, _, _, _⟩
  · have e : xs = [] := List.eq_nil_of_length_eq_zero hl
    subst e
    go_enter Tryd.func18, Tryd.ntmps18
    go_wp2_with fail
    refine wp_loop_rounds 1 ?_
    rw [rounds_succ]
    go_wp2_with fail
    go_end0
    exact ⟨rfl, World.ownsRow_nil _ _ _ _, World.grownBy.refl _ _⟩
  · have H := Lib.hid h
    have HL := Lib.hid hl
    clear h hl
    go_enter Tryd.func18, Tryd.ntmps18
    go_wp2_with fail
    go_loopw [4] (fun i wr => ∃ k : Nat, k ≤ n ∧ i = .int .i64 k ∧ wr.ownsRow lo 3 1 (.slice (some ⟨g, 0, none⟩) n c) n (overK xs (.int .i64 mark) k) ∧ w.grownBy wr (some g)) (fun i _ => n - (intOf i).toNat)
    case atStart => exact ⟨0, Nat.zero_le _, rfl, by simpa [overK] using H.out, World.grownBy.refl _ _⟩
    case round =>
      obtain ⟨k, hk, rfl, ho, hg⟩ := hrel
      by_cases lt : k < n
      · have c0 := ho.cellAt k (by omega)
        rw [List.getElem?_eq_getElem (by rw [overK_len _ _ _ (by have := HL.out; omega)]; have := HL.out; omega)] at c0
        have f0 := ho.frozenAt k
        have st := (ho.stored k (.int .i64 mark))
        have OW : Hid ((wr.setCell ⟨g, k, none⟩ (.int .i64 mark)).ownsRow lo 3 1 (.slice (some ⟨g, 0, none⟩) n c) n (overK xs (.int .i64 mark) (k + 1))) := by
          rw [← overK_set _ _ _ (by have := HL.out; omega)]; exact Lib.hid st.1
        have GW : w.grownBy (wr.setCell ⟨g, k, none⟩ (.int .i64 mark)) (some g) := hg.trans st.2
        clear ho st hg
        go_wp2_with fail
        go_roundw
        case rel => exact ⟨k + 1, by omega, by go_num, OW.out, GW⟩
        case measure => simp [intOf]; omega
      · have e : k = n := by omega
        subst e
        go_wp2_with fail
        go_end0
        refine ⟨rfl, ?_, hg⟩
        have l := HL.out
        subst l
        simpa [overK] using ho

/-- a row that has grown, and the row that it was -/
structure Grew (lo : Nat) (w w' : World) (v v' : Value) (n k : Nat) (xs : List Value) (m : Value) : Prop where
  new : w'.ownsRow lo 3 1 v' (n + k) (xs ++ List.replicate k m)
  old : w'.ownsRow lo 3 1 v n xs
  gr : w.grownBy w' v.ownBlock
  at_ : v'.ownBlock = v.ownBlock ∨ ∃ g, v'.ownBlock = some g ∧ w.heap.size ≤ g

theorem grown_far {w w1 w2 : World} {r s : Option Nat} (h : w.grownBy w1 r) (h2 : w1.grownBy w2 s) (hs : ∀ g, s = some g → w.heap.size ≤ g) : w.grownBy w2 r :=
  ⟨h2.os.trans h.os, h2.tape.trans h.tape, h2.output.trans h.output, Nat.le_trans h.size h2.size, fun i hi hr => (h2.block i (Nat.lt_of_lt_of_le hi h.size) (fun e => by have := hs i e.symm; omega)).trans (h.block i hi hr)⟩

set_option maxHeartbeats 4000000 in
set_option maxRecDepth 100000 in
theorem law_grown (v : Value) (n lo : Nat) (xs : List Value) (mark : Int) (hm : n ≤ 1000000000000) (w : World) (hlo : lo ≤ w.heap.size) (h : w.ownsRow lo 3 1 v n xs) :
    Calls Tryd.prog 19 #[v, .int .i64 mark] w fun e w' => ∃ v', e = .returned v' ∧ Grew lo w w' v v' n 70 xs (.int .i64 mark) := by
  have HV := Lib.hid h
  have HLO := Lib.hid hlo
  have XL : Hid (xs.length = n) := Lib.hid (own_form h).1
  have H1 : ∀ u ∈ [Value.int .i64 mark], u.oneCell' = true := by intro u hu; simp at hu; subst hu; rfl
  obtain ⟨i0, hi0, hz0, hz1, hz2⟩ := info_parts infoI
  have ST : Hid (∀ g, v.ownBlock = some g → g < w.heap.size) := Lib.hid (fun g hg => (h.lt g hg).2)
  clear h hlo
  go_enter Tryd.func19, Tryd.ntmps19
  go_wp2_with fail
  go_loopw [0, 5] (fun s i wr => ∃ k : Nat, k ≤ 70 ∧ i = .int .i64 k ∧ Hid ((∃ g c, v = .slice (some ⟨g, 0, none⟩) n c ∧ s = .slice (some ⟨g, 0, none⟩) (n + k) c ∧ n + k ≤ c ∧ wr.ownsRow lo 3 1 (.slice (some ⟨g, 0, none⟩) (n + k) c) (n + k) (xs ++ List.replicate k (.int .i64 mark)) ∧ w.grownBy wr (some g))
    ∨ (wr.ownsRow w.heap.size 3 1 s (n + k) (xs ++ List.replicate k (.int .i64 mark)) ∧ wr.ownsRow lo 3 1 v n xs ∧ w.grownBy wr v.ownBlock))) (fun _ i _ => 70 - (intOf i).toNat)
  case atStart =>
    refine ⟨0, Nat.zero_le _, rfl, Lib.hid ?_⟩
    rcases (own_form HV.out).2 with ⟨e, n0⟩ | ⟨g, c, e, _, _, hc, _⟩
    · refine Or.inr ⟨?_, HV.out, World.grownBy.refl _ _⟩
      have : xs = [] := List.eq_nil_of_length_eq_zero (by rw [XL.out, n0])
      rw [e, n0, this]
      exact World.ownsRow_nil _ _ _ _
    · refine Or.inl ⟨g, c, e, e, hc, ?_, World.grownBy.refl _ _⟩
      have := HV.out
      rw [e] at this
      simpa using this
  case round =>
    obtain ⟨k, hk, rfl, hd⟩ := hrel
    by_cases lt : k < 70
    · rcases hd.out with ⟨g, c, ev, rfl, hc, ho, hg⟩ | ⟨ho, hov, hg⟩
      · have hc' := Lib.hid hc
        have HO := Lib.hid (ho.alloc (.cells #[.int .i64 mark] 3))
        have HO' := Lib.hid ho
        have HG := Lib.hid hg
        by_cases room : n + k + 1 ≤ c
        · clear ho hg hd hc
          go_wp2_with (at_builtin; refine wpList_append_fits _ rfl (.tmp 10) (.tmp 12) 25 rfl lo 3 i0 1 Tryd.underlying25 hi0 hz1 g (n + k) c _ rfl HO.out ⟨wr.heap.size, 0, none⟩ 1 1 [.int .i64 mark] rfl rfl (news6 _ _ _) H1 room ?_; intro w3 hown3 hg3)
          have OW : Hid (w3.ownsRow lo 3 1 (.slice (some ⟨g, 0, none⟩) (n + (k + 1)) c) (n + (k + 1)) (xs ++ List.replicate (k + 1) (.int .i64 mark))) := by
            rw [List.replicate_succ', ← List.append_assoc, show n + (k + 1) = n + k + 1 by omega]
            exact Lib.hid hown3
          have GW := Lib.hid (HG.out.trans (grown_alloc hg3))
          clear hown3 hg3
          go_wp2_with fail
          go_roundw
          case rel => exact ⟨k + 1, by omega, by go_num, Lib.hid (Or.inl ⟨g, c, ev, rfl, by omega, OW.out, GW.out⟩)⟩
          case measure => simp [intOf]; omega
        · have ec : c = n + k := by have := hc'.out; omega
          subst ec
          have OV : Hid (wr.ownsRow lo 3 1 v n xs) := Lib.hid (by
            have := own_take HO'.out (m := n) (by omega)
            rw [List.take_append_of_le_length (by rw [XL.out]; exact Nat.le_refl _), List.take_of_length_le (by rw [XL.out]; exact Nat.le_refl _)] at this
            rw [ev]; exact this)
          have H2 : n + k + 1 ≤ maxLen := by unfold maxLen; omega
          have H3 : (n + k + 1) * 8 ≤ 140737488355328 := by omega
          have H5 : Hid ((some (⟨g, 0, none⟩ : Addr)) = none → n + k = 0 ∧ n + k = 0) := Lib.hid (fun e => by cases e)
          have H6 : Hid ((xs ++ List.replicate k (Value.int .i64 mark)).length = (n + k) * 1) := Lib.hid (by rw [List.length_append, XL.out, List.length_replicate]; omega)
          have H7 : n + k < n + k + 1 := by omega
          have N1 : Hid (∀ b, (some (⟨g, 0, none⟩ : Addr)) = some b → ∀ j u, (xs ++ List.replicate k (Value.int .i64 mark))[j]? = some u → (wr.alloc (.cells #[.int .i64 mark] 3)).cell? (b.add j) = some u) := Lib.hid (fun b e j u hu => by
            cases e
            obtain ⟨a, e2, _, cc⟩ := Sees.of_own HO.out (fun e => by rw [e] at hu; simp at hu)
            cases e2
            exact cc j u hu)
          clear ho hg hd hc hc' HO
          go_wp2_with (at_builtin; refine wpList_append_grows _ rfl (.tmp 10) (.tmp 12) 25 rfl 3 i0 (.int .i64 0) 1 8 Tryd.underlying25 hi0 hz0 hz1 hz2 rfl (by decide) (some ⟨g, 0, none⟩) (n + k) (n + k) _ rfl H5.out H6.out N1.out ⟨wr.heap.size, 0, none⟩ 1 1 [.int .i64 mark] rfl rfl (news6 _ _ _) H1 H7 H2 H3 ?_; intro v' w3 hown3 hg3)
          have OW : Hid (w3.ownsRow w.heap.size 3 1 v' (n + (k + 1)) (xs ++ List.replicate (k + 1) (.int .i64 mark))) := by
            rw [List.replicate_succ', ← List.append_assoc, show n + (k + 1) = n + k + 1 by omega]
            exact Lib.hid (own_lower hown3 (by have := HG.out.size; simp; omega))
          have GV := Lib.hid (OV.out.kept (row := none) (grown_alloc hg3) (by cases v.ownBlock <;> simp))
          have GW : Hid (w.grownBy w3 v.ownBlock) := Lib.hid (by
            have := grown_far HG.out (grown_alloc hg3) (fun g h => by cases h)
            rw [ev]; exact this)
          clear hown3 hg3
          go_wp2_with fail
          go_roundw
          case rel => exact ⟨k + 1, by omega, by go_num, Lib.hid (Or.inr ⟨OW.out, GV.out, GW.out⟩)⟩
          case measure => simp [intOf]; omega
      · have HO := Lib.hid (ho.alloc (.cells #[.int .i64 mark] 3))
        have OV := Lib.hid hov
        have HG := Lib.hid hg
        have LT := Lib.hid ho.lt
        have H2 : (n + k) + 1 ≤ maxLen := by unfold maxLen; omega
        have H3 : ((n + k) + 1) * 8 ≤ 140737488355328 := by omega
        have H4 : w.heap.size ≤ (wr.alloc (.cells #[.int .i64 mark] 3)).heap.size := by have := hg.size; simp; omega
        clear ho hov hg hd
        go_wp2_with (at_builtin; refine wpList_append_own _ rfl (.tmp 10) (.tmp 12) 25 rfl w.heap.size 3 i0 (.int .i64 0) 1 8 Tryd.underlying25 hi0 hz0 hz1 hz2 rfl (by decide) _ _ _ rfl HO.out ⟨wr.heap.size, 0, none⟩ 1 1 [.int .i64 mark] rfl rfl (news6 _ _ _) H1 H2 H3 H4 ?_; intro v' w3 hown3 hg3 _)
        have OW : Hid (w3.ownsRow w.heap.size 3 1 v' (n + (k + 1)) (xs ++ List.replicate (k + 1) (.int .i64 mark))) := by
          rw [List.replicate_succ', ← List.append_assoc, show n + (k + 1) = n + k + 1 by omega]
          exact Lib.hid hown3
        have GV := Lib.hid (OV.out.kept (grown_alloc hg3) (by
          cases e : v.ownBlock with
          | none => exact Or.inl rfl
          | some g =>
            refine Or.inr fun q => ?_
            have a := ST.out g e
            have b := (LT.out g q.symm).1
            omega))
        have GW : Hid (w.grownBy w3 v.ownBlock) := Lib.hid (grown_far HG.out (grown_alloc hg3) (fun g hg => (LT.out g hg).1))
        clear hown3 hg3
        go_wp2_with fail
        go_roundw
        case rel => exact ⟨k + 1, by omega, by go_num, Lib.hid (Or.inr ⟨OW.out, GV.out, GW.out⟩)⟩
        case measure => simp [intOf]; omega
    · have e : k = 70 := by omega
      subst e
      have HD := Lib.hid hd.out
      clear hd
      go_wp2_with fail
      go_ret
      rcases HD.out with ⟨g, c, ev, rfl, hc, ho, hg⟩ | ⟨ho, hov, hg⟩
      · refine ⟨_, rfl, ho, ?_, by rw [ev]; exact hg, Or.inl (by rw [ev]; rfl)⟩
        have := own_take ho (m := n) (by omega)
        rw [List.take_append_of_le_length (by rw [XL.out]; exact Nat.le_refl _), List.take_of_length_le (by rw [XL.out]; exact Nat.le_refl _)] at this
        rw [ev]; exact this
      · refine ⟨_, rfl, own_lower ho HLO.out, hov, hg, ?_⟩
        rcases (own_form ho).2 with ⟨_, z⟩ | ⟨g, c, e, hb, _⟩
        · omega
        · exact Or.inr ⟨g, by rw [e]; rfl, hb⟩
end Go.Proofs.YthcdcbibbfdjmaaDoor
