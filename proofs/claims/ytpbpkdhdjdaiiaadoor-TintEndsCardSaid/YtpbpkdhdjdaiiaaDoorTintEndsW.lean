/- TintEnds: the walk of the law. -/
import Derived.Test.YtpbpkdhdjdaiiaaDoorTintRampsW
import Derived.Test.YtpbpkdhdjdaiiaaDoorTintBetweenW
namespace Go.Proofs.YtpbpkdhdjdaiiaaDoor
open Go.RowKit Flt
set_option linter.unusedVariables false

/-- the ramp's first and last colours -/
theorem ramp_first (n : Int) (xs : List Int) (h : rampOk n xs.length = true) (hx : ∀ x ∈ xs, 16777216 ≤ x ∧ x < 33554432) : (rampL n xs).getD 0 0 = xs.getD 0 0 ∧ (n ≠ 1 → (rampL n xs).getD (n.toNat - 1) 0 = xs.getD (xs.length - 1) 0) := by
  obtain ⟨n0, n1, m0, m1⟩ : 1 ≤ n ∧ n ≤ 4096 ∧ 1 ≤ xs.length ∧ xs.length ≤ 16 := by unfold rampOk at h; rwa [decide_eq_true_iff] at h
  have g : ∀ (i : Nat), (i : Int) < n → (rampL n xs).getD i 0 = rampAt n xs (i : Int) := by
    intro i hi
    unfold rampL
    rw [if_pos h, List.getD_eq_getElem?_getD, List.getElem?_map, List.getElem?_range (by omega)]
    rfl
  have mem : ∀ j, j < xs.length → 16777216 ≤ xs.getD j 0 ∧ xs.getD j 0 < 33554432 := by
    intro j hj
    rw [List.getD_eq_getElem?_getD, List.getElem?_eq_getElem hj]
    exact hx _ (List.getElem_mem hj)
  constructor
  · rw [show (0 : Nat) = 0 from rfl, g 0 (by omega)]
    unfold rampAt
    have z : (if n = 1 then (0 : Int) else ((0 : Nat) : Int) * ((xs.length : Int) - 1)) = 0 := by split <;> simp
    rw [z]
    simp only [Int.zero_emod, Int.zero_ediv, if_true]
    exact mix_self _ _ (mem 0 (by omega))
  · intro ne
    rw [g (n.toNat - 1) (by omega)]
    unfold rampAt
    have i0 : ((n.toNat - 1 : Nat) : Int) = n - 1 := by omega
    have q : max (n - 1) 1 = n - 1 := by omega
    rw [if_neg ne, i0, q, Int.mul_emod_right, Int.mul_ediv_cancel_left _ (by omega)]
    simp only [if_true]
    rw [show ((xs.length : Int) - 1).toNat = xs.length - 1 by omega]
    exact mix_self _ _ (mem _ (by omega))

namespace tintEnds
/-- the stops made full -/
def fullL (xs : List Int) : List Int := xs.map fullV

set_option maxHeartbeats 8000000 in
set_option maxRecDepth 100000 in
theorem tintEnds_walk (n : Int) (A : Option Addr) (c : Nat) (xs : List Int) (hx : ∀ x ∈ xs, -2147483648 ≤ x ∧ x ≤ 2147483647) (hm : xs.length ≤ 35184372087808) (w : World) (hS : Sees w w.heap.size A (xs.map (.int .i32))) (E : Env w) :
    Calls Tryd.prog 10 #[.int .i64 n, .slice A xs.length c] w fun e w' => e = .returned (.bool true) ∧ Below w.heap.size w w' := by
  have F := Lib.hid (fun (k : Nat) (hk : k < xs.length) => show ∃ ad, A = some ad ∧ ad.block < w.heap.size ∧ w.cell? (ad.add k) = some (.int .i32 (xs.getD k 0)) by
    obtain ⟨ad, e, b, cc⟩ := hS.at (k := k) (by simpa using hk)
    exact ⟨ad, e, b, by rw [cc, List.getElem_map, List.getD_eq_getElem?_getD, List.getElem?_eq_getElem hk]; rfl⟩)
  have HX := Lib.hid (fun (k : Nat) (hk : k < xs.length) => show -2147483648 ≤ xs.getD k 0 ∧ xs.getD k 0 ≤ 2147483647 by
    rw [List.getD_eq_getElem?_getD, List.getElem?_eq_getElem hk]; exact hx _ (List.getElem_mem hk))
  have FF := Lib.hid (fun x (hx' : x ∈ fullL xs) => show 16777216 ≤ x ∧ x < 33554432 by
    obtain ⟨y, _, rfl⟩ := List.mem_map.1 hx'
    exact fullV_range y)
  have FS : Hid (∀ k, k < xs.length → firstK (fun i => fullV (xs.getD i 0)) (k + 1) = firstK (fun i => fullV (xs.getD i 0)) k ++ [.int .i32 (fullV (xs.getD k 0))]) := Lib.hid (fun k _ => firstK_succ _ k)
  have FE : Hid (firstK (fun i => fullV (xs.getD i 0)) xs.length = (fullL xs).map (.int .i32)) := by
    refine Lib.hid ?_
    unfold firstK fullL
    rw [List.map_map]
    apply List.ext_getElem
    · simp
    · intro i h1 h2
      have hi : i < xs.length := by simpa using h1
      simp only [List.getElem_map, List.getElem_range]
      rw [List.getD_eq_getElem?_getD, List.getElem?_eq_getElem hi]
      rfl
  have W0 := Lib.hid (law_works w E)
  have RP := Lib.hid (fun A c W h => tint_Ramp n A c (fullL xs) (by unfold fullL; rw [List.length_map]; exact hm) W h)
  have FL : Hid ((fullL xs).length = xs.length) := Lib.hid (by unfold fullL; simp)
  have RF := Lib.hid (fun h => ramp_first n (fullL xs) h FF.out)
  have MB : (xs.length : Int) ≤ 35184372087808 := by omega
  clear hx hS E hm
  obtain ⟨m, hmm⟩ : ∃ m, m = xs.length := ⟨_, rfl⟩
  have HM := Lib.hid hmm
  rw [← hmm] at MB ⊢
  clear hmm
  obtain ⟨i0, hi0, hz0, hz1, hz2⟩ := info_parts infoC
  go_enter Tryd.func10, Tryd.ntmps10
  go_wp2_with fail
  refine W0.out.mono ?_; rintro e w1 ⟨rfl, b1⟩
  go_wp2_with fail
  go_loopw [5, 12] (fun v i wr => ∃ k : Nat, k ≤ m ∧ i = .int .i64 k ∧ wr.ownsRow w.heap.size 22 1 v k (firstK (fun i => fullV (xs.getD i 0)) k) ∧ Below w.heap.size w wr) (fun _ i _ => m - (intOf i).toNat)
  case atStart => exact ⟨0, Nat.zero_le _, rfl, World.ownsRow_nil _ _ _ _, b1⟩
  case round =>
    obtain ⟨k, hk, rfl, ho, hb⟩ := hrel
    by_cases lt : k < m
    · have kx : k < xs.length := by have := HM.out; omega
      obtain ⟨ad, rfl, ab, g0⟩ := F.out k kx
      have g1 := (hb.cell (p := ad.add k) (by rw [add_blk]; exact ab)).trans g0
      obtain ⟨x0, x1⟩ := HX.out k kx
      have NX := Lib.hid (FS.out k kx)
      clear g0 kx
      have LF := Lib.hid (law_full _ x0 x1)
      generalize xs.getD k 0 = x at *
      have H1 : ∀ u ∈ [Value.int .i32 (fullV x)], u.oneCell' = true := by intro u hu; simp at hu; subst hu; rfl
      have HO := Lib.hid (ho.alloc (.cells #[.int .i32 (fullV x)] 22))
      have HLT := Lib.hid ho.lt
      have H2 := Lib.hid (show k + 1 ≤ maxLen by unfold maxLen; omega)
      have H3 := Lib.hid (show (k + 1) * 4 ≤ 140737488355328 by omega)
      have H4 := (hb.alloc hb.size (.cells #[.int .i32 (fullV x)] 22)).size
      clear ho
      go_wp2_with (first
        | (go_at_call 31; refine (LF.out _).mono ?_; rintro e w' ⟨rfl, rfl⟩)
        | (at_builtin; refine wpList_append_own _ rfl (.tmp 15) (.tmp 21) 48 rfl w.heap.size 22 i0 (.int .i32 0) 1 4 Tryd.underlying48 hi0 hz0 hz1 hz2 rfl (by decide) _ _ _ rfl HO.out ⟨wr.heap.size, 0, none⟩ 1 1 [.int .i32 (fullV x)] rfl rfl (news1 _ _ _) H1 H2.out H3.out H4 ?_; intro v' w3 hown3 hg3 _))
      have OW : Hid (w3.ownsRow w.heap.size 22 1 v' (k + 1) (firstK (fun i => fullV (xs.getD i 0)) (k + 1))) := by
        rw [NX.out]; exact Lib.hid hown3
      have BW : Below w.heap.size w w3 := (hb.alloc hb.size _).grown hg3 H4 (fun g hg => (HLT.out g hg).1)
      clear hown3 hg3 H4
      go_wp2_with fail
      go_roundw
      case rel => exact ⟨k + 1, by omega, by go_num, OW.out, BW⟩
      case measure => simp [intOf]; omega
    · have e : k = m := by omega
      subst e
      have e2 : (fullL xs).length = k := by rw [FL.out]; exact HM.out.symm
      obtain ⟨P, q, rfl, _⟩ := own_slice ho
      have ho' : wr.ownsRow w.heap.size 22 1 (.slice P k q) k ((fullL xs).map (.int .i32)) := by
        rw [← FE.out, ← HM.out]; exact ho
      clear ho
      have R1 := RP.out P q wr (Sees.of_own ho')
      rw [e2] at R1
      have R1 := Lib.hid R1
      by_cases ok : rampOk n (fullL xs).length = true
      · have e3 := rampL_len ok
        obtain ⟨f1, f2⟩ := RF.out ok
        rw [e2] at ok f2
        obtain ⟨n0, n1, m0, m1⟩ : 1 ≤ n ∧ n ≤ 4096 ∧ 1 ≤ k ∧ k ≤ 16 := by unfold rampOk at ok; rwa [decide_eq_true_iff] at ok
        obtain ⟨N, hN⟩ : ∃ N : Nat, n = (N : Int) := ⟨n.toNat, by omega⟩
        subst hN
        rw [Int.toNat_natCast] at e3 f2
        have F1 := Lib.hid f1
        have F2 := Lib.hid f2
        have E2 := Lib.hid e2
        have E3 := Lib.hid e3
        have HO := Lib.hid ho'
        clear ok f1 f2 e2 e3 ho'
        go_wp2_with fail
        refine R1.out.mono ?_
        rintro e w2 ⟨P2, rfl, _, o2, b2⟩
        have lE : ((rampL (N : Int) (fullL xs)).map (Value.int .i32)).length = N := by rw [List.length_map]; exact E3.out
        rw [lE] at o2 ⊢
        have oL := own_call HO.out b2
        have BB := below_call hb hb.size b2
        obtain ⟨_, fo⟩ := own_form o2
        obtain ⟨_, fl⟩ := own_form oL
        rcases fo with ⟨_, z⟩ | ⟨go, co, eo, _⟩
        · omega
        rcases fl with ⟨_, z⟩ | ⟨gl, cl, el, _⟩
        · omega
        cases eo
        cases el
        have cO : ∀ j, j < N → w2.cell? ⟨go, j, none⟩ = some (.int .i32 ((rampL (N : Int) (fullL xs)).getD j 0)) := fun j hj => by
          rw [o2.cellAt j (by omega), List.getElem?_map, List.getD_eq_getElem?_getD, List.getElem?_eq_getElem (by rw [E3.out]; exact hj)]; rfl
        have cL : ∀ j, j < k → w2.cell? ⟨gl, j, none⟩ = some (.int .i32 ((fullL xs).getD j 0)) := fun j hj => by
          rw [oL.cellAt j (by omega), List.getElem?_map, List.getD_eq_getElem?_getD, List.getElem?_eq_getElem (by rw [E2.out]; exact hj)]; rfl
        have a0 := cO 0 (by omega)
        have a1 := cL 0 (by omega)
        rw [F1.out] at a0
        by_cases c1 : N = 1
        · subst c1
          clear cO cL o2 oL lE b2
          generalize (fullL xs).getD 0 0 = y0 at *
          go_wp2_with fail
          go_quiet (fail)
          go_wp2_with fail
          go_ret
          exact ⟨ret_bool (by first | rfl | simp), below_drewN BB _⟩
        · have a2 := cO (N - 1) (by omega)
          have a3 := cL (k - 1) (by omega)
          rw [F2.out (by omega)] at a2
          have nb : ((N : Int) == 1) = false := by simp; omega
          clear cO cL o2 oL lE b2
          generalize (fullL xs).getD 0 0 = y0 at *
          generalize (fullL xs).getD (k - 1) 0 = y1 at *
          have s1 : IntKind.i64.wrap ((N : Int) - 1) = (N : Int) - 1 := IntWalk.i64_in _ (by omega)
          have s2 : 0 ≤ (N : Int) - 1 := by omega
          have s3 : ((N : Int) - 1).toNat = N - 1 := by omega
          have t1 : IntKind.i64.wrap ((k : Int) - 1) = (k : Int) - 1 := IntWalk.i64_in _ (by omega)
          have t2 : 0 ≤ (k : Int) - 1 := by omega
          have t3 : ((k : Int) - 1).toNat = k - 1 := by omega
          have u1 : (N : Int) - 1 < (N : Int) := by omega
          have u2 : (k : Int) - 1 < (k : Int) := by omega
          go_wp2_with fail
          go_quiet (fail)
          go_wp2_with fail
          go_ret
          exact ⟨ret_bool (by first | rfl | simp), below_drewN BB _⟩
      · have X0 := rampL_none ok
        rw [e2] at ok
        have hx : ¬ (1 ≤ n ∧ n ≤ 4096 ∧ 1 ≤ k ∧ k ≤ 16) := by unfold rampOk at ok; rwa [decide_eq_true_iff] at ok
        have R2 := R1.out
        rw [X0] at R2
        have R2 := Lib.hid R2
        clear ok X0 e2 R1 ho'
        by_cases c1 : n < 1
        · go_wp2_with fail
          refine R2.out.mono ?_
          rintro e w2 ⟨P2, rfl, _, o2, b2⟩
          have BB := below_call hb hb.size b2
          go_wp2_with fail
          go_ret
          exact ⟨rfl, BB⟩
        by_cases c2 : 4096 < n
        · go_wp2_with fail
          refine R2.out.mono ?_
          rintro e w2 ⟨P2, rfl, _, o2, b2⟩
          have BB := below_call hb hb.size b2
          go_wp2_with fail
          go_ret
          exact ⟨rfl, BB⟩
        by_cases c3 : k < 1
        · clear hx
          go_wp2_with fail
          refine R2.out.mono ?_
          rintro e w2 ⟨P2, rfl, _, o2, b2⟩
          have BB := below_call hb hb.size b2
          go_wp2_with fail
          go_ret
          exact ⟨rfl, BB⟩
        · have c4 : 16 < k := by omega
          clear hx
          go_wp2_with fail
          refine R2.out.mono ?_
          rintro e w2 ⟨P2, rfl, _, o2, b2⟩
          have BB := below_call hb hb.size b2
          go_wp2_with fail
          go_ret
          exact ⟨rfl, BB⟩
end tintEnds
end Go.Proofs.YtpbpkdhdjdaiiaaDoor
