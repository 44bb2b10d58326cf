/- Patches put together: the walk of the reference. -/
import Derived.Test.YthcdcbibbfdjmaaDoorStyC
import Derived.Test.YthcdcbibbfdjmaaDoorGen
import Derived.Test.YthcdcbibbfdjmaaDoorStyWd
namespace Go.Proofs.YthcdcbibbfdjmaaDoor
open Go.RowKit Go.Sort
set_option linter.unusedVariables false

def maskN (k : Nat) : B8 := BitVec.ofNat 8 (2 ^ k - 1)
theorem mask_next : ∀ (x : B8) (k : Fin 8), x &&& maskN (k.val + 1) = if x.getLsbD k.val = true then (x &&& maskN k.val) ||| bitN k.val else x &&& maskN k.val := by decide +kernel
theorem mask_all : ∀ (x : B8), x &&& maskN 8 = x := by decide +kernel
theorem mask_none : ∀ (x : B8), x &&& maskN 0 = 0 := by decide +kernel
theorem bit_test : ∀ (x : B8) (k : Fin 8), (bI (x &&& bitN k.val) != 0) = x.getLsbD k.val ∧ (bI (x &&& bitN k.val) == 0) = !x.getLsbD k.val := by decide +kernel
theorem bit_twice : ∀ (k : Fin 8), IntKind.u8.wrap (bI (bitN k.val) * 2) = bI (bitN (k.val + 1)) ∧ (bI (bitN k.val) != 0) = true := by decide +kernel
def mzN (n : Int) : Nat := if n = 0 then 0 else (256 - n).toNat
theorem bit_eight : bI (bitN 8) = 0 := by decide +kernel

set_option maxHeartbeats 8000000 in
set_option maxRecDepth 100000 in
theorem ref_Then (f b : Int) (a d : B8) (f' b' : Int) (a' d' : B8) (hf : col32 f) (hb : col32 b) (hf' : col32 f') (hb' : col32 b') : Gives 30 #[patV f b a d, patV f' b' a' d']
    (patV (thenP ⟨f, b, a, d⟩ ⟨f', b', a', d'⟩).fg (thenP ⟨f, b, a, d⟩ ⟨f', b', a', d'⟩).bg (thenP ⟨f, b, a, d⟩ ⟨f', b', a', d'⟩).add (thenP ⟨f, b, a, d⟩ ⟨f', b', a', d'⟩).drop) := by
  intro w
  have C1 := Lib.hid (ref_Told f b a d hf hb)
  have C2 := Lib.hid (ref_Told f' b' a' d' hf' hb')
  have BA : Hid (∀ i, i < 8 → (thenP ⟨f, b, a, d⟩ ⟨f', b', a', d'⟩).add.getLsbD i = (a'.getLsbD i || (a.getLsbD i && !(d' &&& ~~~a').getLsbD i)) ∧ (thenP ⟨f, b, a, d⟩ ⟨f', b', a', d'⟩).drop.getLsbD i = (!(a'.getLsbD i || (a.getLsbD i && !(d' &&& ~~~a').getLsbD i)) && ((d &&& ~~~a).getLsbD i || (d' &&& ~~~a').getLsbD i))) := Lib.hid fun i hi => by
    show ((a &&& ~~~(d' &&& ~~~a')) ||| a').getLsbD i = _ ∧ (((d &&& ~~~a) ||| (d' &&& ~~~a')) &&& ~~~((a &&& ~~~(d' &&& ~~~a')) ||| a')).getLsbD i = _
    simp only [BitVec.getLsbD_or, BitVec.getLsbD_and, BitVec.getLsbD_not, hi, decide_true, Bool.true_and]
    constructor
    · cases a.getLsbD i <;> cases a'.getLsbD i <;> cases d'.getLsbD i <;> rfl
    · cases a.getLsbD i <;> cases a'.getLsbD i <;> cases d'.getLsbD i <;> cases d.getLsbD i <;> rfl
  have EF : Hid ((thenP ⟨f, b, a, d⟩ ⟨f', b', a', d'⟩).fg = if cnt f' = 0 then cnt f else cnt f') := Lib.hid rfl
  have EB : Hid ((thenP ⟨f, b, a, d⟩ ⟨f', b', a', d'⟩).bg = if cnt b' = 0 then cnt b else cnt b') := Lib.hid rfl
  clear hf hb hf' hb'
  obtain ⟨R, hR⟩ : ∃ R, R = thenP ⟨f, b, a, d⟩ ⟨f', b', a', d'⟩ := ⟨_, rfl⟩
  rw [← hR] at BA EF EB
  have HR := Lib.hid hR
  suffices H : Calls Tryd.prog 30 #[patV f b a d, patV f' b' a' d'] w fun e w' => e = .returned (patV R.fg R.bg R.add R.drop) ∧ Below w.heap.size w w' by rw [hR] at H; exact H
  clear hR
  generalize (d &&& ~~~a) = da at *
  generalize (d' &&& ~~~a') = da' at *
  generalize cnt f = F at *
  generalize cnt b = B at *
  generalize cnt f' = F' at *
  generalize cnt b' = B' at *
  go_enter Tryd.func30, Tryd.ntmps30
  go_wp2_with fail
  refine (C1.out _).mono ?_; rintro e w1 ⟨rfl, hb1⟩
  obtain ⟨hc1, hf1, hz1⟩ := bcell hb1
  simp only [World.size_alloc] at hc1 hf1 hz1
  have l0 : w.heap.size < w1.heap.size := by omega
  have l1 : w.heap.size + 1 < w1.heap.size := by omega
  have l2 : w.heap.size + 1 + 1 < w1.heap.size := by omega
  have hB1 : Below w.heap.size w w1 := below_call (by go_grown) (by simp; omega) hb1
  clear hb1
  go_wp2_with fail
  refine (C2.out _).mono ?_; rintro e w2 ⟨rfl, hb2⟩
  have q1 : C4 w2 w1.heap.size (.int .i32 F) (.int .i32 B) (.int .u8 (bI a)) (.int .u8 (bI da)) := C4.keep (by constructor <;> simp [go_sem]) hb2 (by simp)
  have q2 : C4 w2 (w.heap.size + 1 + 1) (.int .i32 0) (.int .i32 0) (.int .u8 0) (.int .u8 0) := C4.keep (by constructor <;> simp [go_sem, hc1, hf1, l2]) hb2 (by simp; omega)
  have hB2 : Below w.heap.size w w2 := below_call (hB1.alloc (by omega) _) (by simp; omega) hb2
  have ls : w1.heap.size < w2.heap.size := by have := hb2.size; simp at this; omega
  clear hb2 hc1 hf1 hz1 hB1
  obtain ⟨p0, p1, p2, p3, r0, r1, r2, r3⟩ := q1
  have Q2 := Lib.hid q2
  clear q2
  have m2 : w.heap.size + 1 + 1 < w2.heap.size := by omega
  go_upto_if 22 with fail
  go_cut [] from 23 to 25 (fun wx => C4 wx (w2.heap.size + 1) (.int .i32 R.fg) (.int .i32 B') (.int .u8 0) (.int .u8 0) ∧ C4 wx w1.heap.size (.int .i32 F) (.int .i32 B) (.int .u8 (bI a)) (.int .u8 (bI da)) ∧ C4 wx w2.heap.size (.int .i32 F') (.int .i32 B') (.int .u8 (bI a')) (.int .u8 (bI da')) ∧ C4 wx (w.heap.size + 1 + 1) (.int .i32 0) (.int .i32 0) (.int .u8 0) (.int .u8 0) ∧ Below w.heap.size w wx)
  case first =>
    have P1 := Lib.hid (C4.mk p0 p1 p2 p3 r0 r1 r2 r3)
    have E1 := EF
    by_cases c1 : F' = 0
    all_goals
      have E1 := EF.out
      first | rw [if_pos c1] at E1 | rw [if_neg c1] at E1
      have E1 := Lib.hid E1
      try subst c1
      go_wp2_with fail
      go_meet
      refine ⟨?_, ?_, ?_, ?_, ?_⟩
      · rw [E1.out]; constructor <;> simp [go_sem]
      · exact P1.out.keep (by go_grown) ls
      · constructor <;> simp [go_sem]
      · exact Q2.out.keep (by go_grown) m2
      · exact (hB2.alloc (by omega) _).alloc (by simp; omega) _
  case rest =>
    obtain ⟨q3, q1, q2, q4, hb⟩ := hcut
    have Q1 := Lib.hid q1
    have Q3 := Lib.hid q3
    have Q2' := Lib.hid q2
    have Q4 := Lib.hid q4
    have HB := Lib.hid hb
    obtain ⟨a0, a1, a2, a3, b0, b1, b2, b3⟩ := q1
    obtain ⟨g0, g1, g2, g3, i0, i1, i2, i3⟩ := q3
    clear q2 q4 hb p0 p1 p2 p3 r0 r1 r2 r3 Q2
    go_upto_if 28 with fail
    go_cut [] from 29 to 31 (fun wx => C4 wx (w2.heap.size + 1) (.int .i32 R.fg) (.int .i32 R.bg) (.int .u8 0) (.int .u8 0) ∧ C4 wx w1.heap.size (.int .i32 F) (.int .i32 B) (.int .u8 (bI a)) (.int .u8 (bI da)) ∧ C4 wx w2.heap.size (.int .i32 F') (.int .i32 B') (.int .u8 (bI a')) (.int .u8 (bI da')) ∧ C4 wx (w.heap.size + 1 + 1) (.int .i32 0) (.int .i32 0) (.int .u8 0) (.int .u8 0) ∧ Below w.heap.size w wx)
    case first =>
      by_cases c2 : B' = 0
      all_goals
        have E2 := EB.out
        first | rw [if_pos c2] at E2 | rw [if_neg c2] at E2
        have E2 := Lib.hid E2
        try subst c2
        go_wp2_with fail
        go_meet
        refine ⟨?_, ?_, ?_, ?_, ?_⟩
        · rw [E2.out]; first | exact Q3.out | (constructor <;> simp [go_sem, *])
        · first | exact Q1.out | exact Q1.out.far (by omega)
        · first | exact Q2'.out | exact Q2'.out.far (by omega)
        · first | exact Q4.out | exact Q4.out.far (by omega)
        · first | exact HB.out | exact HB.out.setCell (by simp; omega) _
    case rest =>
      obtain ⟨q3, q1, q2, q4, hb⟩ := hcut
      have Q1 := Lib.hid q1
      have Q2' := Lib.hid q2
      have Q3 := Lib.hid q3
      have Q4 := Lib.hid q4
      have HB := Lib.hid hb
      clear q1 q2 q3 q4 hb
      go_wp2_with fail
      have m0 := mask_none R.add
      have m1 := mask_none R.drop
      have bz : bI (0 : B8) = 0 := rfl
      have ba : R.add &&& maskN 0 = 0 ∧ R.drop &&& maskN 0 = 0 := ⟨m0, m1⟩
      have BAZ := Lib.hid ba
      clear m0 m1 ba bz
      go_loopw [8] (fun s8 wr => ∃ (k : Nat) (X Y : B8), k ≤ 8 ∧ s8 = .int .u8 (bI (bitN k)) ∧ Hid (X = R.add &&& maskN k ∧ Y = R.drop &&& maskN k) ∧ Hid (C4 wr (w2.heap.size + 1) (.int .i32 R.fg) (.int .i32 R.bg) (.int .u8 (bI X)) (.int .u8 (bI Y)) ∧ C4 wr w1.heap.size (.int .i32 F) (.int .i32 B) (.int .u8 (bI a)) (.int .u8 (bI da)) ∧ C4 wr w2.heap.size (.int .i32 F') (.int .i32 B') (.int .u8 (bI a')) (.int .u8 (bI da')) ∧ C4 wr (w.heap.size + 1 + 1) (.int .i32 0) (.int .i32 0) (.int .u8 0) (.int .u8 0) ∧ Below w.heap.size w wr)) (fun s8 _ => mzN (intOf s8))
      case atStart => exact ⟨0, 0, 0, by omega, rfl, Lib.hid ⟨BAZ.out.1.symm, BAZ.out.2.symm⟩, Lib.hid ⟨Q3.out, Q1.out, Q2'.out, Q4.out, HB.out⟩⟩
      case round =>
        obtain ⟨k, X, Y, hk, rfl, hxy, hc⟩ := hrel
        by_cases lt : k < 8
        · obtain ⟨tw, tz⟩ := bit_twice ⟨k, lt⟩
          obtain ⟨ta1, ta2⟩ := bit_test a ⟨k, lt⟩
          obtain ⟨tb1, tb2⟩ := bit_test a' ⟨k, lt⟩
          obtain ⟨tc1, tc2⟩ := bit_test da ⟨k, lt⟩
          obtain ⟨td1, td2⟩ := bit_test da' ⟨k, lt⟩
          obtain ⟨n1, n2⟩ := BA.out k lt
          have nx := mask_next R.add ⟨k, lt⟩
          have ny := mask_next R.drop ⟨k, lt⟩
          simp only at tw tz ta1 ta2 tb1 tb2 tc1 tc2 td1 td2 nx ny
          rw [← hxy.out.1] at nx
          rw [← hxy.out.2] at ny
          have LT1 : bI (bitN k) < 256 := (bI_lt _).2
          have LT2 : 0 < bI (bitN k) := by
            have h := (bI_lt (bitN k)).1
            rcases Int.lt_or_eq_of_le h with h | h
            · exact h
            · rw [← h] at tz; cases tz
          have LT3 : bI (bitN (k + 1)) = 0 ∨ bI (bitN k) < bI (bitN (k + 1)) := by
            have hh : ∀ j : Fin 8, bI (bitN (j.val + 1)) = 0 ∨ bI (bitN j.val) < bI (bitN (j.val + 1)) := by decide +kernel
            exact hh ⟨k, lt⟩
          have LT4 := (bI_lt (bitN (k + 1))).2
          have ME : Hid (mzN (bI (bitN (k + 1))) < mzN (bI (bitN k))) := Lib.hid (by
            have m1 : mzN (bI (bitN k)) = (256 - bI (bitN k)).toNat := by unfold mzN; rw [if_neg (by omega)]
            rw [m1]
            rcases LT3 with h | h
            · rw [h]; show 0 < _; omega
            · have m2 : mzN (bI (bitN (k + 1))) = (256 - bI (bitN (k + 1))).toNat := by unfold mzN; rw [if_neg (by omega)]
              rw [m2]; omega)
          clear LT1 LT2 LT3 LT4
          obtain ⟨c3, c1, c2, c4, cb⟩ := hc.out
          obtain ⟨z0, z1, z2, z3, y0, y1, y2, y3⟩ := c3
          obtain ⟨a0, a1, a2, a3, b0, b1, b2, b3⟩ := c1
          obtain ⟨g0, g1, g2, g3, i0, i1, i2, i3⟩ := c2
          have NX := Lib.hid nx
          have NY := Lib.hid ny
          have N1 := Lib.hid n1
          have N2 := Lib.hid n2
          clear nx ny n1 n2 c4 cb
          cases e1 : a'.getLsbD k
          all_goals cases e2 : a.getLsbD k
          all_goals cases e3 : da'.getLsbD k
          all_goals cases e4 : da.getLsbD k
          all_goals
            rw [e1] at tb1
            rw [e2] at ta1
            rw [e3] at td1 td2
            rw [e4] at tc1
            have n1 := N1.out
            have n2 := N2.out
            rw [e1, e2, e3] at n1
            rw [e1, e2, e3, e4] at n2
            have nx := NX.out
            have ny := NY.out
            rw [n1] at nx
            rw [n2] at ny
            simp only [Bool.not_false, Bool.not_true, Bool.and_true, Bool.and_false, Bool.or_true, Bool.or_false, if_true, if_false, Bool.false_eq_true] at nx ny td2
            have nx := Lib.hid nx
            have ny := Lib.hid ny
            clear e1 e2 e3 e4 n1 n2 N1 N2 NX NY
            go_wp2_with fail
            go_roundw
            case rel =>
              refine ⟨k + 1, _, _, by omega, rfl, Lib.hid ⟨nx.out.symm, ny.out.symm⟩, ?_⟩
              first
                | exact hc
                | exact Lib.hid ⟨hc.out.1.set2 _, hc.out.2.1.far (by omega), hc.out.2.2.1.far (by omega), hc.out.2.2.2.1.far (by omega), hc.out.2.2.2.2.setCell (by simp; omega) _⟩
                | exact Lib.hid ⟨hc.out.1.set3 _, hc.out.2.1.far (by omega), hc.out.2.2.1.far (by omega), hc.out.2.2.2.1.far (by omega), hc.out.2.2.2.2.setCell (by simp; omega) _⟩
            case measure => exact ME.out
        · have e8 : k = 8 := by omega
          subst e8
          have tz : (bI (bitN 8) != 0) = false := by decide +kernel
          have X8 : Hid (X = R.add ∧ Y = R.drop) := Lib.hid ⟨hxy.out.1.trans (mask_all _), hxy.out.2.trans (mask_all _)⟩
          obtain ⟨c3, c1, c2, c4, cb⟩ := hc.out
          obtain ⟨z0, z1, z2, z3, y0, y1, y2, y3⟩ := c3
          obtain ⟨a0, a1, a2, a3, b0, b1, b2, b3⟩ := c4
          have CB := Lib.hid cb
          clear c1 c2 cb
          go_wp2_with fail
          refine bodyPost_ret (v := patV R.fg R.bg R.add R.drop) (by rw [← X8.out.1, ← X8.out.2]; simp [results, Tryd.results30, go_sem, a0, a1, a2, a3]) rfl ⟨rfl, ?_⟩
          exact (((CB.out.setCell (by simp; omega) _).setCell (by simp; omega) _).setCell (by simp; omega) _).setCell (by simp; omega) _
end Go.Proofs.YthcdcbibbfdjmaaDoor
