/- The reference's word: the walk. -/
import Derived.Test.YthcdcbibbfdjmaaDoorStyPv
import Derived.Test.YthcdcbibbfdjmaaDoorParR
namespace Go.Proofs.YthcdcbibbfdjmaaDoor
open Go.RowKit Go.Sort
set_option linter.unusedVariables false


def wordV : Except Int (Pat × Nat) → Value
  | .ok (_, n) => .tuple #[.int .i64 (n : Int), .int .i64 0]
  | .error e => .tuple #[.int .i64 0, .int .i64 e]
def onStep (p : Pat) (r : List ByteArray) : Except Int (Pat × Nat) := match r with
  | [] => .error 60
  | y :: _ => match colW y with
    | none => .error 60
    | some c => if p.bg ≠ 0 then .error 112 else .ok ({ p with bg := c }, 2)
def fgStep (p : Pat) (x : ByteArray) : Except Int (Pat × Nat) := match colW x with
  | none => .error 60
  | some c => if p.fg ≠ 0 then .error 112 else .ok ({ p with fg := c }, 1)
def ReadC (w : World) (b : Nat) (p : Pat) : Prop := C6 w b (.int .i32 p.fg) (.int .i32 p.bg) (.int .u8 (bI p.add)) (.int .u8 (bI p.drop)) (.bool (decide (p.fg ≠ 0))) (.bool (decide (p.bg ≠ 0)))

set_option maxHeartbeats 16000000 in
set_option maxRecDepth 100000 in
theorem ref_word (b : Nat) (p : Pat) (ad : Addr) (m k c : Nat) (x : ByteArray) (r : List ByteArray) (w : World) (hm : m = k + 1 + r.length) (hc : m ≤ c) (hx : w.cell? (ad.add k) = some (.string x)) (hy : ∀ y r', r = y :: r' → w.cell? (ad.add (k + 1)) = some (.string y))
    (hs : x.size ≤ 65536) (hm2 : m ≤ 70000) (K : ReadC w b p) (hab : ad.block < b) :
    Calls Tryd.prog 77 #[.pointer (some ⟨b, 0, none⟩), .slice (some ad) m c, .int .i64 (k : Int)] w fun e w' => e = .returned (wordV (stepP p x r)) ∧ Below b w w' ∧ ∀ q n, stepP p x r = .ok (q, n) → ReadC w' b q := by
  have K := Lib.hid K
  have HY := Lib.hid hy
  have HM := Lib.hid hm
  have km : k < m := by omega
  clear hm
  have kb := K.out.lt
  have hxx : Hid (∀ W, Below w.heap.size w W → W.cell? (ad.add k) = some (.string x)) := Lib.hid (fun W h => (h.cell (by rw [add_blk]; omega)).trans hx)
  have N1 := Lib.hid (ref_named x)
  have N2 := Lib.hid (ref_named (x.extract 3 x.size))
  have o1 := Lib.hid (off_short x)
  have o2 := Lib.hid (off_no x)
  have o3 := Lib.hid (off_yes x)
  clear hy
  go_enter Tryd.func77, Tryd.ntmps77
  go_wp2_with fail
  refine (N1.out _).mono ?_; rintro e w1 ⟨rfl, hb1⟩
  have HB1 := Lib.hid hb1
  have hx1 := hxx.out w1 hb1
  clear hb1 hx
  go_upto_region 3 with fail
  obtain ⟨B, hB⟩ : ∃ B : Bool, B = decide (3 < x.size ∧ x.extract 0 3 = noB) := ⟨_, rfl⟩
  have HB := Lib.hid hB
  clear hB
  go_cut [32] from 19 to 32 (fun s32 wx => s32 = .bool B ∧ wx = w1)
  case first =>
    by_cases sz : 3 < x.size
    · have slr : ∀ W, (Instr.slice 9 (.string x) none (some (.int .i64 3)) none).run Tryd.prog W = .ok (.string (x.extract 0 3)) W := fun W => by
        have a : (3 : Int) ≤ (x.size : Int) := by omega
        simp [go_sem, Tryd.underlying9, a]
      have b1 : ((x.extract 0 3).toList == [110, 111, 45]) = B := by
        rw [seq_list, HB.out]
        have e : (⟨[110, 111, 45].toArray⟩ : ByteArray) = noB := rfl
        rw [e]
        by_cases no : x.extract 0 3 = noB
        · rw [decide_eq_true no, decide_eq_true ⟨sz, no⟩]
        · rw [decide_eq_false no, decide_eq_false (fun h => no h.2)]
      generalize x.extract 0 3 = x3 at *
      go_wp2_with fail
      go_meet
      exact ⟨rfl, rfl⟩
    · have b1 : B = false := by rw [HB.out]; exact decide_eq_false (fun h => sz h.1)
      go_wp2_with fail
      go_meet
      exact ⟨by rw [b1], rfl⟩
  case rest =>
    obtain ⟨rfl, rfl⟩ := hcut
    go_upto_if 32 with fail
    go_cut [9] from 32 to 38 (fun s9 wx => s9 = .int .u8 (bI (offB x)) ∧ Hid (Below w.heap.size w wx))
    case first =>
      cases hb : B with
      | true =>
        rw [hb] at HB
        have nn := of_decide_eq_true HB.out.symm
        have OO := Lib.hid (o3.out nn.2)
        have slr2 : ∀ W, (Instr.slice 9 (.string x) (some (.int .i64 3)) none none).run Tryd.prog W = .ok (.string (x.extract 3 x.size)) W := fun W => by
          have a : (3 : Int) ≤ (x.size : Int) := by omega
          simp [go_sem, Tryd.underlying9, a]
        clear nn hb HB
        generalize x.extract 3 x.size = x4 at *
        go_wp2_with fail
        refine (N2.out _).mono ?_; rintro e w2 ⟨rfl, hb2⟩
        have HB2 := Lib.hid (below_call HB1.out HB1.out.size hb2)
        clear hb2
        go_wp2_with fail
        go_meet
        exact ⟨by rw [OO.out], HB2⟩
      | false =>
        rw [hb] at HB
        have OO : Hid (offB x = 0) := Lib.hid (by
          have nn := of_decide_eq_false HB.out.symm
          by_cases sz : 3 < x.size
          · exact o2.out (fun e => nn ⟨sz, e⟩)
          · exact o1.out (by omega))
        clear hb HB
        go_wp2_with fail
        go_meet
        exact ⟨by rw [OO.out]; rfl, HB1⟩
    case rest =>
      obtain ⟨rfl, HB2⟩ := hcut
      have SP := Lib.hid (show stepP p x r = _ from by unfold stepP; rfl)
      have hxw := hxx.out _ HB2.out
      clear HB1 hx1 HB o1 o2 o3 N1 N2
      generalize attB x = AA at *
      generalize offB x = OO at *
      go_upto_region 5 with fail
      obtain ⟨wx, hwx⟩ : ∃ w0, w0 = wc := ⟨_, rfl⟩
      subst hwx
      go_cut [44] from 39 to 44 (fun s44 wy => s44 = .bool (decide (AA ||| OO ≠ 0)) ∧ wy = wx)
      case first =>
        by_cases a0 : AA = 0
        · have tA : (bI AA != 0) = false := by rw [bI_test]; exact decide_eq_false (fun h => h a0)
          have tT : decide (AA ||| OO ≠ 0) = (bI OO != 0) := by rw [a0, bI_test]; simp
          have tT := Lib.hid tT
          clear a0
          go_wp2_with fail
          go_meet
          exact ⟨by rw [tT.out], rfl⟩
        · have tA : (bI AA != 0) = true := by rw [bI_test]; exact decide_eq_true a0
          have tT : decide (AA ||| OO ≠ 0) = true := decide_eq_true (fun h => a0 (by
            apply b8_ext
            intro i _
            have := congrArg (fun z => z.getLsbD i) h
            simp at this ⊢
            exact this.1))
          have tT := Lib.hid tT
          clear a0
          go_wp2_with fail
          go_meet
          exact ⟨by rw [tT.out], rfl⟩
      case rest =>
        obtain ⟨rfl, rfl⟩ := hcut
        have KK := Lib.hid (K.out.keep HB2.out kb)
        have HBb := Lib.hid (HB2.out.mono (Nat.le_of_lt kb))
        by_cases nz : AA ||| OO ≠ 0
        · have SPT : Hid (stepP p x r = if (p.add ||| p.drop) &&& (AA ||| OO) ≠ 0 then .error 112 else .ok ({ p with add := p.add ||| AA, drop := p.drop ||| OO }, 1)) := Lib.hid (by rw [SP.out, if_pos nz])
          have tn : decide (AA ||| OO ≠ 0) = true := decide_eq_true nz
          rw [tn]
          clear SP nz tn
          by_cases cl : (p.add ||| p.drop) &&& (AA ||| OO) ≠ 0
          · have tc : (bI ((p.add ||| p.drop) &&& (AA ||| OO)) != 0) = true := by rw [bI_test]; exact decide_eq_true cl
            have SPT := Lib.hid (SPT.out.trans (if_pos cl))
            clear cl
            have g2 := fun d os => (KK.out.keep (below_regrown _ d os) KK.out.lt).c2
            have g3 := fun d os => (KK.out.keep (below_regrown _ d os) KK.out.lt).c3
            go_upto_region 6 with fail
            refine wp_region_spec 15 [] [] (by kernel_rfl) (by kernel_rfl) (by kernel_rfl) (by intro t ht; cases ht) ?_
            simp only [List.take_succ_cons, List.take_zero, List.drop_succ_cons, List.drop_zero]
            repeat (refine wpS_step (by rfl) (fun K hK => ?_); go_simp; first | (refine hK _ ?_; clear hK K) | (apply Exists.intro; refine ⟨fun _ => ?_, hK _ ?_⟩; (fail); clear hK K))
            refine wpS_nil ?_
            intro W7 vs7 hl hv
            have hb7 := later_below.1 hl
            have HB7 := Lib.hid (HBb.out.trans (hb7.mono (Nat.le_trans (Nat.le_of_lt kb) HB2.out.size)))
            have K7 := Lib.hid (KK.out.keep hb7 KK.out.lt)
            simp only [fillA]
            clear hl hv g2 g3 hb7
            go_wp2_with fail
            refine bodyPost_ret (v := wordV (.error 112)) (by simp [results, Tryd.results77, go_sem] <;> rfl) rfl ?_
            exact ⟨by rw [SPT.out], HB7.out, fun q n h => by rw [SPT.out] at h; cases h⟩
          · have tc : (bI ((p.add ||| p.drop) &&& (AA ||| OO)) != 0) = false := by rw [bI_test]; exact decide_eq_false cl
            have SPT := Lib.hid (SPT.out.trans (if_neg cl))
            clear cl
            have g2 := fun d os => (KK.out.keep (below_regrown _ d os) KK.out.lt).c2
            have g3 := fun d os => (KK.out.keep (below_regrown _ d os) KK.out.lt).c3
            go_upto_region 6 with fail
            refine wp_region_spec 15 [] [] (by kernel_rfl) (by kernel_rfl) (by kernel_rfl) (by intro t ht; cases ht) ?_
            simp only [List.take_succ_cons, List.take_zero, List.drop_succ_cons, List.drop_zero]
            repeat (refine wpS_step (by rfl) (fun K hK => ?_); go_simp; first | (refine hK _ ?_; clear hK K) | (apply Exists.intro; refine ⟨fun _ => ?_, hK _ ?_⟩; (fail); clear hK K))
            refine wpS_nil ?_
            intro W7 vs7 hl hv
            have hb7 := later_below.1 hl
            have HB7 := Lib.hid (HBb.out.trans (hb7.mono (Nat.le_trans (Nat.le_of_lt kb) HB2.out.size)))
            have K7 := Lib.hid (KK.out.keep hb7 KK.out.lt)
            simp only [fillA]
            clear hl hv g2 g3 hb7
            obtain ⟨a0, a1, a2, a3, a4, a5, f0, f1, f2, f3, f4, f5⟩ := K7.out
            go_wp2_with fail
            refine bodyPost_ret (v := .tuple #[.int .i64 1, .int .i64 0]) (by simp [results, Tryd.results77, go_sem] <;> rfl) rfl ?_
            refine ⟨by rw [SPT.out]; rfl, (HB7.out.setCell (Nat.le_refl _) _).setCell (Nat.le_refl _) _, fun q n h => ?_⟩
            rw [SPT.out] at h
            cases h
            exact K7.out.set23 _ _
        · have SPT : Hid (stepP p x r = if x = onB then onStep p r else fgStep p x) := Lib.hid (by rw [SP.out, if_neg nz]; rfl)
          have tn : decide (AA ||| OO ≠ 0) = false := decide_eq_false nz
          rw [tn]
          clear SP nz tn
          by_cases on : x = onB
          · have b2 : (x.toList == [111, 110]) = true := by rw [seq_list, on]; exact decide_eq_true rfl
            have SPT := Lib.hid (SPT.out.trans (if_pos on))
            clear on
            rcases r with _ | ⟨y, r'⟩
            · have q : (((k : Int) + 1) == (m : Int)) = true := by have := HM.out; simp at this ⊢; omega
              have SPT : Hid (stepP p x [] = .error 60) := Lib.hid (SPT.out.trans rfl)
              go_wp2_with fail
              refine bodyPost_ret (v := wordV (.error 60)) (by simp [results, Tryd.results77, go_sem] <;> rfl) rfl ?_
              exact ⟨by rw [SPT.out], HBb.out, fun q n h => by rw [SPT.out] at h; cases h⟩
            · have k1 : k + 1 < m := by have := HM.out; simp at this; omega
              have q : (((k : Int) + 1) == (m : Int)) = false := by simp; omega
              have cy0 := HY.out y r' rfl
              have cy := (HB2.out.cell (p := ad.add (k + 1)) (by rw [add_blk]; omega)).trans cy0
              have cy2 := cy
              rw [← add_lit ad (k + 1) (by omega)] at cy2
              clear cy0
              have PX := Lib.hid (ref_Parse y (colW y) (colW_word y))
              cases hcw : colW y with
              | none =>
                have SPT : Hid (stepP p x (y :: r') = .error 60) := Lib.hid (by rw [SPT.out]; unfold onStep; simp only [hcw])
                rw [hcw] at PX
                clear hcw
                go_wp2_with fail
                refine (PX.out _).mono ?_; rintro e w3 ⟨rfl, hb3⟩
                have HB3 := Lib.hid (HBb.out.trans (hb3.mono (Nat.le_trans (Nat.le_of_lt kb) HB2.out.size)))
                clear hb3
                simp only [parEnd]
                go_wp2_with fail
                refine bodyPost_ret (v := wordV (.error 60)) (by simp [results, Tryd.results77, go_sem] <;> rfl) rfl ?_
                exact ⟨by rw [SPT.out], HB3.out, fun q n h => by rw [SPT.out] at h; cases h⟩
              | some col =>
                rw [hcw] at PX
                have cne := (colW_ne y col hcw).1
                have SPT : Hid (stepP p x (y :: r') = if p.bg ≠ 0 then .error 112 else .ok ({ p with bg := col }, 2)) := Lib.hid (by rw [SPT.out]; unfold onStep; simp only [hcw])
                clear hcw
                go_wp2_with fail
                refine (PX.out _).mono ?_; rintro e w3 ⟨rfl, hb3⟩
                have HB3 := Lib.hid (HBb.out.trans (hb3.mono (Nat.le_trans (Nat.le_of_lt kb) HB2.out.size)))
                have K3 := Lib.hid (KK.out.keep hb3 KK.out.lt)
                clear hb3
                simp only [parEnd]
                obtain ⟨a0, a1, a2, a3, a4, a5, f0, f1, f2, f3, f4, f5⟩ := K3.out
                by_cases fz : p.bg ≠ 0
                · have SPT := Lib.hid (SPT.out.trans (if_pos fz))
                  rw [decide_eq_true fz] at a5
                  clear fz
                  go_wp2_with fail
                  refine bodyPost_ret (v := wordV (.error 112)) (by simp [results, Tryd.results77, go_sem] <;> rfl) rfl ?_
                  exact ⟨by rw [SPT.out], HB3.out, fun q n h => by rw [SPT.out] at h; cases h⟩
                · have SPT := Lib.hid (SPT.out.trans (if_neg fz))
                  rw [decide_eq_false fz] at a5
                  clear fz
                  have CN := Lib.hid cne
                  clear cne
                  go_wp2_with fail
                  refine bodyPost_ret (v := .tuple #[.int .i64 2, .int .i64 0]) (by simp [results, Tryd.results77, go_sem] <;> rfl) rfl ?_
                  refine ⟨by rw [SPT.out]; rfl, (HB3.out.setCell (Nat.le_refl _) _).setCell (Nat.le_refl _) _, fun q n h => ?_⟩
                  rw [SPT.out] at h
                  cases h
                  have e : decide (col ≠ 0) = true := decide_eq_true CN.out
                  unfold ReadC
                  rw [show decide (({ p with bg := col } : Pat).bg ≠ 0) = true from e]
                  exact K3.out.set15 _ _
          · have b2 : (x.toList == [111, 110]) = false := by rw [seq_list]; exact decide_eq_false on
            have SPT := Lib.hid (SPT.out.trans (if_neg on))
            clear on
            have PX := Lib.hid (ref_Parse x (colW x) (colW_word x))
            cases hcw : colW x with
            | none =>
              have SPT : Hid (stepP p x r = .error 60) := Lib.hid (by rw [SPT.out]; unfold fgStep; rw [hcw])
              rw [hcw] at PX
              clear hcw
              go_wp2_with fail
              refine (PX.out _).mono ?_; rintro e w3 ⟨rfl, hb3⟩
              have HB3 := Lib.hid (HBb.out.trans (hb3.mono (Nat.le_trans (Nat.le_of_lt kb) HB2.out.size)))
              clear hb3
              simp only [parEnd]
              go_wp2_with fail
              refine bodyPost_ret (v := wordV (.error 60)) (by simp [results, Tryd.results77, go_sem] <;> rfl) rfl ?_
              exact ⟨by rw [SPT.out], HB3.out, fun q n h => by rw [SPT.out] at h; cases h⟩
            | some col =>
              rw [hcw] at PX
              have cne := (colW_ne x col hcw).1
              have SPT : Hid (stepP p x r = if p.fg ≠ 0 then .error 112 else .ok ({ p with fg := col }, 1)) := Lib.hid (by rw [SPT.out]; unfold fgStep; rw [hcw])
              clear hcw
              go_wp2_with fail
              refine (PX.out _).mono ?_; rintro e w3 ⟨rfl, hb3⟩
              have HB3 := Lib.hid (HBb.out.trans (hb3.mono (Nat.le_trans (Nat.le_of_lt kb) HB2.out.size)))
              have K3 := Lib.hid (KK.out.keep hb3 KK.out.lt)
              clear hb3
              simp only [parEnd]
              obtain ⟨a0, a1, a2, a3, a4, a5, f0, f1, f2, f3, f4, f5⟩ := K3.out
              by_cases fz : p.fg ≠ 0
              · have SPT := Lib.hid (SPT.out.trans (if_pos fz))
                rw [decide_eq_true fz] at a4
                clear fz
                go_wp2_with fail
                refine bodyPost_ret (v := wordV (.error 112)) (by simp [results, Tryd.results77, go_sem] <;> rfl) rfl ?_
                exact ⟨by rw [SPT.out], HB3.out, fun q n h => by rw [SPT.out] at h; cases h⟩
              · have SPT := Lib.hid (SPT.out.trans (if_neg fz))
                rw [decide_eq_false fz] at a4
                clear fz
                have CN := Lib.hid cne
                clear cne
                go_wp2_with fail
                refine bodyPost_ret (v := .tuple #[.int .i64 1, .int .i64 0]) (by simp [results, Tryd.results77, go_sem] <;> rfl) rfl ?_
                refine ⟨by rw [SPT.out]; rfl, (HB3.out.setCell (Nat.le_refl _) _).setCell (Nat.le_refl _) _, fun q n h => ?_⟩
                rw [SPT.out] at h
                cases h
                have e : decide (col ≠ 0) = true := decide_eq_true CN.out
                unfold ReadC
                rw [show decide (({ p with fg := col } : Pat).fg ≠ 0) = true from e]
                exact K3.out.set04 _ _
end Go.Proofs.YthcdcbibbfdjmaaDoor
