/- How often some bytes clear the terminal (the law's clears): the walk. -/
import Derived.Test.YtohgodifnbpafaaDoorDhC
import Derived.Test.YtohgodifnbpafaaDoorDhW
namespace Go.Proofs.YtohgodifnbpafaaDoor
open Go Go.RowKit Go.Sort
set_option linter.unusedVariables false
set_option linter.unusedSimpArgs false

theorem clr_short (l : List UInt8) (h : l.length < 4) : clrN l = 0 := by
  induction l with
  | nil => rfl
  | cons a l ih =>
    rw [clrN_cons, ih (by simp at h; omega), if_neg]
    intro e
    have := congrArg List.length e
    simp [pat4] at this h
    omega
theorem clr_drop (l : List UInt8) (i : Nat) (h : i < l.length) : clrN (l.drop i) = (if (l.drop i).take 4 = pat4 then 1 else 0) + clrN (l.drop (i + 1)) := by
  rw [List.drop_eq_getElem_cons h]
  exact clrN_cons _ _
theorem clr_le (l : List UInt8) : clrN l ≤ l.length := by
  induction l with
  | nil => exact Nat.le_refl _
  | cons a l ih => rw [clrN_cons, List.length_cons]; split <;> omega
theorem strCells_get (s : ByteArray) (j : Nat) (u : Value) : (Lib.strCells s)[j]? = some u ↔ ∃ b, s.data.toList[j]? = some b ∧ u = .int .u8 b.toNat := by
  unfold Lib.strCells
  rw [List.getElem?_map, Option.map_eq_some_iff]
  exact ⟨fun ⟨b, h1, h2⟩ => ⟨b, h1, h2.symm⟩, fun ⟨b, h1, h2⟩ => ⟨b, h1, h2.symm⟩⟩
/-- some bytes of a row, as a text -/
theorem conv_part {w : World} {g i m c : Nat} {l : List UInt8} (h : ∀ j u, (l.map fun b => Value.int .u8 b.toNat)[j]? = some u → w.cell? ((⟨g, i, none⟩ : Addr).add j) = some u) (hl : l.length = m) :
    (convert 40 9 (.slice (some ⟨g, i, none⟩) m c)).run Tryd.prog w = .ok (.string ⟨l.toArray⟩) w := by
  rw [run_convert_bytes_string w _ _ 5 (some ⟨g, i, none⟩) m c Tryd.underlying40 Tryd.underlying5 Tryd.underlying9]
  have e : (l.map fun b => (b.toNat : Int)).map (Value.int .u8) = l.map fun b => Value.int .u8 b.toNat := by rw [List.map_map]; rfl
  have hl' := run_loadCells_list (P := Tryd.prog) w ⟨g, i, none⟩ (l.map fun b => Value.int .u8 b.toNat) h
  rw [List.length_map, hl, ← e] at hl'
  rw [run_bytesToString w _ m c (l.map fun b => (b.toNat : Int)) hl', barr_fold]
  unfold barr
  rw [List.map_map]
  have : ((fun n : Int => UInt8.ofNat n.toNat) ∘ fun b : UInt8 => (b.toNat : Int)) = id := by
    funext b
    simp
  rw [this, List.map_id]

set_option maxHeartbeats 8000000 in
set_option maxRecDepth 100000 in
theorem law_clears (v : Value) (s : ByteArray) (lo : Nat) (w : World) (h : w.ownsRow lo 5 1 v s.size (Lib.strCells s)) (hs : s.size ≤ 1000000000000) :
    Calls Tryd.prog 17 #[v] w fun e w' => e = .returned (.int .i64 (clrN s.data.toList)) ∧ w = w' := by
  obtain ⟨A, c, rfl⟩ := own_slice' h
  obtain ⟨N, hN⟩ : ∃ N, N = s.size := ⟨_, rfl⟩
  have sl : s.data.toList.length = N := by rw [hN]; simp
  rw [← hN] at h hs ⊢
  obtain ⟨K, hK⟩ : ∃ K, K = clrN s.data.toList := ⟨_, rfl⟩
  have KB : K ≤ N := by rw [hK, ← sl]; exact clr_le _
  rw [← hK]
  have HK := Lib.hid hK
  have SL := Lib.hid sl
  have FM : Hid (N = 0 ∨ ∃ g, A = some ⟨g, 0, none⟩ ∧ N ≤ c ∧ ∀ j u, (Lib.strCells s)[j]? = some u → w.cell? ⟨g, j, none⟩ = some u) := Lib.hid (by
    rcases h.2 with ⟨_, e2⟩ | ⟨g, cap, cur, e, _, _, hc, _⟩
    · exact Or.inl e2
    · cases e
      refine Or.inr ⟨g, rfl, hc, fun j u hj => ?_⟩
      have := h.cells (g := g) rfl j u hj
      rwa [show ({ block := g, off := 0 } : Addr).add j = ⟨g, j, none⟩ by unfold Addr.add; split <;> simp_all] at this)
  clear h hN sl hK
  go_enter Tryd.func17, Tryd.ntmps17
  go_wp2_with fail
  go_loop [3, 4] (fun s3 s4 => ∃ i m : Nat, i ≤ N ∧ m ≤ N ∧ s4 = .int .i64 i ∧ s3 = .int .i64 m ∧ Hid (K = m + clrN (s.data.toList.drop i))) (fun _ s4 => N - (intOf s4).toNat)
  case atStart => exact ⟨0, 0, Nat.zero_le _, Nat.zero_le _, rfl, rfl, Lib.hid (by rw [List.drop_zero, HK.out]; omega)⟩
  case round =>
    obtain ⟨i, m, hi, hm, rfl, rfl, hk⟩ := hrel
    have wk : IntKind.i64.wrap ((i : Int) + 4) = (i : Int) + 4 := IntWalk.i64_in _ (by omega)
    by_cases lt : i + 4 ≤ N
    · have FM := FM.out
      rcases FM with z | ⟨g, rfl, hc, hcell⟩
      · omega
      · have dr := clr_drop s.data.toList i (by rw [SL.out]; omega)
        have slr : ∀ W, (Instr.slice 40 (.slice (some ⟨g, 0, none⟩) N c) (some (.int .i64 (i : Int))) (some (.int .i64 ((i : Int) + 4))) none).run Tryd.prog W = .ok (.slice (some ⟨g, i, none⟩) 4 (c - i)) W := fun W => by
          rw [run_slice_lh W 40 (some ⟨g, 0, none⟩) N c (by kernel_rfl) .i64 .i64 (i : Int) ((i : Int) + 4) (by omega) (by omega) (by omega)]
          have sz : (sizeOf (Tryd.prog.elem 40)).run Tryd.prog W = .ok 1 W := by kernel_rfl
          rw [sz]
          show Result.ok (sliced (some ⟨g, 0, none⟩) (i : Int).toNat ((i : Int) + 4).toNat c 1) W = _
          have e1 : (i : Int).toNat = i := Int.toNat_natCast i
          have e2 : ((i : Int) + 4).toNat = i + 4 := by omega
          rw [e1, e2]
          unfold sliced
          rw [if_neg (by omega), Nat.mul_one, show i + 4 - i = 4 by omega]
          have e3 : (({ block := g, off := 0 } : Addr).add i) = ⟨g, i, none⟩ := by unfold Addr.add; split <;> simp_all
          rw [Option.map_some, e3]
        have cv : (convert 40 9 (.slice (some ⟨g, i, none⟩) 4 (c - i))).run Tryd.prog w = .ok (.string ⟨((s.data.toList.drop i).take 4).toArray⟩) w := by
          refine conv_part (fun j u hj => ?_) (by rw [List.length_take, List.length_drop, SL.out]; omega)
          rw [List.getElem?_map, Option.map_eq_some_iff] at hj
          obtain ⟨b, hb, rfl⟩ := hj
          have lj : j < 4 := by have := (List.getElem?_eq_some_iff.1 hb).1; rw [List.length_take] at this; omega
          rw [List.getElem?_take, if_pos lj, List.getElem?_drop] at hb
          rw [show ({ block := g, off := i } : Addr).add j = ⟨g, i + j, none⟩ by unfold Addr.add; split <;> simp_all]
          exact hcell (i + j) _ ((strCells_get s (i + j) _).2 ⟨b, hb, rfl⟩)
        generalize hx : (s.data.toList.drop i).take 4 = x at *
        have HX := Lib.hid hx
        have DR := Lib.hid dr
        clear hx dr
        by_cases q : x = pat4
        · have NX : Hid (K = (m + 1) + clrN (s.data.toList.drop (i + 1)) ∧ m + 1 ≤ N) := Lib.hid (by
            have h1 := hk.out
            have h2 := DR.out
            rw [if_pos q] at h2
            refine ⟨by omega, by omega⟩)
          have ml := NX.out.2
          have q2 : ((⟨x.toArray⟩ : ByteArray).toList == [27, 91, 50, 74]) = true := by rw [eq_list, q]; exact decide_eq_true rfl
          generalize (⟨x.toArray⟩ : ByteArray) = y at *
          clear q
          go_wp2_with fail
          exact ⟨⟨i + 1, m + 1, by omega, ml, by go_num, by go_num, Lib.hid NX.out.1⟩, by simp [intOf]; omega⟩
        · have NX : Hid (K = m + clrN (s.data.toList.drop (i + 1))) := Lib.hid (by
            have h1 := hk.out
            have h2 := DR.out
            rw [if_neg q] at h2
            omega)
          have q2 : ((⟨x.toArray⟩ : ByteArray).toList == [27, 91, 50, 74]) = false := by
            rw [eq_list]
            refine decide_eq_false (fun e => q ?_)
            have := congrArg (fun b : ByteArray => b.data.toList) e
            simpa [pat4] using this
          generalize (⟨x.toArray⟩ : ByteArray) = y at *
          clear q
          go_wp2_with fail
          exact ⟨⟨i + 1, m, by omega, hm, by go_num, rfl, NX⟩, by simp [intOf]; omega⟩
    · have z : Hid (m = K) := Lib.hid (by have := hk.out; rw [clr_short _ (by rw [List.length_drop, SL.out]; omega)] at this; omega)
      go_wp2_with fail
      go_ret
      exact ⟨by first | rfl | (rw [z.out]; rfl), rfl⟩
end Go.Proofs.YtohgodifnbpafaaDoor
