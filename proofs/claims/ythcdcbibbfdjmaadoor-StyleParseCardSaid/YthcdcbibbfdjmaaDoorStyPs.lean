/- The reference's Words: the walk. -/
import Derived.Test.YthcdcbibbfdjmaaDoorStyPw
import Derived.Test.YthcdcbibbfdjmaaDoorStyTx
namespace Go.Proofs.YthcdcbibbfdjmaaDoor
open Go.RowKit Go.Sort
set_option linter.unusedVariables false

def extS (s : ByteArray) (l : List (Nat × Nat)) : List ByteArray := l.map fun x => s.extract x.1 x.2
theorem extS_snoc (s : ByteArray) (l : List (Nat × Nat)) (a b : Nat) : extS s (l ++ [(a, b)]) = extS s l ++ [s.extract a b] := by simp [extS]
def spX (s : ByteArray) (k : Nat) : List (Nat × Nat) × Option Nat := if k ≤ s.size then spW s k else (Lib.closeSpans s (spW s s.size), none)
def fromI : Option Nat → Int
  | none => -1
  | some a => (a : Int)
theorem spX_le (s : ByteArray) (k : Nat) (h : k ≤ s.size) : spX s k = spW s k := by unfold spX; rw [if_pos h]
theorem spX_blank0 (s : ByteArray) (k : Nat) (acc : List (Nat × Nat)) (h : k ≤ s.size) (hb : k = s.size ∨ blankR (s.get! k).toNat = true) (e : spX s k = (acc, none)) : spX s (k + 1) = (acc, none) := by
  rw [spX_le s k h] at e
  by_cases z : k = s.size
  · unfold spX
    rw [if_neg (by omega), ← z, e]
    rfl
  · have hb := hb.resolve_left z
    rw [spX_le s (k + 1) (by omega), spW_sep0 s k hb (by rw [e]), e]
theorem spX_blank1 (s : ByteArray) (k a : Nat) (acc : List (Nat × Nat)) (h : k ≤ s.size) (hb : k = s.size ∨ blankR (s.get! k).toNat = true) (e : spX s k = (acc, some a)) : spX s (k + 1) = (acc ++ [(a, k)], none) := by
  rw [spX_le s k h] at e
  by_cases z : k = s.size
  · unfold spX
    rw [if_neg (by omega), ← z, e]
    subst z
    rfl
  · have hb := hb.resolve_left z
    rw [spX_le s (k + 1) (by omega), spW_sep s k a hb (by rw [e]), e]
theorem spX_char (s : ByteArray) (k : Nat) (acc : List (Nat × Nat)) (st : Option Nat) (h : k < s.size) (hb : ¬ blankR (s.get! k).toNat = true) (e : spX s k = (acc, st)) : spX s (k + 1) = (acc, some (st.getD k)) := by
  rw [spX_le s k (by omega)] at e
  rw [spX_le s (k + 1) (by omega), spW_char s k hb, e]
theorem spX_st (s : ByteArray) (k a : Nat) (acc : List (Nat × Nat)) (h : k ≤ s.size) (e : spX s k = (acc, some a)) : a < k := by
  rw [spX_le s k h] at e
  exact spW_st s k a (by rw [e])
theorem spW_len (s : ByteArray) : ∀ k, (spW s k).1.length ≤ k := by
  intro k
  induction k with
  | zero => simp [spW]
  | succ k ih =>
    by_cases b : blankR (s.get! k).toNat = true
    · cases e : (spW s k).2 with
      | none => rw [spW_sep0 s k b e]; simp; omega
      | some c => rw [spW_sep s k c b e]; simp; omega
    · rw [spW_char s k b]; simp; omega
theorem spX_len (s : ByteArray) (k : Nat) (acc : List (Nat × Nat)) (st : Option Nat) (h : k ≤ s.size) (e : spX s k = (acc, st)) : acc.length ≤ k := by
  rw [spX_le s k h] at e
  have := spW_len s k
  rw [e] at this
  exact this
theorem spX_end (s : ByteArray) : extS s (spX s (s.size + 1)).1 = wordsP s := by
  unfold spX
  rw [if_neg (by omega), words_spW]
  rfl
theorem get_index (s : ByteArray) (k : Nat) (h : k < s.size) (W : World) : (Instr.index 9 (.string s) (.int .i64 (k : Int))).run Tryd.prog W = .ok (.int .u8 ((s.get! k).toNat : Int)) W := by
  rw [run_index_string _ _ _ _ _ Tryd.underlying9, dif_pos (by omega)]
  have e : (s.get! k) = s[k] := by simp [ByteArray.get!, h]; rfl
  rw [e]
  rfl

set_option maxHeartbeats 16000000 in
set_option maxRecDepth 100000 in
theorem ref_Words (s : ByteArray) (hs : s.size ≤ 65536) (w : World) : Calls Tryd.prog 47 #[.string s] w fun e w' => ∃ v, e = .returned v ∧ w'.ownsRow w.heap.size 9 1 v (wordsP s).length (strs (wordsP s)) ∧ Below w.heap.size w w' := by
  obtain ⟨n, hn⟩ : ∃ n, n = s.size := ⟨_, rfl⟩
  have HN := Lib.hid hn
  have IX := Lib.hid (get_index s)
  have XB0 := Lib.hid (spX_blank0 s)
  have XB1 := Lib.hid (spX_blank1 s)
  have XC := Lib.hid (spX_char s)
  have XS := Lib.hid (spX_st s)
  have XL := Lib.hid (spX_len s)
  have XE := Lib.hid (spX_end s)
  rw [← hn] at hs IX XB0 XB1 XC XS XL XE
  clear hn
  obtain ⟨i0, hi0, hz0, hz1, hz2⟩ := info_parts infoS
  obtain ⟨LO, hLO⟩ : ∃ LO, LO = w.heap.size := ⟨_, rfl⟩
  have HLO := Lib.hid hLO
  have ONE : ∀ l : List ByteArray, ∀ u ∈ strs l, u.oneCell' = true := fun l u hu => by
    unfold strs at hu
    obtain ⟨y, _, rfl⟩ := List.mem_map.1 hu
    rfl
  have STEP : Hid (∀ (wr : World) (v : Value) (ws L : List ByteArray), wr.ownsRow LO 9 1 v ws.length (strs ws) → Below LO w wr → ∀ (v' : Value) (w3 : World), w3.ownsRow LO 9 1 v' (ws.length + L.length) (strs ws ++ strs L) → (wr.alloc (.cells (strs L).toArray 9)).grownBy w3 v.ownBlock → w3.ownsRow LO 9 1 v' (ws ++ L).length (strs (ws ++ L)) ∧ Below LO w w3) := Lib.hid (fun wr v ws L ho hb v' w3 h1 h2 =>
    ⟨by rw [List.length_append, strs_app]; exact h1, (hb.alloc (by rw [hLO]; exact hb.size) _).grown h2 (by have := hb.size; simp; omega) (fun g hg => (ho.lt g hg).1)⟩)
  have O0 : Hid (w.ownsRow LO 9 1 (.slice none 0 0) 0 (strs []) ∧ Below LO w w) := Lib.hid ⟨World.ownsRow_nil _ _ _ _, Below.refl _ _⟩
  rw [← hLO]
  clear hLO
  have HS := Lib.hid HN.out
  have hsz : (s.size : Int) = (n : Int) := by rw [HN.out]
  go_enter Tryd.func47, Tryd.ntmps47
  go_wp2_with fail
  go_loopw [3, 4, 5, 6] (fun s3 s4 s5 s6 wr => ∃ (k : Nat) (acc : List (Nat × Nat)) (st : Option Nat), k ≤ n + 1 ∧ s5 = .int .i64 k ∧ s4 = .int .i64 (fromI st) ∧ Hid (spX s k = (acc, st)) ∧ Hid (wr.ownsRow LO 9 1 s3 (extS s acc).length (strs (extS s acc)) ∧ Below LO w wr)) (fun _ _ s5 _ _ => n + 1 - (intOf s5).toNat)
  case atStart => exact ⟨0, [], none, by omega, rfl, rfl, Lib.hid (by rw [spX_le s 0 (by omega)]; rfl), O0⟩
  case round =>
    obtain ⟨k, acc, st, hk, rfl, rfl, hx, ho⟩ := hrel
    by_cases lt : k ≤ n
    · have le1 : (k : Int) ≤ (n : Int) := by omega
      by_cases kn : k = n
      · subst kn
        rcases st with _ | a
        · simp only [fromI]
          have NX := Lib.hid (XB0.out k acc lt (Or.inl rfl) hx.out)
          clear hx
          go_wp2_with fail
          go_roundw
          case rel => exact ⟨k + 1, acc, none, by omega, by go_num, rfl, NX, ho⟩
          case measure => (simp [intOf] <;> omega)
        · have al := XS.out k a acc lt hx.out
          simp only [fromI]
          have NX := Lib.hid (XB1.out k a acc lt (Or.inl rfl) hx.out)
          have len := XL.out k acc _ lt hx.out
          have EL : (extS s acc).length = acc.length := by simp [extS]
          have slr : ∀ W, (Instr.slice 9 (.string s) (some (.int .i64 (a : Int))) (some (.int .i64 (k : Int))) none).run Tryd.prog W = .ok (.string (s.extract a k)) W := fun W => by
            rw [run_slice_string_if _ _ _ _ _ _ _ Tryd.underlying9, if_pos (by omega), if_pos (by omega)]
            rfl
          have ES := Lib.hid (extS_snoc s acc a k)
          generalize s.extract a k = x at *
          have HO := Lib.hid (ho.out.1.alloc (.cells (strs [x]).toArray 9))
          have H2 : (extS s acc).length + 1 ≤ maxLen := by unfold maxLen; omega
          have H3 : ((extS s acc).length + 1) * 16 ≤ 140737488355328 := by omega
          have H4 : LO ≤ (wr.alloc (.cells (strs [x]).toArray 9)).heap.size := by have := ho.out.2.size; rw [HLO.out]; simp; omega
          have NW := Lib.hid (newsL wr (strs [x]) 9)
          have O1 := Lib.hid (ONE [x])
          have ST := Lib.hid (fun v' w3 a b => STEP.out wr _ (extS s acc) [x] ho.out.1 ho.out.2 v' w3 a b)
          clear hx len
          go_wp2_with (at_builtin; refine wpList_append_own _ rfl (.tmp 41) (.tmp 46) 69 rfl LO 9 i0 (.string ⟨#[]⟩) 1 16 Tryd.underlying69 hi0 hz0 hz1 hz2 rfl (by decide) _ _ _ rfl HO.out ⟨wr.heap.size, 0, none⟩ 1 1 (strs [x]) rfl rfl NW.out O1.out H2 H3 H4 ?_; intro v' w3 hown3 hg3 _)
          have SS := Lib.hid (ST.out v' w3 hown3 hg3)
          clear hown3 hg3
          go_wp2_with fail
          go_roundw
          case rel => exact ⟨k + 1, _, none, by omega, by go_num, rfl, NX, by rw [ES.out]; exact SS⟩
          case measure => (simp [intOf] <;> omega)
      · have kn' : k < n := by omega
        have ix := IX.out k kn'
        have kne : ((k : Int) == (n : Int)) = false := by simp; omega
        obtain ⟨c, hc⟩ : ∃ c : Nat, c = (s.get! k).toNat := ⟨_, rfl⟩
        rw [← hc] at ix
        have hbc : blankR (s.get! k).toNat = decide (c = 32 ∨ c = 9) := by rw [hc]; rfl
        by_cases c32 : c = 32
        · have hb : blankR (s.get! k).toNat = true := by rw [hbc]; exact decide_eq_true (Or.inl c32)
          clear hbc hc
          subst c32
          rcases st with _ | a
          · simp only [fromI]
            have NX := Lib.hid (XB0.out k acc lt (Or.inr hb) hx.out)
            clear hx hb
            go_wp2_with fail
            go_roundw
            case rel => exact ⟨k + 1, acc, none, by omega, by go_num, rfl, NX, ho⟩
            case measure => (simp [intOf] <;> omega)
          · have al := XS.out k a acc lt hx.out
            simp only [fromI]
            have NX := Lib.hid (XB1.out k a acc lt (Or.inr hb) hx.out)
            have len := XL.out k acc _ lt hx.out
            have EL : (extS s acc).length = acc.length := by simp [extS]
            have slr : ∀ W, (Instr.slice 9 (.string s) (some (.int .i64 (a : Int))) (some (.int .i64 (k : Int))) none).run Tryd.prog W = .ok (.string (s.extract a k)) W := fun W => by
              rw [run_slice_string_if _ _ _ _ _ _ _ Tryd.underlying9, if_pos (by omega), if_pos (by omega)]
              rfl
            have ES := Lib.hid (extS_snoc s acc a k)
            generalize s.extract a k = x at *
            have HO := Lib.hid (ho.out.1.alloc (.cells (strs [x]).toArray 9))
            have H2 : (extS s acc).length + 1 ≤ maxLen := by unfold maxLen; omega
            have H3 : ((extS s acc).length + 1) * 16 ≤ 140737488355328 := by omega
            have H4 : LO ≤ (wr.alloc (.cells (strs [x]).toArray 9)).heap.size := by have := ho.out.2.size; rw [HLO.out]; simp; omega
            have NW := Lib.hid (newsL wr (strs [x]) 9)
            have O1 := Lib.hid (ONE [x])
            have ST := Lib.hid (fun v' w3 a b => STEP.out wr _ (extS s acc) [x] ho.out.1 ho.out.2 v' w3 a b)
            clear hx len hb
            go_wp2_with (at_builtin; refine wpList_append_own _ rfl (.tmp 41) (.tmp 46) 69 rfl LO 9 i0 (.string ⟨#[]⟩) 1 16 Tryd.underlying69 hi0 hz0 hz1 hz2 rfl (by decide) _ _ _ rfl HO.out ⟨wr.heap.size, 0, none⟩ 1 1 (strs [x]) rfl rfl NW.out O1.out H2 H3 H4 ?_; intro v' w3 hown3 hg3 _)
            have SS := Lib.hid (ST.out v' w3 hown3 hg3)
            clear hown3 hg3
            go_wp2_with fail
            go_roundw
            case rel => exact ⟨k + 1, _, none, by omega, by go_num, rfl, NX, by rw [ES.out]; exact SS⟩
            case measure => (simp [intOf] <;> omega)
        by_cases c9 : c = 9
        · have hb : blankR (s.get! k).toNat = true := by rw [hbc]; exact decide_eq_true (Or.inr c9)
          clear hbc hc
          subst c9
          rcases st with _ | a
          · simp only [fromI]
            have NX := Lib.hid (XB0.out k acc lt (Or.inr hb) hx.out)
            clear hx hb
            go_wp2_with fail
            go_roundw
            case rel => exact ⟨k + 1, acc, none, by omega, by go_num, rfl, NX, ho⟩
            case measure => (simp [intOf] <;> omega)
          · have al := XS.out k a acc lt hx.out
            simp only [fromI]
            have NX := Lib.hid (XB1.out k a acc lt (Or.inr hb) hx.out)
            have len := XL.out k acc _ lt hx.out
            have EL : (extS s acc).length = acc.length := by simp [extS]
            have slr : ∀ W, (Instr.slice 9 (.string s) (some (.int .i64 (a : Int))) (some (.int .i64 (k : Int))) none).run Tryd.prog W = .ok (.string (s.extract a k)) W := fun W => by
              rw [run_slice_string_if _ _ _ _ _ _ _ Tryd.underlying9, if_pos (by omega), if_pos (by omega)]
              rfl
            have ES := Lib.hid (extS_snoc s acc a k)
            generalize s.extract a k = x at *
            have HO := Lib.hid (ho.out.1.alloc (.cells (strs [x]).toArray 9))
            have H2 : (extS s acc).length + 1 ≤ maxLen := by unfold maxLen; omega
            have H3 : ((extS s acc).length + 1) * 16 ≤ 140737488355328 := by omega
            have H4 : LO ≤ (wr.alloc (.cells (strs [x]).toArray 9)).heap.size := by have := ho.out.2.size; rw [HLO.out]; simp; omega
            have NW := Lib.hid (newsL wr (strs [x]) 9)
            have O1 := Lib.hid (ONE [x])
            have ST := Lib.hid (fun v' w3 a b => STEP.out wr _ (extS s acc) [x] ho.out.1 ho.out.2 v' w3 a b)
            clear hx len hb
            go_wp2_with (at_builtin; refine wpList_append_own _ rfl (.tmp 41) (.tmp 46) 69 rfl LO 9 i0 (.string ⟨#[]⟩) 1 16 Tryd.underlying69 hi0 hz0 hz1 hz2 rfl (by decide) _ _ _ rfl HO.out ⟨wr.heap.size, 0, none⟩ 1 1 (strs [x]) rfl rfl NW.out O1.out H2 H3 H4 ?_; intro v' w3 hown3 hg3 _)
            have SS := Lib.hid (ST.out v' w3 hown3 hg3)
            clear hown3 hg3
            go_wp2_with fail
            go_roundw
            case rel => exact ⟨k + 1, _, none, by omega, by go_num, rfl, NX, by rw [ES.out]; exact SS⟩
            case measure => (simp [intOf] <;> omega)
        · have hb : ¬ blankR (s.get! k).toNat = true := by rw [hbc]; simp; omega
          have q32 : ((c : Int) == 32) = false := by simp; omega
          have q9 : ((c : Int) == 9) = false := by simp; omega
          clear hbc hc
          rcases st with _ | a
          · simp only [fromI]
            have NX := Lib.hid (XC.out k acc none kn' hb hx.out)
            clear hx hb
            go_wp2_with fail
            go_roundw
            case rel => exact ⟨k + 1, acc, some k, by omega, by go_num, rfl, NX, ho⟩
            case measure => (simp [intOf] <;> omega)
          · have al := XS.out k a acc lt hx.out
            simp only [fromI]
            have NX := Lib.hid (XC.out k acc (some a) kn' hb hx.out)
            clear hx hb
            go_wp2_with fail
            go_roundw
            case rel => exact ⟨k + 1, acc, some a, by omega, by go_num, rfl, NX, ho⟩
            case measure => (simp [intOf] <;> omega)
    · have ek : k = n + 1 := by omega
      subst ek
      have FE : Hid (extS s acc = wordsP s) := Lib.hid (by
        have := XE.out
        rw [hx.out] at this
        exact this)
      rw [FE.out] at ho
      clear hx
      go_wp2_with fail
      go_ret
      exact ⟨_, rfl, ho.out.1, ho.out.2⟩
end Go.Proofs.YthcdcbibbfdjmaaDoor
