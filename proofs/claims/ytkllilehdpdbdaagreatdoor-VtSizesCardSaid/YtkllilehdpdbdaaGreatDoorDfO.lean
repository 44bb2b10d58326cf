/- The only cluster of a text, the program's side: One. -/
import Derived.Test.YtkllilehdpdbdaaGreatDoorDfAb
import Derived.Test.YtkllilehdpdbdaaGreatDoorDfS
namespace Go.Proofs.YtkllilehdpdbdaaGreatDoor
open Go.RowKit Go.Sort
set_option linter.unusedVariables false
set_option linter.unusedSimpArgs false

theorem own2_form {w : World} {base : Nat} {T : TypeId} {v : Value} {n : Nat} {xs : List Value} (h : w.ownsRow base T 2 v n xs) : (v = .slice none 0 0 ∧ n = 0) ∨ ∃ g c, v = .slice (some ⟨g, 0, none⟩) n c ∧ base ≤ g ∧ g < w.heap.size ∧ n ≤ c ∧ c ≤ maxLen ∧ ∀ j u, xs[j]? = some u → w.cell? ⟨g, j, none⟩ = some u := by
  rcases h.2 with a | ⟨g, cap, cur, h1, h2, h3, h4⟩
  · exact Or.inl a
  · refine Or.inr ⟨g, cap, h1, h2, (Array.getElem?_eq_some_iff.1 h3).1, h4.1, h4.2.1, fun j u hj => ?_⟩
    have q := h.cells (g := g) (by rw [h1]; rfl) j u hj
    have e : ((⟨g, 0, none⟩ : Addr).add j) = ⟨g, j, none⟩ := by
      unfold Addr.add
      split
      · rename_i z; rw [z]
      · simp
    rwa [e] at q
def oneV (s : ByteArray) : Option Int → Value
  | some u => .tuple #[.agg #[.string s, .int .i64 u], .bool true]
  | none => .tuple #[.agg #[.string ⟨#[]⟩, .int .i64 0], .bool false]

set_option maxHeartbeats 8000000 in
set_option maxRecDepth 100000 in
theorem d_One (s : ByteArray) (hs : s.size ≤ 1000000000000) (w : World) : Calls Tryz.prog 116 #[.string s] w fun e w' => e = .returned (oneV s (oneB s)) ∧ Below w.heap.size w w' := by
  have SP := Lib.hid (d_Split s hs)
  have SL := splitB_len s
  have O0 : Hid (splitB s = [] → oneB s = none) := Lib.hid (fun h => by unfold oneB; rw [h])
  have O1 : Hid (∀ c, splitB s = [c] → oneB s = if c.1 = s then some c.2 else none) := Lib.hid (fun c h => by unfold oneB; rw [h])
  have O2 : Hid (∀ c d r, splitB s = c :: d :: r → oneB s = none) := Lib.hid (fun c d r h => by unfold oneB; rw [h])
  generalize oneB s = o at *
  generalize splitB s = L at *
  go_enter Tryz.func116, Tryz.ntmps116
  go_wp2_with fail
  refine (SP.out _).mono ?_; rintro e w1 ⟨v, rfl, ho, hb⟩
  have z0 : w1.cell? ⟨w.heap.size, 0, none⟩ = some (.string ⟨#[]⟩) := (hb.cell (p := ⟨w.heap.size, 0, none⟩) (by simp)).trans (by simp [go_sem])
  have z1 : w1.cell? ⟨w.heap.size, 1, none⟩ = some (.int .i64 0) := (hb.cell (p := ⟨w.heap.size, 1, none⟩) (by simp)).trans (by simp [go_sem])
  have f0 : w1.frozen? ⟨w.heap.size, 0, none⟩ = false := (hb.frozen (p := ⟨w.heap.size, 0, none⟩) (by simp)).trans (by simp [go_sem])
  have f1 : w1.frozen? ⟨w.heap.size, 1, none⟩ = false := (hb.frozen (p := ⟨w.heap.size, 1, none⟩) (by simp)).trans (by simp [go_sem])
  have HB := Lib.hid (show Below w.heap.size w w1 from below_call (by go_grown) (by simp) hb)
  have FN := own2_form ho
  clear ho hb
  rcases L with _ | ⟨⟨ct, cw⟩, _ | ⟨d, r⟩⟩
  · have R := Lib.hid (O0.out rfl)
    rcases FN with ⟨rfl, _⟩ | ⟨g, c, rfl, _⟩
    all_goals
      go_wp2_with fail
      refine bodyPost_ret (v := .tuple #[.agg #[.string ⟨#[]⟩, .int .i64 0], .bool false]) (by simp [results, Tryz.results116, go_sem, z0, z1]) rfl ⟨by rw [R.out]; rfl, ?_⟩
      exact (HB.out.setCell (Nat.le_refl _) _).setCell (Nat.le_refl _) _
  · have RR := Lib.hid (O1.out _ rfl)
    rcases FN with ⟨_, h⟩ | ⟨g, c, rfl, hg0, hg1, _, _, hc⟩
    · cases h
    · have c0 : w1.cell? ⟨g, 0, none⟩ = some (.string ct) := hc 0 _ rfl
      have c1 : w1.cell? ⟨g, 1, none⟩ = some (.int .i64 cw) := hc 1 _ rfl
      have ne : w.heap.size ≠ g := by simp at hg0; omega
      simp only [List.length_cons, List.length_nil]
      by_cases e : ct = s
      · have q : (ct.toList == s.toList) = true := by rw [eq_bytes]; exact decide_eq_true e
        have R : Hid (o = some cw) := Lib.hid (by rw [RR.out]; exact if_pos e)
        go_wp2_with fail
        refine bodyPost_ret (v := .tuple #[.agg #[.string s, .int .i64 cw], .bool true]) (by simp [results, Tryz.results116, go_sem, z0, z1, e]) rfl ⟨by rw [R.out]; rfl, ?_⟩
        exact (HB.out.setCell (Nat.le_refl _) _).setCell (Nat.le_refl _) _
      · have q : (ct.toList == s.toList) = false := by rw [eq_bytes]; exact decide_eq_false e
        have R : Hid (o = none) := Lib.hid (by rw [RR.out]; exact if_neg e)
        go_wp2_with fail
        refine bodyPost_ret (v := .tuple #[.agg #[.string ⟨#[]⟩, .int .i64 0], .bool false]) (by simp [results, Tryz.results116, go_sem, z0, z1]) rfl ⟨by rw [R.out]; rfl, ?_⟩
        exact (HB.out.setCell (Nat.le_refl _) _).setCell (Nat.le_refl _) _
  · have R := Lib.hid (O2.out _ _ _ rfl)
    rcases FN with ⟨_, h⟩ | ⟨g, c, rfl, hg0, hg1, _, _, hc⟩
    · cases h
    · obtain ⟨n, hn⟩ : ∃ n, n = (((ct, cw) :: d :: r).length) := ⟨_, rfl⟩
      rw [← hn]
      have q : ((n : Int) == 1) = false := by simp; rw [hn]; simp; omega
      have q2 : ((n : Int) != 1) = true := by simp; rw [hn]; simp; omega
      clear hn SL hc
      go_wp2_with fail
      refine bodyPost_ret (v := .tuple #[.agg #[.string ⟨#[]⟩, .int .i64 0], .bool false]) (by simp [results, Tryz.results116, go_sem, z0, z1]) rfl ⟨by rw [R.out]; rfl, ?_⟩
      exact (HB.out.setCell (Nat.le_refl _) _).setCell (Nat.le_refl _) _
end Go.Proofs.YtkllilehdpdbdaaGreatDoor
