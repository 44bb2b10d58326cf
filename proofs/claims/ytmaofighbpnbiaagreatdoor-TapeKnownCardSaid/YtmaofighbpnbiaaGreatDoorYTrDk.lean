/- TapeKnown: joins of few tapes, bytes as a text. -/
import Derived.Test.YtmaofighbpnbiaaGreatDoorYTqW
import Derived.Test.YtmaofighbpnbiaaGreatDoorYTqK
namespace Go.Proofs.YtmaofighbpnbiaaGreatDoor
open Go Go.RowKit Go.Sort
set_option linter.unusedVariables false
set_option linter.unusedSimpArgs false
section
theorem conv_sees {w : World} {B : Nat} {x : BA} (D : ByteD w B x) : (convert 27 9 (.slice x.A x.bs.length x.c)).run Tryz.prog w = .ok (.string (barr x.bs)) w := by
 obtain ⟨A, c, bs⟩ := x
 cases A with
 | none =>
  have h1 : c = 0 := D.nil rfl
  have h2 : bs.length ≤ c := D.cap
  obtain rfl : bs = [] := List.eq_nil_of_length_eq_zero (by omega)
  subst h1
  exact Lib.run_convert_nil_bytes w _ _ 5 0 Tryz.underlying27 Tryz.underlying5 Tryz.underlying9
 | some ad =>
  dsimp only
  rw [run_convert_bytes_string w _ _ 5 (some ad) bs.length c Tryz.underlying27 Tryz.underlying5 Tryz.underlying9]
  have hl := run_loadCells_list (P := Tryz.prog) w ad (bts bs) (fun j u hu => by
   obtain ⟨a', e, _, k⟩ := D.sees (fun z => by have z2 : bts bs = [] := z; rw [z2] at hu; simp at hu)
   cases e
   exact k j u hu)
  rw [bts_len] at hl
  rw [run_bytesToString w _ bs.length c bs hl, barr_fold]
theorem tps_new {w : World} (T : List TA) (h : ∀ t ∈ T, FrsD w w.heap.size t.A t.c t.L) (ln : T.length ≤ 100) : TpsD (w.alloc (.cells (T.map taV).toArray 24)) (w.alloc (.cells (T.map taV).toArray 24)).heap.size (some ⟨w.heap.size, 0, none⟩) T.length T := by
 have bu : Below w.heap.size w (w.alloc (.cells (T.map taV).toArray 24)) := (Below.refl _ w).alloc (Nat.le_refl _) _
 refine ⟨Nat.le_refl _, by omega, fun ne => ⟨_, rfl, by simp, fun j u hj => cells_new w (T.map taV) 24 j u hj⟩, fun t m => ((h t m).below bu (Nat.le_refl _)).more bu.size⟩
theorem JoinR.open {W w' : World} {T : List (List Frm)} {e : Ending} (h : JoinR W T e w') : ∃ A c L, e = .returned (.tuple #[.slice A L.length c, .int .i64 (joinT T).2]) ∧ Below W.heap.size W w' ∧ frms L = (joinT T).1 ∧ FrsD w' w'.heap.size A c L ∧ L.length ≤ 16384 := by
 obtain ⟨v, S, e1, b, s, f, l⟩ := h
 obtain ⟨A, c, ev⟩ := own_slcF s.own
 subst ev
 have fr := s.frs (by omega)
 exact ⟨A, c, segF S, e1, b, f, fr.2, l⟩
def JoinV (V : World) (ts : List (List Frm)) (e : Ending) (w' : World) : Prop := ∃ A c L, e = .returned (.tuple #[.slice A L.length c, .int .i64 (joinT ts).2]) ∧ Below V.heap.size V w' ∧ frms L = (joinT ts).1 ∧ FrsD w' w'.heap.size A c L ∧ L.length ≤ 16384
theorem t_JoinV (V : World) (T : List TA) (h : ∀ t ∈ T, FrsD V V.heap.size t.A t.c t.L) (ln : T.length ≤ 100) : Calls Tryz.prog 34 #[.slice (some ⟨V.heap.size, 0, none⟩) T.length T.length] (V.alloc (.cells (T.map taV).toArray 24)) (JoinV V (tpsF T)) := by
 refine (t_Join _ _ T _ _ (tps_new T h ln) (Nat.le_refl _)).mono ?_
 intro e w' hR
 obtain ⟨A, c, L, h1, h2, h3, h4, h5⟩ := hR.open
 have bu : Below V.heap.size V (V.alloc (.cells (T.map taV).toArray 24)) := (Below.refl _ V).alloc (Nat.le_refl _) _
 exact ⟨A, c, L, h1, bu.trans (h2.mono bu.size), h3, h4, h5⟩
theorem t_Join2 {V : World} {A1 A2 : Option Addr} {c1 c2 : Nat} {L1 L2 : List FA} (h1 : FrsD V V.heap.size A1 c1 L1) (h2 : FrsD V V.heap.size A2 c2 L2) : Calls Tryz.prog 34 #[.slice (some ⟨V.heap.size, 0, none⟩) 2 2] (V.alloc (.cells #[.slice A1 L1.length c1, .slice A2 L2.length c2] 24)) (JoinV V [frms L1, frms L2]) :=
 t_JoinV V [⟨A1, c1, L1⟩, ⟨A2, c2, L2⟩] (fun t m => by
  rcases List.mem_cons.1 m with rfl | m
  ·exact h1
  ·rw [List.mem_singleton.1 m]; exact h2) (by show 2 ≤ 100; decide)
theorem t_Join3 {V : World} {A1 A2 A3 : Option Addr} {c1 c2 c3 : Nat} {L1 L2 L3 : List FA} (h1 : FrsD V V.heap.size A1 c1 L1) (h2 : FrsD V V.heap.size A2 c2 L2) (h3 : FrsD V V.heap.size A3 c3 L3) : Calls Tryz.prog 34 #[.slice (some ⟨V.heap.size, 0, none⟩) 3 3] (V.alloc (.cells #[.slice A1 L1.length c1, .slice A2 L2.length c2, .slice A3 L3.length c3] 24)) (JoinV V [frms L1, frms L2, frms L3]) :=
 t_JoinV V [⟨A1, c1, L1⟩, ⟨A2, c2, L2⟩, ⟨A3, c3, L3⟩] (fun t m => by
  rcases List.mem_cons.1 m with rfl | m
  ·exact h1
  ·rcases List.mem_cons.1 m with rfl | m
   ·exact h2
   ·rw [List.mem_singleton.1 m]; exact h3) (by show 3 ≤ 100; decide)
end
end Go.Proofs.YtmaofighbpnbiaaGreatDoor
