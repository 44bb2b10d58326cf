/- The screens of a scene (the law's screens): the walk. -/
import Derived.Test.YtohgodifnbpafaaDoorDhN
namespace Go.Proofs.YtohgodifnbpafaaDoor
open Go Go.RowKit Go.Sort
set_option linter.unusedVariables false
set_option linter.unusedSimpArgs false

def actsV (L : List (Bool × SA)) : List Value := L.flatMap actV
theorem actsV_cons (a : Bool × SA) (r : List (Bool × SA)) : actsV (a :: r) = actV a ++ actsV r := by unfold actsV; exact List.flatMap_cons ..
theorem actsV_len (l : List (Bool × SA)) : (actsV l).length = l.length * 7 := by
  induction l with
  | nil => rfl
  | cons a l ih => rw [actsV_cons, List.length_append, ih, List.length_cons]; simp [actV, scrC]; omega
theorem actsV_drop (l : List (Bool × SA)) : ∀ k, actsV (l.drop k) = (actsV l).drop (k * 7) := by
  induction l with
  | nil => intro k; simp [actsV]
  | cons a l ih =>
    intro k
    cases k with
    | zero => simp
    | succ k =>
      rw [List.drop_succ_cons, ih, actsV_cons, show (k + 1) * 7 = 7 + k * 7 by omega, ← List.drop_drop]
      rfl
structure ActAt (w : World) (ad : Addr) (a : Bool × SA) : Prop where
  c0 : w.cell? ad = some (.bool a.1)
  c1 : w.cell? ⟨ad.block, ad.off + 1, none⟩ = some (.int .i64 a.2.s.w)
  c2 : w.cell? ⟨ad.block, ad.off + 2, none⟩ = some (.int .i64 a.2.s.h)
  c3 : w.cell? ⟨ad.block, ad.off + 3, none⟩ = some (.slice a.2.A a.2.s.cells.length a.2.c)
  c4 : w.cell? ⟨ad.block, ad.off + 4, none⟩ = some (.int .i64 a.2.s.x)
  c5 : w.cell? ⟨ad.block, ad.off + 5, none⟩ = some (.int .i64 a.2.s.y)
  c6 : w.cell? ⟨ad.block, ad.off + 6, none⟩ = some (.bool a.2.s.shown)
theorem act_nth {w : World} {B : Nat} {A : Option Addr} {L : List (Bool × SA)} (h : Sees w B A (actsV L)) (k : Nat) (hk : k < L.length) : ∃ ad, A = some ad ∧ ad.block < B ∧ ActAt w (ad.add (k * 7)) L[k] := by
  obtain ⟨ad, e, hb, _⟩ := h (fun e => by have := actsV_len L; rw [e] at this; simp at this; omega)
  subst e
  have S := h.dropV (k * 7)
  rw [← actsV_drop, List.drop_eq_getElem_cons hk, actsV_cons] at S
  obtain ⟨ad', e, _, hc⟩ := S (by simp [actV])
  cases e
  refine ⟨ad, rfl, hb, ?_, ?_, ?_, ?_, ?_, ?_, ?_⟩
  · have := hc 0 _ rfl
    rwa [show (ad.add (k * 7)).add 0 = ad.add (k * 7) by unfold Addr.add; rw [if_pos rfl]] at this
  · rw [add_ltt _ 1 (by decide)]; exact hc 1 _ rfl
  · rw [add_ltt _ 2 (by decide)]; exact hc 2 _ rfl
  · rw [add_ltt _ 3 (by decide)]; exact hc 3 _ rfl
  · rw [add_ltt _ 4 (by decide)]; exact hc 4 _ rfl
  · rw [add_ltt _ 5 (by decide)]; exact hc 5 _ rfl
  · rw [add_ltt _ 6 (by decide)]; exact hc 6 _ rfl
theorem infoSc : (Tryd.prog.info? 25).map (fun i => (i.zero, i.size, i.bytes)) = some (some (.agg #[.int .i64 0, .int .i64 0, .slice none 0 0, .int .i64 0, .int .i64 0, .bool false]), 6, 64) := by kernel_rfl
theorem snd_snoc (L : List (Bool × SA)) (k : Nat) (h : k < L.length) : scrsV ((L.take (k + 1)).map (·.2)) = scrsV ((L.take k).map (·.2)) ++ scrC (L[k]).2 := by
  rw [List.take_succ_eq_append_getElem h, List.map_append, scrsV_app]
  simp [scrsV]

set_option maxHeartbeats 8000000 in
set_option maxRecDepth 100000 in
theorem law_screens (dp : Int) (A : Option Addr) (c : Nat) (L : List (Bool × SA)) (w : World) (hl : L.length ≤ c) (hc : c * 72 ≤ 140737488351232) (S : Sees w w.heap.size A (actsV L)) :
    Calls Tryd.prog 16 #[.agg #[.int .i64 dp, .slice A L.length c]] w fun e w' => ∃ A' c', e = .returned (.slice A' L.length c') ∧ Sees w' w'.heap.size A' (scrsV (L.map (·.2))) ∧ Below w.heap.size w w' := by
  obtain ⟨i0, hi0, hz0, hz1, hz2⟩ := info_parts infoSc
  obtain ⟨Q, hQ⟩ : ∃ Q, Q = w.alloc (.cells #[.int .i64 dp, .slice A L.length c] 46) := ⟨_, rfl⟩
  have BQ : Below w.heap.size w Q := by rw [hQ]; exact (Below.refl _ w).alloc (Nat.le_refl _) _
  have KQ : Blk Q w.heap.size [.int .i64 dp, .slice A L.length c] := by rw [hQ]; exact Blk.new w _ _
  have QS : Q.heap.size = w.heap.size + 1 := by rw [hQ]; simp
  obtain ⟨N, hN⟩ : ∃ N, N = L.length := ⟨_, rfl⟩
  have HN := Lib.hid hN
  rw [← hN] at hl hQ KQ ⊢
  have HS := Lib.hid S
  have HK := Lib.hid KQ
  have HB := Lib.hid BQ
  have HQ := Lib.hid QS
  have R0 : Hid (∃ A' c', Value.slice none 0 0 = .slice A' 0 c' ∧ Q.ownsRow (w.heap.size + 1) 25 6 (.slice none 0 0) 0 (scrsV ((L.take 0).map (·.2))) ∧ Below (w.heap.size + 1) Q Q) := Lib.hid ⟨_, _, rfl, World.ownsRow_nil _ _ _ _, Below.refl _ _⟩
  clear hN S KQ BQ QS
  go_enter Tryd.func16, Tryd.ntmps16
  go_wp2_with fail
  rw [← hQ]
  clear hQ
  go_loopw [3, 4] (fun s3 s4 wr => ∃ k : Nat, k ≤ N ∧ s4 = .int .i64 k ∧ Hid (∃ A' c', s3 = .slice A' k c' ∧ wr.ownsRow (w.heap.size + 1) 25 6 s3 k (scrsV ((L.take k).map (·.2))) ∧ Below (w.heap.size + 1) Q wr)) (fun _ s4 _ => N - (intOf s4).toNat)
  case atStart => exact ⟨0, Nat.zero_le _, rfl, R0⟩
  case round =>
    obtain ⟨k, hk, rfl, hr⟩ := hrel
    clear R0
    obtain ⟨A', c', rfl, hrow, hb⟩ := hr.out
    have K := HK.out.keep hb (by have := HQ.out; omega)
    have k0 := K.c 0 _ rfl
    have k1 := K.c 1 _ rfl
    by_cases lt : k < N
    · have kl : k < L.length := by rw [← HN.out]; exact lt
      have BW : Below w.heap.size w wr := HB.out.trans (hb.mono (by omega))
      obtain ⟨ad, rfl, ab, at_⟩ := act_nth (HS.out.below BW (Nat.le_refl _)) k kl
      have NX := Lib.hid (snd_snoc L k kl)
      generalize L[k] = a at *
      obtain ⟨rb, ⟨⟨sw, sh, sc, sx, sy, ss⟩, sA, sC⟩⟩ := a
      have z0 := at_.c0
      have z1 := at_.c1
      have z2 := at_.c2
      have z3 := at_.c3
      have z4 := at_.c4
      have z5 := at_.c5
      have z6 := at_.c6
      simp only at z0 z1 z2 z3 z4 z5 z6
      generalize hM : sc.length = M at *
      have SV : Hid (scrC ⟨⟨sw, sh, sc, sx, sy, ss⟩, sA, sC⟩ = [.int .i64 sw, .int .i64 sh, .slice sA M sC, .int .i64 sx, .int .i64 sy, .bool ss]) := Lib.hid (by unfold scrC; simp only [hM])
      have ws := hb.size
      have hq := HQ.out
      have HR := Lib.hid (hrow.alloc (.cells #[.int .i64 sw, .int .i64 sh, .slice sA M sC, .int .i64 sx, .int .i64 sy, .bool ss] 25))
      have HBB := Lib.hid (hb.alloc (by omega) (.cells #[.int .i64 sw, .int .i64 sh, .slice sA M sC, .int .i64 sx, .int .i64 sy, .bool ss] 25))
      have hlo : w.heap.size + 1 ≤ (wr.alloc (.cells #[.int .i64 sw, .int .i64 sh, .slice sA M sC, .int .i64 sx, .int .i64 sy, .bool ss] 25)).heap.size := by simp; omega
      have NW := Lib.hid (newsL wr [.int .i64 sw, .int .i64 sh, .slice sA M sC, .int .i64 sx, .int .i64 sy, .bool ss] 25)
      have O6 : Hid (∀ x ∈ [Value.int .i64 sw, .int .i64 sh, .slice sA M sC, .int .i64 sx, .int .i64 sy, .bool ss], x.oneCell' = true) := Lib.hid (by
        intro x hx
        simp at hx
        rcases hx with rfl | rfl | rfl | rfl | rfl | rfl <;> rfl)
      clear hM at_ hr hrow hb BW K
      go_wp2_with (at_builtin; refine wpList_append_own _ rfl (.tmp 12) (.tmp 19) 27 rfl (w.heap.size + 1) 25 i0 (.agg #[.int .i64 0, .int .i64 0, .slice none 0 0, .int .i64 0, .int .i64 0, .bool false]) 6 64 Tryd.underlying27 hi0 hz0 hz1 hz2 rfl (by decide) _ k _ rfl HR.out ⟨wr.heap.size, 0, none⟩ 1 1 [.int .i64 sw, .int .i64 sh, .slice sA M sC, .int .i64 sx, .int .i64 sy, .bool ss] rfl rfl NW.out O6.out (by unfold maxLen; omega) (by omega) hlo ?_; intro v' w3 hown' hgrow _; have OW : Hid (∃ A' c', v' = .slice A' (k + 1) c' ∧ w3.ownsRow (w.heap.size + 1) 25 6 v' (k + 1) (scrsV ((L.take (k + 1)).map (·.2))) ∧ Below (w.heap.size + 1) Q w3) := Lib.hid (by
        obtain ⟨A2, c2, e⟩ := own_any hown'
        refine ⟨A2, c2, e, by rw [NX.out, SV.out]; exact hown', HBB.out.grown hgrow hlo (fun j e => (HR.out.lt j e).1)⟩))
      go_roundw
      case rel => exact ⟨k + 1, by omega, by go_num, OW⟩
      case measure => simp [intOf]; omega
    · have e : k = N := by omega
      subst e
      have SE : Hid (Sees wr wr.heap.size A' (scrsV (L.map (·.2))) ∧ Below w.heap.size w wr) := Lib.hid (by
        rw [HN.out, List.take_length] at hrow
        refine ⟨?_, HB.out.trans (hb.mono (by omega))⟩
        rcases hrow.2 with ⟨e, e2⟩ | ⟨g, cap, cur, e, _, hg, _⟩
        · have hl0 := hrow.1
          rw [e2, Nat.zero_mul] at hl0
          rw [List.length_eq_zero_iff.1 hl0]
          exact Sees.nil _ _ _
        · cases e
          exact fun _ => ⟨_, rfl, (Array.getElem?_eq_some_iff.1 hg).1, fun j u hj => hrow.cells (g := g) rfl j u hj⟩)
      clear hr hrow hb K
      go_wp2_with fail
      go_ret
      exact ⟨_, _, rfl, SE.out.1, SE.out.2⟩
end Go.Proofs.YtohgodifnbpafaaDoor
