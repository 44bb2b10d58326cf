/- The law's bound (beyond): the walk. -/
import Derived.Test.YtohgodifnbpafaaDoorDgJf
namespace Go.Proofs.YtohgodifnbpafaaDoor
open Go Go.RowKit Go.Sort
set_option linter.unusedVariables false
set_option linter.unusedSimpArgs false

/-- a screen, and where its cells lie -/
structure SA where
  s : Scr
  A : Option Addr
  c : Nat
def scrC (t : SA) : List Value := [.int .i64 t.s.w, .int .i64 t.s.h, .slice t.A t.s.cells.length t.c, .int .i64 t.s.x, .int .i64 t.s.y, .bool t.s.shown]
def scrsV (L : List SA) : List Value := L.flatMap scrC
theorem scrsV_cons (a : SA) (r : List SA) : scrsV (a :: r) = scrC a ++ scrsV r := by unfold scrsV; exact List.flatMap_cons ..
theorem scrsV_app (a b : List SA) : scrsV (a ++ b) = scrsV a ++ scrsV b := by unfold scrsV; exact List.flatMap_append
theorem scrsV_len (l : List SA) : (scrsV l).length = l.length * 6 := by
  induction l with
  | nil => rfl
  | cons a l ih => rw [scrsV_cons, List.length_append, ih, List.length_cons]; simp [scrC]; omega
theorem scrsV_drop (l : List SA) : ∀ k, scrsV (l.drop k) = (scrsV l).drop (k * 6) := by
  induction l with
  | nil => intro k; simp [scrsV]
  | cons a l ih =>
    intro k
    cases k with
    | zero => simp
    | succ k =>
      rw [List.drop_succ_cons, ih, scrsV_cons, show (k + 1) * 6 = 6 + k * 6 by omega, ← List.drop_drop]
      rfl
theorem scr_nth {w : World} {B : Nat} {A : Option Addr} {L : List SA} (h : Sees w B A (scrsV L)) (k : Nat) (hk : k < L.length) : ∃ ad, A = some ad ∧ ad.block < B ∧ w.cell? (ad.add (k * 6)) = some (.int .i64 (L[k]).s.w) ∧ w.cell? ⟨(ad.add (k * 6)).block, (ad.add (k * 6)).off + 1, none⟩ = some (.int .i64 (L[k]).s.h) ∧ w.cell? ⟨(ad.add (k * 6)).block, (ad.add (k * 6)).off + 2, none⟩ = some (.slice (L[k]).A (L[k]).s.cells.length (L[k]).c) ∧ w.cell? ⟨(ad.add (k * 6)).block, (ad.add (k * 6)).off + 3, none⟩ = some (.int .i64 (L[k]).s.x) ∧ w.cell? ⟨(ad.add (k * 6)).block, (ad.add (k * 6)).off + 4, none⟩ = some (.int .i64 (L[k]).s.y) ∧ w.cell? ⟨(ad.add (k * 6)).block, (ad.add (k * 6)).off + 5, none⟩ = some (.bool (L[k]).s.shown) := by
  obtain ⟨ad, e, hb, _⟩ := h (fun e => by have := scrsV_len L; rw [e] at this; simp at this; omega)
  subst e
  have S := h.dropV (k * 6)
  rw [← scrsV_drop, List.drop_eq_getElem_cons hk, scrsV_cons] at S
  obtain ⟨ad', e, _, hc⟩ := S (by simp [scrC])
  cases e
  refine ⟨ad, rfl, hb, ?_, ?_, ?_, ?_, ?_, ?_⟩
  · have := hc 0 _ rfl
    rwa [show (ad.add (k * 6)).add 0 = ad.add (k * 6) by unfold Addr.add; rw [if_pos rfl]] at this
  · rw [add_ltt _ 1 (by decide)]; exact hc 1 _ rfl
  · rw [add_ltt _ 2 (by decide)]; exact hc 2 _ rfl
  · rw [add_ltt _ 3 (by decide)]; exact hc 3 _ rfl
  · rw [add_ltt _ 4 (by decide)]; exact hc 4 _ rfl
  · rw [add_ltt _ 5 (by decide)]; exact hc 5 _ rfl

def bulk (L : List Cel) : Nat := (L.map fun c => 1 + c.text.size).sum
def total (L : List SA) : Nat := (L.map fun t => bulk t.s.cells).sum
theorem bulk_app (a b : List Cel) : bulk (a ++ b) = bulk a + bulk b := by simp [bulk]
theorem bulk_take (L : List Cel) (k : Nat) (h : k < L.length) : bulk (L.take (k + 1)) = bulk (L.take k) + (1 + (L[k]).text.size) := by
  rw [List.take_succ_eq_append_getElem h, bulk_app]
  simp [bulk]
theorem bulk_le (L : List Cel) (k : Nat) : bulk (L.take k) ≤ bulk L := by
  conv => rhs; rw [← List.take_append_drop k L, bulk_app]
  omega
theorem total_app (a b : List SA) : total (a ++ b) = total a + total b := by simp [total]
theorem total_take (L : List SA) (k : Nat) (h : k < L.length) : total (L.take (k + 1)) = total (L.take k) + bulk (L[k]).s.cells := by
  rw [List.take_succ_eq_append_getElem h, total_app]
  simp [total]
theorem total_le (L : List SA) (k : Nat) : total (L.take k) ≤ total L := by
  conv => rhs; rw [← List.take_append_drop k L, total_app]
  omega
theorem bulk_tot (L : List Cel) : (L.map fun c => c.text.size).sum + L.length = bulk L := by
  induction L with
  | nil => rfl
  | cons a L ih => simp [bulk] at *; omega

set_option maxHeartbeats 8000000 in
set_option maxRecDepth 100000 in
theorem law_beyond (L : List SA) (A0 : Option Addr) (c0 : Nat) (w : World) (S : Sees w w.heap.size A0 (scrsV L)) (hl : L.length ≤ 10000000000000)
    (hs : ∀ t ∈ L, Sees w w.heap.size t.A (celsV t.s.cells) ∧ t.s.cells.length ≤ 10000000000000 ∧ ∀ x ∈ t.s.cells, x.text.size ≤ 140737488351232) :
    Calls Tryd.prog 8 #[.slice A0 L.length c0] w fun e w' => e = .returned (.bool (decide (134217728 < total L))) ∧ w = w' := by
  have HS := Lib.hid S
  have HX := Lib.hid hs
  obtain ⟨N, hN⟩ : ∃ N, N = L.length := ⟨_, rfl⟩
  have HN := Lib.hid hN
  rw [← hN] at hl ⊢
  have YES : Hid (∀ e : Ending, e = .returned (.bool true) → 134217728 < total L → e = .returned (.bool (decide (134217728 < total L)))) := Lib.hid (fun e h1 h2 => by rw [h1, decide_eq_true h2])
  have NO : Hid (∀ e : Ending, e = .returned (.bool false) → total L ≤ 134217728 → e = .returned (.bool (decide (134217728 < total L)))) := Lib.hid (fun e h1 h2 => by rw [h1, decide_eq_false (by omega)])
  generalize hD : decide (134217728 < total L) = D at *
  clear hN S hs hD
  go_enter Tryd.func8, Tryd.ntmps8
  go_wp2_with fail
  go_loop [3, 4] (fun s3 s4 => ∃ i n : Nat, i ≤ N ∧ s4 = .int .i64 i ∧ s3 = .int .i64 n ∧ n ≤ 134217728 ∧ Hid (n = total (L.take i))) (fun _ s4 => N - (intOf s4).toNat)
  case atStart => exact ⟨0, 0, Nat.zero_le _, rfl, rfl, Nat.zero_le _, Lib.hid rfl⟩
  case round =>
    obtain ⟨i, n, hi, rfl, rfl, hn, ht⟩ := hrel
    by_cases lt : i < N
    · have il : i < L.length := by rw [← HN.out]; exact lt
      obtain ⟨ad, rfl, ab, _, _, z2, _, _, _⟩ := scr_nth HS.out i il
      obtain ⟨x1, x2, x3⟩ := HX.out L[i] (List.getElem_mem il)
      have TT := Lib.hid (total_take L i il)
      have TL := Lib.hid (total_le L (i + 1))
      generalize L[i] = t at *
      obtain ⟨M, hM⟩ : ∃ M, M = t.s.cells.length := ⟨_, rfl⟩
      have HM := Lib.hid hM
      rw [← hM] at z2 x2
      have X1 := Lib.hid x1
      have X3 := Lib.hid x3
      clear hM x1 x3
      go_wp2_with fail
      go_loop [3, 5] (fun s3 s5 => ∃ k m : Nat, k ≤ M ∧ s5 = .int .i64 k ∧ s3 = .int .i64 m ∧ m ≤ 134217728 ∧ Hid (m = total (L.take i) + bulk (t.s.cells.take k))) (fun _ s5 => M - (intOf s5).toNat)
      case atStart => exact ⟨0, n, Nat.zero_le _, rfl, rfl, hn, Lib.hid (by rw [ht.out]; simp [bulk])⟩
      case round =>
        obtain ⟨k, m, hk, rfl, rfl, hm, hq⟩ := hrel
        by_cases lk : k < M
        · have kl : k < t.s.cells.length := by rw [← HM.out]; exact lk
          obtain ⟨ae, hA, bb, y0, _⟩ := cel_nth X1.out k kl
          have x3 := X3.out _ (List.getElem_mem kl)
          have BT := Lib.hid (bulk_take t.s.cells k kl)
          have BL := Lib.hid (bulk_le t.s.cells (k + 1))
          rw [hA] at z2
          generalize t.s.cells[k] = cx at *
          have HA := Lib.hid hA
          clear hA
          by_cases over : m + (1 + cx.text.size) ≤ 134217728
          · have NX : Hid (m + (1 + cx.text.size) = total (L.take i) + bulk (t.s.cells.take (k + 1))) := Lib.hid (by rw [BT.out]; have := hq.out; omega)
            go_wp2_with fail
            exact ⟨⟨k + 1, m + (1 + cx.text.size), by omega, by go_num, by go_num, over, NX⟩, by simp [intOf]; omega⟩
          · have NX : Hid (134217728 < total L) := Lib.hid (by have h1 := hq.out; have h2 := BT.out; have h3 := BL.out; have h4 := TT.out; have h5 := TL.out; omega)
            go_wp2_with fail
            go_ret
            exact ⟨YES.out _ rfl NX.out, rfl⟩
        · have e : k = M := by omega
          subst e
          have NX : Hid (m = total (L.take (i + 1))) := Lib.hid (by have h1 := hq.out; have h4 := TT.out; rw [HM.out, List.take_length] at h1; omega)
          go_wp2_with fail
          exact ⟨⟨i + 1, m, by omega, by go_num, rfl, hm, NX⟩, by simp [intOf]; omega⟩
    · have e : i = N := by omega
      subst e
      go_wp2_with fail
      go_ret
      exact ⟨NO.out _ rfl (by have h := ht.out; rw [HN.out, List.take_length] at h; omega), rfl⟩
end Go.Proofs.YtohgodifnbpafaaDoor
