/- The reference's ParseWords and Parse: the walks. -/
import Derived.Test.YthcdcbibbfdjmaaDoorStyPu
import Derived.Test.YthcdcbibbfdjmaaDoorStyPs
namespace Go.Proofs.YthcdcbibbfdjmaaDoor
open Go.RowKit Go.Sort
set_option linter.unusedVariables false

def parV3 : Except Int Pat → Int → Value
  | .ok p, j => .tuple #[patV p.fg p.bg p.add p.drop, .int .i64 0, .int .i64 j]
  | .error e, j => .tuple #[patV 0 0 0 0, .int .i64 e, .int .i64 j]
theorem step_errs (p : Pat) (x : ByteArray) (r : List ByteArray) (e : Int) (h : stepP p x r = .error e) : e ≠ 0 := by
  unfold stepP at h
  split at h
  · split at h
    · cases h; decide
    · cases h
  · split at h
    · cases r with
      | nil => cases h; decide
      | cons y r' =>
        simp only at h
        cases hc : colW y with
        | none => rw [hc] at h; cases h; decide
        | some c =>
          rw [hc] at h
          simp only at h
          split at h
          · cases h; decide
          · cases h
    · cases hc : colW x with
      | none => rw [hc] at h; cases h; decide
      | some c =>
        rw [hc] at h
        simp only at h
        split at h
        · cases h; decide
        · cases h

set_option maxHeartbeats 8000000 in
set_option maxRecDepth 100000 in
theorem ref_ParseWords (ws : List ByteArray) (A : Option Addr) (c : Nat) (w : World) (hc : ws.length ≤ c) (hm : ws.length ≤ 70000) (hs : ∀ x ∈ ws, x.size ≤ 65536) (S : Sees w w.heap.size A (strs ws)) :
    Calls Tryd.prog 48 #[.slice A ws.length c] w fun e w' => ∃ j : Int, e = .returned (parV3 (parL emptyP ws) j) ∧ Below w.heap.size w w' := by
  obtain ⟨n, hn⟩ : ∃ n, n = ws.length := ⟨_, rfl⟩
  have HN := Lib.hid hn
  have S := Lib.hid S
  have WS := Lib.hid hs
  rw [← hn] at hc hm ⊢
  clear hs hn
  go_enter Tryd.func48, Tryd.ntmps48
  go_wp2_with fail
  go_loopw [6, 7, 8] (fun s6 s7 s8 wr => ∃ (k : Nat) (p : Pat), k ≤ n ∧ s6 = .int .i64 k ∧ Hid (parL p (ws.drop k) = parL emptyP ws) ∧ Hid (C4 wr w.heap.size (.int .i32 0) (.int .i32 0) (.int .u8 0) (.int .u8 0) ∧ ReadC wr (w.heap.size + 1) p ∧ Below w.heap.size w wr)) (fun s6 _ _ _ => n - (intOf s6).toNat)
  case atStart =>
    refine ⟨0, emptyP, by omega, rfl, Lib.hid rfl, Lib.hid ⟨by constructor <;> simp [go_sem], ?_, by go_grown⟩⟩
    unfold ReadC
    constructor <;> simp [go_sem, emptyP] <;> rfl
  case round =>
    obtain ⟨k, p, hk, rfl, hp, hI⟩ := hrel
    by_cases lt : k < n
    · have kl : k < ws.length := by have := HN.out; omega
      obtain ⟨ad, ea, hab, c0⟩ := S.out.at (k := k) (by simpa [strs] using kl)
      subst ea
      obtain ⟨x, hx⟩ : ∃ x, x = ws[k] := ⟨_, rfl⟩
      obtain ⟨rest, hrest⟩ : ∃ rest, rest = ws.drop (k + 1) := ⟨_, rfl⟩
      have DR : Hid (ws.drop k = x :: rest) := Lib.hid (by rw [hx, hrest]; exact List.drop_eq_getElem_cons kl)
      have WD := Lib.hid (ref_word (w.heap.size + 1) p ad n k c x rest wr (by rw [hrest, List.length_drop]; have := HN.out; omega) hc
        ((hI.out.2.2.cell (p := ad.add k) (by rw [add_blk]; exact hab)).trans (by rw [c0, hx]; simp [strs]))
        (fun y r' e => by
          have kl1 : k + 1 < ws.length := by
            have := congrArg List.length e
            rw [hrest, List.length_drop] at this
            simp at this
            omega
          obtain ⟨ad', ea', _, c1⟩ := S.out.at (k := k + 1) (by simpa [strs] using kl1)
          cases ea'
          have ey : y = ws[k + 1] := by
            rw [hrest, List.drop_eq_getElem_cons kl1] at e
            exact (List.cons.inj e).1.symm
          exact (hI.out.2.2.cell (p := ad.add (k + 1)) (by rw [add_blk]; exact hab)).trans (by rw [c1, ey]; simp [strs]))
        (WS.out x (by rw [hx]; exact List.getElem_mem _)) hm hI.out.2.1 (by omega))
      clear hx hrest c0 kl
      cases hst : stepP p x rest with
      | error e =>
        have RES : Hid (parL emptyP ws = .error e) := Lib.hid (by rw [← hp.out, DR.out]; exact stepP_err p x rest e hst)
        have ne : (e != 0) = true := by rw [bne_iff_ne]; exact step_errs p x rest e hst
        rw [hst] at WD
        clear hst
        go_wp2_with fail
        refine WD.out.mono ?_; rintro e' w1 ⟨rfl, hb1, _⟩
        obtain ⟨y0, y1, y2, y3, f0, f1, f2, f3⟩ := hI.out.1.keep hb1 (Nat.lt_succ_self _)
        have HB1 := Lib.hid (hI.out.2.2.trans (hb1.mono (Nat.le_succ _)))
        clear hb1
        simp only [wordV]
        go_wp2_with fail
        refine bodyPost_ret (v := .tuple #[patV 0 0 0 0, .int .i64 e, .int .i64 (k : Int)]) (by simp [results, Tryd.results48, go_sem, y0, y1, y2, y3]; rfl) rfl ⟨k, by rw [RES.out]; rfl, ?_⟩
        exact (((HB1.out.setCell (Nat.le_refl _) _).setCell (Nat.le_refl _) _).setCell (Nat.le_refl _) _).setCell (Nat.le_refl _) _
      | ok o =>
        obtain ⟨q, m⟩ := o
        obtain ⟨e1, m1, m2⟩ := stepP_ok p q x rest m hst
        have RL : k + m ≤ n := by
          have := congrArg List.length DR.out
          rw [List.length_drop] at this
          have := HN.out
          omega
        have NX : Hid (parL q (ws.drop (k + m)) = parL emptyP ws) := Lib.hid (by rw [← hp.out, DR.out, e1, ← DR.out, List.drop_drop])
        have WD := Lib.hid (WD.out.mono (fun e' w1 (h : _ ∧ _ ∧ _) => (⟨h.1.trans (by rw [hst]), h.2.1, h.2.2 q m hst⟩ : e' = .returned (wordV (.ok (q, m))) ∧ Below (w.heap.size + 1) wr w1 ∧ ReadC w1 (w.heap.size + 1) q)))
        clear hst e1 m2
        go_wp2_with fail
        refine WD.out.mono ?_; rintro e' w1 ⟨rfl, hb1, hr1⟩
        have NI := Lib.hid (show C4 w1 w.heap.size (.int .i32 0) (.int .i32 0) (.int .u8 0) (.int .u8 0) ∧ ReadC w1 (w.heap.size + 1) q ∧ Below w.heap.size w w1 from ⟨hI.out.1.keep hb1 (Nat.lt_succ_self _), hr1, hI.out.2.2.trans (hb1.mono (Nat.le_succ _))⟩)
        clear hb1 hr1
        simp only [wordV]
        go_wp2_with fail
        go_roundw
        case rel => exact ⟨k + m, q, by omega, by go_num, NX, NI⟩
        case measure => simp [intOf]; omega
    · have ek : k = n := by omega
      subst ek
      have RES : Hid (parL emptyP ws = .ok p) := Lib.hid (by rw [← hp.out, HN.out, List.drop_length]; unfold parL; rfl)
      obtain ⟨p0, p1, p2, p3, p4, p5, r0, r1, r2, r3, r4, r5⟩ := hI.out.2.1
      obtain ⟨y0, y1, y2, y3, f0, f1, f2, f3⟩ := hI.out.1
      go_wp2_with fail
      refine bodyPost_ret (v := .tuple #[patV p.fg p.bg p.add p.drop, .int .i64 0, .int .i64 0]) (by simp [results, Tryd.results48, go_sem, y0, y1, y2, y3]) rfl ⟨0, by rw [RES.out]; rfl, ?_⟩
      exact (((hI.out.2.2.setCell (Nat.le_refl _) _).setCell (Nat.le_refl _) _).setCell (Nat.le_refl _) _).setCell (Nat.le_refl _) _

set_option maxHeartbeats 8000000 in
set_option maxRecDepth 100000 in
theorem ref_Parse6 (s : ByteArray) (w : World) : Calls Tryd.prog 24 #[.string s] w fun e w' => e = .returned (parV (parseS s)) ∧ Below w.heap.size w w' := by
  by_cases big : 65536 < s.size
  · have R : Hid (parseS s = .error 3) := Lib.hid (by unfold parseS; rw [if_pos big])
    go_enter Tryd.func24, Tryd.ntmps24
    go_wp2_with fail
    exact bodyPost_ret (v := .tuple #[patV 0 0 0 0, .int .i64 3]) (by simp [results, Tryd.results24, go_sem]; rfl) rfl ⟨by rw [R.out]; rfl, by go_grown⟩
  have R : Hid (parseS s = parL emptyP (wordsP s)) := Lib.hid (by unfold parseS; rw [if_neg big])
  have sz : s.size ≤ 65536 := by omega
  have C := Lib.hid (ref_Words s sz)
  have WS : Hid (∀ x ∈ wordsP s, x.size ≤ 65536) := Lib.hid (by
    intro x hx
    unfold wordsP at hx
    obtain ⟨y, _, rfl⟩ := List.mem_map.1 hx
    rw [ByteArray.size_extract]
    omega)
  have WL : Hid ((wordsP s).length ≤ 70000) := Lib.hid (by have := words_len s; omega)
  generalize parseS s = RES at *
  generalize wordsP s = ws at *
  go_enter Tryd.func24, Tryd.ntmps24
  go_wp2_with fail
  refine (C.out _).mono ?_
  rintro e w1 ⟨v, rfl, ho, hb⟩
  have z2 : C4 w1 w.heap.size (.int .i32 0) (.int .i32 0) (.int .u8 0) (.int .u8 0) := C4.keep (by constructor <;> simp [go_sem]) hb (by simp)
  have hb1 : Below w.heap.size w w1 := below_call (by go_grown) (by simp) hb
  obtain ⟨A, c, rfl⟩ := own_slice' ho
  have hc : ws.length ≤ c := by
    rcases (own_form ho).2 with ⟨e, z⟩ | ⟨g, c', e, _, _, h, _⟩
    · omega
    · cases e; exact h
  have PW := Lib.hid (ref_ParseWords ws A c w1 hc WL.out WS.out (Sees.of_own ho))
  have Z2 := Lib.hid z2
  have HB1 := Lib.hid hb1
  have l0 := z2.lt
  clear z2 hb1 ho hb C
  go_wp2_with fail
  refine PW.out.mono ?_
  rintro e w2 ⟨j, rfl, hb2⟩
  have HB2 := Lib.hid (HB1.out.trans (hb2.mono HB1.out.size))
  have KK := Z2.out.keep hb2 l0
  have y0 := fun o => (KK.alloc o).c0
  have f0 := fun o => (KK.alloc o).f0
  have y1 := fun o => (KK.alloc o).c1
  have f1 := fun o => (KK.alloc o).f1
  have y2 := fun o => (KK.alloc o).c2
  have f2 := fun o => (KK.alloc o).f2
  have y3 := fun o => (KK.alloc o).c3
  have f3 := fun o => (KK.alloc o).f3
  have l1 := hb2.size
  have ne : w.heap.size ≠ w2.heap.size := by omega
  clear hb2
  cases hR : parL emptyP ws with
  | ok p =>
    have RR : Hid (RES = .ok p) := Lib.hid (by rw [R.out, hR])
    clear hR
    simp only [parV3]
    go_wp2_with fail
    refine bodyPost_ret (v := .tuple #[patV p.fg p.bg p.add p.drop, .int .i64 0]) (by simp [results, Tryd.results24, go_sem, y0, y1, y2, y3]) rfl ⟨by rw [RR.out]; rfl, ?_⟩
    exact (((((HB2.out.alloc HB2.out.size _).setCell (Nat.le_refl _) _).setCell (Nat.le_refl _) _).setCell (Nat.le_refl _) _).setCell (Nat.le_refl _) _)
  | error er =>
    have RR : Hid (RES = .error er) := Lib.hid (by rw [R.out, hR])
    clear hR
    simp only [parV3]
    go_wp2_with fail
    refine bodyPost_ret (v := .tuple #[patV 0 0 0 0, .int .i64 er]) (by simp [results, Tryd.results24, go_sem, y0, y1, y2, y3]) rfl ⟨by rw [RR.out]; rfl, ?_⟩
    exact (((((HB2.out.alloc HB2.out.size _).setCell (Nat.le_refl _) _).setCell (Nat.le_refl _) _).setCell (Nat.le_refl _) _).setCell (Nat.le_refl _) _)
end Go.Proofs.YthcdcbibbfdjmaaDoor
