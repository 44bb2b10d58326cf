/- A tape is played: Length and At. -/
import Derived.Test.YtmaofighbpnbiaaGreatDoorYTqH
namespace Go.Proofs.YtmaofighbpnbiaaGreatDoor
open Go Go.RowKit Go.Sort
set_option linter.unusedVariables false
set_option linter.unusedSimpArgs false
section
theorem results_c1 {fn : Func} {p t : Tmp} {ty : TypeId} (h : fn.results = #[.cell p ty, .tmp t]) (tmps : Array Value) (P : Program) (w : World) :
  (results fn tmps).run P w = ((asAddr (tmps.getD p undef)).run P w).andThen fun a w₁ => ((loadVar ty a).run P w₁).andThen fun v w₂ => .ok (.tuple #[v, tmps.getD t undef]) w₂ := by
 simp only [results, h]
 simp [Sem.run_bind, Result.andThen]
theorem lastAt_get : ∀ (l : List Frm) (h : 0 < l.length), lastAt l = (l[l.length - 1]'(by omega)).at_
 | [f], _ => rfl
 | f :: g :: l, _ => by
  have := lastAt_get (g :: l) (by simp)
  show lastAt (g :: l) = _
  rw [this]
  simp
theorem t_PLen_nil (V : World) : Calls Tryz.prog 31 #[.pointer none] V fun e w' => e = .returned (.int .i64 0) ∧ w' = V := by
 go_enter Tryz.func31, Tryz.ntmps31
 go_wp2_with fail
 go_ret
 exact ⟨rfl, rfl⟩
set_option maxHeartbeats 4000000 in
set_option maxRecDepth 100000 in
theorem t_PLen {W3 V : World} {pb : Nat} {w h : Int} {F : List Frm} {ev : Nat} (P : PlayAt W3 pb w h F ev V) : Calls Tryz.prog 31 #[.pointer (some ⟨pb, 0, none⟩)] V fun e w' => e = .returned (.int .i64 (lastAt F)) ∧ Below V.heap.size V w' := by
 obtain ⟨Af, cf, L, kb, vk, T, h1, h2, h3, h4, h5, h6⟩ := P
 have k0 := h3.c 0 _ rfl
 have FD := h2.below h5.bel (Nat.le_refl _)
 obtain ⟨n, hn⟩ : ∃ n, n = L.length := ⟨_, rfl⟩
 rw [← hn] at k0
 have ln : n ≤ 140737488355328 := by have := h2.sz; omega
 by_cases z : n = 0
 ·have e0 : F = [] := by rw [← h1]; exact List.eq_nil_of_length_eq_zero (by rw [frms_len]; omega)
  subst e0
  subst z
  clear h1 h2 h3 h4 h5 h6 FD hn
  go_enter Tryz.func31, Tryz.ntmps31
  go_wp2_with fail
  go_ret
  exact ⟨rfl, Below.refl _ _⟩
 ·obtain ⟨m, rfl⟩ : ∃ m, n = m + 1 := ⟨n - 1, by omega⟩
  have ml : m < L.length := by omega
  obtain ⟨ad, rfl, lb, z1, z2⟩ := FD.at m ml
  have el : Hid (lastAt F = (L[m]).at_) := Lib.hid (by
   have l0 : 0 < F.length := by rw [← h1, frms_len]; omega
   rw [lastAt_get F l0]
   subst h1
   have := frms_get L m ml
   have e : (frms L).length - 1 = m := by rw [frms_len]; omega
   simp only [e]
   rw [this])
  generalize (L[m]).at_ = xt at *
  obtain ⟨mm, hmm⟩ : ∃ mm, mm = m + 1 := ⟨_, rfl⟩
  rw [← hmm] at k0 ln
  have wm : IntKind.i64.wrap ((mm : Int) - 1) = (m : Int) := by rw [IntWalk.i64_in _ (by omega)]; omega
  have q0 : (0 : Int) ≤ (m : Int) := by omega
  have q5 : (m : Int) < (mm : Int) := by omega
  have tn : (m : Int).toNat = m := by omega
  have ne : ¬ (mm : Int) = 0 := by omega
  have BD := Lib.hid ((Below.refl V.heap.size V).drew)
  clear h1 h2 h3 h4 h5 h6 FD hn lb hmm ml z z2
  go_enter Tryz.func31, Tryz.ntmps31
  go_upto_region 3 with fail
  go_region
  go_wp2_with fail
  go_ret
  exact ⟨by rw [el.out]; rfl, BD.out⟩
theorem t_At1 (g b2 b3 pb i n c : Nat) (ad : Addr) (ev : Nat) (vk : Value) (xt time : Int) (V : World) (K : Bk V pb [.slice (some ad) n c, .int .i64 (ev : Int), vk] 92) (h2 : V.cell? ⟨b2, 0, none⟩ = some (.pointer (some ⟨pb, 0, none⟩))) (h3 : V.cell? ⟨b3, 0, none⟩ = some (.int .i64 time)) (hi : i < n) (hx : V.cell? (ad.add (i * 2)) = some (.int .i64 xt)) :
  Calls Tryz.prog 59 #[.int .i64 (i : Int), .pointer (some ⟨b2, 0, none⟩), .pointer (some ⟨b3, 0, none⟩)] V fun e w' => e = .returned (.bool (decide (time < xt))) ∧ ∃ q, w' = V.drewN q := by
 have k0 := K.c 0 _ rfl
 have q0 : (0 : Int) ≤ (i : Int) := by omega
 have q5 : (i : Int) < (n : Int) := by omega
 have tn : (i : Int).toNat = i := by omega
 clear K
 go_enter Tryz.func59, Tryz.ntmps59
 go_wp2_with fail
 go_quiet (fail)
 go_wp2_with fail
 go_ret
 exact ⟨rfl, _, rfl⟩
set_option maxHeartbeats 8000000 in
set_option maxRecDepth 100000 in
theorem t_psearch (b2 b3 pb n c : Nat) (A : Option Addr) (ev : Nat) (vk : Value) (time : Int) (F : List Frm) (V : World) (K : Bk V pb [.slice A n c, .int .i64 (ev : Int), vk] 92) (h2 : V.cell? ⟨b2, 0, none⟩ = some (.pointer (some ⟨pb, 0, none⟩))) (h3 : V.cell? ⟨b3, 0, none⟩ = some (.int .i64 time))
  (hn : n = F.length) (nl : n ≤ 1000000) (ht : timedF 0 F = true) (hx : ∀ i, (h : i < F.length) → ∃ ad, A = some ad ∧ V.cell? (ad.add (i * 2)) = some (.int .i64 (F[i]).at_)) :
  Calls Tryz.prog 58 #[.int .i64 (n : Int), .func (.func 59) #[] #[.pointer (some ⟨b2, 0, none⟩), .pointer (some ⟨b3, 0, none⟩)]] V fun e w' => e = .returned (.int .i64 (uptoL F time : Int)) ∧ ∃ q, w' = V.drewN q := by
 obtain ⟨p, hp⟩ : ∃ p : Nat → Bool, p = fun i => if h : i < F.length then decide (time < (F[i]).at_) else true := ⟨_, rfl⟩
 have C : Hid (∀ i, i < n → ∀ W : World, (∃ q, W = V.drewN q) → Calls Tryz.prog 59 #[.int .i64 (i : Int), .pointer (some ⟨b2, 0, none⟩), .pointer (some ⟨b3, 0, none⟩)] W fun e w' => e = .returned (.bool (p i)) ∧ ∃ q, w' = W.drewN q) := Lib.hid (fun i hi W ⟨q, hq⟩ => by
  have lt : i < F.length := by omega
  rw [hp]
  simp only [dif_pos lt]
  subst hq
  obtain ⟨ad, ea, hc⟩ := hx i lt
  rw [ea] at K
  exact t_At1 0 b2 b3 pb i n c ad ev vk _ time _ K h2 h3 hi hc)
 have AK : Hid (∀ lo, lo ≤ n → (∀ t, t < lo → p t = false) → (∀ t, lo ≤ t → t < n → p t = true) → uptoL F time = lo) := Lib.hid (fun lo hl a b => upto_of (by omega) (fun t ht2 hlo => by
  have := a t hlo
  rw [hp] at this
  simp only [dif_pos ht2] at this
  have := of_decide_eq_false this
  omega) (fun t ht2 hlo => by
  have := b t hlo (by omega)
  rw [hp] at this
  simp only [dif_pos ht2] at this
  exact of_decide_eq_true this))
 have HM : Hid (∀ i j, i ≤ j → j < n → p i = true → p j = true) := Lib.hid (fun i j h1 h2' h3' => by
  rw [hp] at h3' ⊢
  have lj : j < F.length := by omega
  simp only [dif_pos lj, dif_pos (show i < F.length by omega)] at h3' ⊢
  have m := (timed_mono F 0 ht i j lj h1).1
  have := of_decide_eq_true h3'
  exact decide_eq_true (by omega))
 clear hp hn ht hx h2 h3 K
 generalize uptoL F time = ak at *
 go_enter Tryz.func58, Tryz.ntmps58
 go_wp2_with fail
 go_loopw [5, 6, 7] (fun s5 s6 s7 wr => ∃ lo hi : Nat, s5 = .int .i64 lo ∧ s6 = .int .i64 hi ∧ lo ≤ hi ∧ hi ≤ n ∧ (∃ q, wr = V.drewN q) ∧ Hid ((∀ t, t < lo → p t = false) ∧ (∀ t, hi ≤ t → t < n → p t = true))) (fun s5 s6 _ _ => (intOf s6).toNat - (intOf s5).toNat)
 case atStart => exact ⟨0, n, rfl, rfl, by omega, Nat.le_refl _, ⟨0, rfl⟩, Lib.hid ⟨fun t h => by omega, fun t h1 h2 => by omega⟩⟩
 case round =>
  obtain ⟨lo, hi, rfl, rfl, h1, h2, hq, I⟩ := hrel
  by_cases lt : lo < hi
  ·obtain ⟨m, hmm⟩ : ∃ m, m = (lo + hi) / 2 := ⟨_, rfl⟩
   have m1 : lo ≤ m := by omega
   have m2 : m < hi := by omega
   have em : ((lo : Int) + (hi : Int)) / 2 = (m : Int) := by omega
   have CC := Lib.hid (C.out m (by omega) _ hq)
   have HQ := Lib.hid hq
   clear hmm hq
   go_wp2_with fail
   refine CC.out.mono ?_; rintro e w1 ⟨rfl, q1, rfl⟩
   have NQ : Hid (∃ q, wr.drewN q1 = V.drewN q) := Lib.hid (by
    obtain ⟨q, e⟩ := HQ.out
    exact ⟨q + q1, by rw [e, World.drewN_drewN]⟩)
   cases hp : p m with
   | true =>
    go_wp2_with fail
    go_roundw
    case rel => exact ⟨lo, m, rfl, rfl, m1, by omega, NQ.out, Lib.hid ⟨I.out.1, fun t t1 t2 => HM.out m t t1 t2 hp⟩⟩
    case measure => simp [intOf]; omega
   | false =>
    go_wp2_with fail
    go_roundw
    case rel =>
     refine ⟨m + 1, hi, by go_num, rfl, by omega, h2, NQ.out, Lib.hid ⟨fun t ht => ?_, I.out.2⟩⟩
     cases ht2 : p t with
     | false => rfl
     | true =>
      have := HM.out t m (by omega) (by omega) ht2
      rw [hp] at this
      cases this
    case measure => simp [intOf]; omega
  ·have e : lo = hi := by omega
   subst e
   have R : Hid (ak = lo) := Lib.hid (AK.out lo h2 I.out.1 I.out.2)
   go_wp2_with fail
   go_ret
   exact ⟨by rw [R.out]; rfl, hq⟩
def zScr : Value := .agg #[.int .i64 0, .int .i64 0, .slice none 0 0, .int .i64 0, .int .i64 0, .bool false]
theorem six_below {n r : Nat} {W X : World} (h : Below n W X) (hr : n ≤ r) (a b c d e f : Value) : Below n W (six X r a b c d e f) := by
 unfold six
 exact (((((h.setCell (p := ⟨r, 0, none⟩) hr _).setCell (p := ⟨r, 1, none⟩) hr _).setCell (p := ⟨r, 2, none⟩) hr _).setCell (p := ⟨r, 3, none⟩) hr _).setCell (p := ⟨r, 4, none⟩) hr _).setCell (p := ⟨r, 5, none⟩) hr _
structure AtQ (V Q : World) (p : Option Addr) (time : Int) : Prop where
 bel : Below V.heap.size V Q
 sz : Q.heap.size = V.heap.size + 1 + 1 + 1
 b2 : Bk Q V.heap.size [.pointer p] 40
 b3 : Bk Q (V.heap.size + 1) [.int .i64 time] 2
 b4 : Bk Q (V.heap.size + 1 + 1) [.int .i64 0, .int .i64 0, .slice none 0 0, .int .i64 0, .int .i64 0, .bool false] 51
theorem atQ (V : World) (p : Option Addr) (time : Int) : AtQ V (((V.alloc (.cells #[.pointer p] 40)).alloc (.cells #[.int .i64 time] 2)).alloc (.cells #[.int .i64 0, .int .i64 0, .slice none 0 0, .int .i64 0, .int .i64 0, .bool false] 51)) p time := by
 obtain ⟨Q1, h1⟩ : ∃ Q1, Q1 = V.alloc (.cells #[.pointer p] 40) := ⟨_, rfl⟩
 obtain ⟨Q2, h2⟩ : ∃ Q2, Q2 = Q1.alloc (.cells #[.int .i64 time] 2) := ⟨_, rfl⟩
 obtain ⟨Q3, h3⟩ : ∃ Q3, Q3 = Q2.alloc (.cells #[.int .i64 0, .int .i64 0, .slice none 0 0, .int .i64 0, .int .i64 0, .bool false] 51) := ⟨_, rfl⟩
 rw [← h1, ← h2, ← h3]
 have a1 : Below V.heap.size V Q1 := by rw [h1]; exact (Below.refl _ _).alloc (Nat.le_refl _) _
 have a2 : Below Q1.heap.size Q1 Q2 := by rw [h2]; exact (Below.refl _ _).alloc (Nat.le_refl _) _
 have a3 : Below Q2.heap.size Q2 Q3 := by rw [h3]; exact (Below.refl _ _).alloc (Nat.le_refl _) _
 have s1 : Q1.heap.size = V.heap.size + 1 := by rw [h1]; simp
 have s2 : Q2.heap.size = V.heap.size + 1 + 1 := by rw [h2]; simp [s1]
 have s3 : Q3.heap.size = V.heap.size + 1 + 1 + 1 := by rw [h3]; simp [s2]
 have k1 : Bk Q1 V.heap.size [.pointer p] 40 := by rw [h1]; exact Bk.new _ _ _
 have k2 : Bk Q2 Q1.heap.size [.int .i64 time] 2 := by rw [h2]; exact Bk.new _ _ _
 have k3 : Bk Q3 Q2.heap.size [.int .i64 0, .int .i64 0, .slice none 0 0, .int .i64 0, .int .i64 0, .bool false] 51 := by rw [h3]; exact Bk.new _ _ _
 refine ⟨(a1.trans (a2.mono (by omega))).trans (a3.mono (by omega)), s3, (k1.of_eq (a2.block _ k1.lt)).of_eq (a3.block _ (by omega)), ?_, ?_⟩
 ·have := k2.of_eq (a3.block _ k2.lt)
  rw [s1] at this
  exact this
 ·rw [s2] at k3
  exact k3
set_option maxHeartbeats 4000000 in
set_option maxRecDepth 100000 in
theorem t_PAt_no (p : Option Addr) (time k : Int) (hk : (p = none ∧ k = 1) ∨ (∃ a, p = some a ∧ (time < 0 ∨ 1099511627776 < time) ∧ k = 301)) (V : World) : Calls Tryz.prog 28 #[.pointer p, .int .i64 time] V fun e w' => e = .returned (.tuple #[zScr, .int .i64 k]) ∧ Below V.heap.size V w' := by
  obtain ⟨Q, hQ⟩ : ∃ Q, Q = ((V.alloc (.cells #[.pointer p] 40)).alloc (.cells #[.int .i64 time] 2)).alloc (.cells #[.int .i64 0, .int .i64 0, .slice none 0 0, .int .i64 0, .int .i64 0, .bool false] 51) := ⟨_, rfl⟩
  have AQ := atQ V p time
  rw [← hQ] at AQ
  have c2 := AQ.b2.c 0 _ rfl
  have c3 := AQ.b3.c 0 _ rfl
  have K := AQ.b4
  have k0 := K.c 0 _ rfl
  have f0 := K.f 0
  have k1 := K.c 1 _ rfl
  have f1 := K.f 1
  have k2 := K.c 2 _ rfl
  have f2 := K.f 2
  have k3 := K.c 3 _ rfl
  have f3 := K.f 3
  have k4 := K.c 4 _ rfl
  have f4 := K.f 4
  have k5 := K.c 5 _ rfl
  have f5 := K.f 5
  have EN : Hid (∀ a b c d e f : Value, Below V.heap.size V (six Q (V.heap.size + 1 + 1) a b c d e f)) := Lib.hid (fun a b c d e f => six_below AQ.bel (by omega) a b c d e f)
  have HQ := Lib.hid hQ
  clear hQ K AQ
  rcases hk with ⟨rfl, rfl⟩ | ⟨a, rfl, ht, rfl⟩
  · go_enter Tryz.func28, Tryz.ntmps28
    go_upto_region 1 with fail
    rw [← HQ.out]
    go_wp2_with fail
    refine bodyPost_ret (v := .tuple #[zScr, .int .i64 1]) (by rw [results_c1 rfl]; unfold zScr; go_simp) rfl ?_
    exact ⟨rfl, EN.out _ _ _ _ _ _⟩
  · by_cases t0 : time < 0
    · clear ht
      go_enter Tryz.func28, Tryz.ntmps28
      go_upto_region 1 with fail
      rw [← HQ.out]
      go_wp2_with fail
      refine bodyPost_ret (v := .tuple #[zScr, .int .i64 301]) (by rw [results_c1 rfl]; unfold zScr; go_simp) rfl ?_
      exact ⟨rfl, EN.out _ _ _ _ _ _⟩
    · have t1 : 1099511627776 < time := by rcases ht with h | h; · exact absurd h t0
                                           · exact h
      clear ht
      go_enter Tryz.func28, Tryz.ntmps28
      go_upto_region 1 with fail
      rw [← HQ.out]
      go_wp2_with fail
      refine bodyPost_ret (v := .tuple #[zScr, .int .i64 301]) (by rw [results_c1 rfl]; unfold zScr; go_simp) rfl ?_
      exact ⟨rfl, EN.out _ _ _ _ _ _⟩
end
end Go.Proofs.YtmaofighbpnbiaaGreatDoor
