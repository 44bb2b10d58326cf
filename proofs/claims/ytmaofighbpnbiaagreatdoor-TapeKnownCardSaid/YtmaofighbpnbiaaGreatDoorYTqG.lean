/- A tape is played: a player in memory. -/
import Derived.Test.YtmaofighbpnbiaaGreatDoorYTqE
import Derived.Test.YtmaofighbpnbiaaGreatDoorTaCM
namespace Go.Proofs.YtmaofighbpnbiaaGreatDoor
open Go Go.RowKit Go.Sort
set_option linter.unusedVariables false
set_option linter.unusedSimpArgs false
/-! how many keys there are behind k frames -/
def cntK (ev k : Nat) : Nat := (k + ev - 1) / ev
theorem div_of {a q r : Nat} (h : r < a) : (a * q + r) / a = q := by
 rw [Nat.mul_add_div (by omega), Nat.div_eq_of_lt h, Nat.add_zero]
theorem cntK_zero {ev : Nat} (h0 : 0 < ev) : cntK ev 0 = 0 := by unfold cntK; rw [Nat.zero_add]; exact Nat.div_eq_of_lt (by omega)
theorem cntK_hit {ev k : Nat} (h0 : 0 < ev) (h : k % ev = 0) : cntK ev k * ev = k ∧ cntK ev (k + 1) = cntK ev k + 1 ∧ cntK ev k = k / ev := by
 have e := Nat.div_add_mod k ev
 rw [h, Nat.add_zero] at e
 have c0 : cntK ev k = k / ev := by
  unfold cntK
  have : k + ev - 1 = ev * (k / ev) + (ev - 1) := by omega
  rw [this, div_of (by omega)]
 have c1 : cntK ev (k + 1) = k / ev + 1 := by
  unfold cntK
  have : k + 1 + ev - 1 = ev * (k / ev + 1) + 0 := by rw [Nat.mul_add]; omega
  rw [this, div_of h0]
 exact ⟨by rw [c0, Nat.mul_comm]; exact e, by rw [c0, c1], c0⟩
theorem cntK_miss {ev k : Nat} (h0 : 0 < ev) (h : k % ev ≠ 0) : cntK ev (k + 1) = cntK ev k ∧ cntK ev k = k / ev + 1 := by
 have e := Nat.div_add_mod k ev
 have l := Nat.mod_lt k h0
 have c0 : cntK ev k = k / ev + 1 := by
  unfold cntK
  have : k + ev - 1 = ev * (k / ev + 1) + (k % ev - 1) := by rw [Nat.mul_add]; omega
  rw [this, div_of (by omega)]
 have c1 : cntK ev (k + 1) = k / ev + 1 := by
  unfold cntK
  have : k + 1 + ev - 1 = ev * (k / ev + 1) + (k % ev) := by rw [Nat.mul_add]; omega
  rw [this, div_of l]
 exact ⟨by rw [c0, c1], c0⟩
section
variable {W V V' : World} {T : List (Nat × Trm)} {Z : List Nat}
theorem Herd.mvZ (h : Herd W V T Z) {z : Nat} (hz : z ∈ Z) (h0 : W.heap.size ≤ z) (m : Mv [z] V V') : Herd W V' T Z := by
 obtain ⟨Lf, a, d, q⟩ := h.lay
 have far : ∀ k, k < V.heap.size → k ≠ z → V'.heap[k]? = V.heap[k]? := fun k lt ne => m.blk k lt (by simpa using ne)
 have bs := h.bel.size
 refine ⟨h.g0, h.bel.trans ⟨m.os, m.tape, m.output, m.size, fun k lt => far k (by omega) (by omega)⟩, Lf, fun j p hj => ?_, d, fun j mm => ⟨Nat.lt_of_lt_of_le (q j mm).1 m.size, (q j mm).2⟩⟩
 obtain ⟨e1, e2, e3⟩ := a j p hj
 exact ⟨e1, e2.keep (fun k mm => far k (e2.lt k mm) (fun e => (q z hz).2 j (List.getElem?_eq_some_iff.1 hj).1 (by rw [← e]; exact mm))), e3⟩
theorem Herd.feedZ (h : Herd W V T Z) {i b : Nat} {t : Trm} (hi : T[i]? = some (b, t)) {A : Option Addr} {c : Nat} {D : List Int} (a : ArgB W A c D) (Lv : Live t) (hD : D.length ≤ 1048576) (hh : t.held.size + D.length ≤ 300000000) :
  Calls Tryz.prog 27 #[.pointer (some ⟨b, 0, none⟩), .slice A D.length c] V fun e w' => e = .returned (.int .i64 0) ∧ Herd W w' (T.set i (b, feedT t D)) Z ∧ ∀ z ∈ Z, w'.heap[z]? = V.heap[z]? := by
 obtain ⟨F, h1, up, hF, _⟩ := h.at hi
 refine (t_Feed h1 Lv A c D hD hh a.rng (a.fed h.bel hF)).mono ?_
 rintro e w' ⟨h2, h3⟩
 exact ⟨h2, (up _ _ h3).1, (up _ _ h3).2⟩
theorem Herd.cloneB (h : Herd W V T Z) {i b : Nat} {t : Trm} (hi : T[i]? = some (b, t)) (Lv : Live t) (hh : t.held.size ≤ 300000000) :
  Calls Tryz.prog 54 #[.pointer (some ⟨b, 0, none⟩)] V fun e w' => ∃ nb, e = .returned (.pointer (some ⟨nb, 0, none⟩)) ∧ Herd W w' (T ++ [(nb, t)]) Z ∧ Below V.heap.size V w' := by
 obtain ⟨F, h1, up, hF, _⟩ := h.at hi
 refine (t_Clone h1 Lv.fine Lv.st.kept Lv.reps hh).mono ?_
 rintro e w' ⟨nb, h2, h3⟩
 exact ⟨nb, h2, h.add h3, old_mv h3.mv⟩
end
theorem play_live {w h : Int} {F : List Frm} (sz : sizedB w h = true) (rng : ∀ f ∈ F, Byt f.bs) (k : Nat) : Live (playT w h (F.take k)) ∧ (playT w h (F.take k)).held.size ≤ (F.flatMap (·.bs)).length := by
 have s := of_decide_eq_true sz
 have L0 := live_new w h s.1 s.2.1 s.2.2.1 s.2.2.2.1 s.2.2.2.2
 have r : ∀ b ∈ (F.take k).flatMap (·.bs), 0 ≤ b ∧ b < 256 := fun b m => by
  obtain ⟨f, mf, mb⟩ := List.mem_flatMap.1 m
  exact rng f (List.mem_of_mem_take mf) b mb
 obtain ⟨a, b⟩ := live_feed _ L0 r
 refine ⟨a, Nat.le_trans b ?_⟩
 have e : (F.flatMap (·.bs)).length = ((F.take k).flatMap (·.bs)).length + ((F.drop k).flatMap (·.bs)).length := by
  rw [← List.length_append, ← List.flatMap_append, List.take_append_drop]
 have z : (newV w h).held.size = 0 := rfl
 omega
def ptrV (b : Nat) : Value := .pointer (some ⟨b, 0, none⟩)
structure NwSt (W3 : World) (pb : Nat) (vf : Value) (ev : Nat) (w h : Int) (F : List Frm) (k b : Nat) (kh kb : List Nat) (vk : Value) (V : World) : Prop where
 herd : ∃ T, Herd W3 V T [] ∧ T[0]? = some (b, playT w h (F.take k)) ∧ ∀ j, (hj : j < kh.length) → ∃ i : Nat, 0 < i ∧ T[i]? = some (kh[j], playT w h (F.take (j * ev)))
 box : Bk V pb [vf, .int .i64 ev, vk] 92
 row : V.ownsRow W3.heap.size 43 1 vk kb.length (kb.map ptrV)
 pbw : W3.heap.size ≤ pb
section
variable {W3 V V' u w8 : World} {pb ev k b : Nat} {vf vk v' : Value} {w h : Int} {F : List Frm} {kh kb : List Nat}
theorem NwSt.below (N : NwSt W3 pb vf ev w h F k b kh kb vk V) (hb : Below V.heap.size V V') : NwSt W3 pb vf ev w h F k b kh kb vk V' := by
 obtain ⟨T, H, t0, ks⟩ := N.herd
 exact ⟨⟨T, H.below hb, t0, ks⟩, N.box.of_eq (hb.block _ N.box.lt), own_callF N.row hb, N.pbw⟩
theorem NwSt.old (N : NwSt W3 pb vf ev w h F k b kh kb vk V) : Below W3.heap.size W3 V := by obtain ⟨T, H, _⟩ := N.herd; exact H.bel
theorem NwSt.env (N : NwSt W3 pb vf ev w h F k b kh kb vk V) : EnvV V := by obtain ⟨T, H, _⟩ := N.herd; exact H.env
theorem NwSt.feed (N : NwSt W3 pb vf ev w h F k b kh kb vk V) (hk : k < F.length) {A : Option Addr} {c : Nat} (a : ArgB W3 A c (F[k]).bs) (sz : sizedB w h = true) (rng : ∀ f ∈ F, Byt f.bs) (hD : (F[k]).bs.length ≤ 1048576) (tot : (F.flatMap (·.bs)).length ≤ 268435456) :
  Calls Tryz.prog 27 #[.pointer (some ⟨b, 0, none⟩), .slice A (F[k]).bs.length c] V fun e w' => e = .returned (.int .i64 0) ∧ NwSt W3 pb vf ev w h F (k + 1) b kh kb vk w' := by
 obtain ⟨T, H, t0, ks⟩ := N.herd
 obtain ⟨Lv, hl⟩ := play_live (w := w) (h := h) sz rng k
 have H1 := H.other (g := pb) (show V.heap[pb]? = _ from N.box) (by decide)
 have fin : ∀ Z w', Herd W3 w' (T.set 0 (b, feedT (playT w h (F.take k)) (F[k]).bs)) Z → w'.heap[pb]? = V.heap[pb]? → w'.ownsRow W3.heap.size 43 1 vk kb.length (kb.map ptrV) → NwSt W3 pb vf ev w h F (k + 1) b kh kb vk w' := fun Z w' H2 e r => by
  rw [play_next w h F k hk] at H2
  have l0 : 0 < T.length := (List.getElem?_eq_some_iff.1 t0).1
  refine ⟨⟨_, H2.drop, List.getElem?_set_self l0, fun j hj => ?_⟩, N.box.of_eq e, r, N.pbw⟩
  obtain ⟨i, i0, hi⟩ := ks j hj
  exact ⟨i, i0, by rw [List.getElem?_set_ne (by omega)]; exact hi⟩
 rcases N.row.2 with ⟨e1, e2⟩ | ⟨g, cap, cur, e1, hb, hg, rest⟩
 ·refine (H1.feedZ t0 a Lv hD (by omega)).mono ?_
  rintro e w' ⟨h2, h3, h4⟩
  exact ⟨h2, fin _ w' h3 (h4 pb (by simp)) ⟨N.row.1, Or.inl ⟨e1, e2⟩⟩⟩
 ·have H2 := H1.other hg (by decide)
  refine (H2.feedZ t0 a Lv hD (by omega)).mono ?_
  rintro e w' ⟨h2, h3, h4⟩
  exact ⟨h2, fin _ w' h3 (h4 pb (by simp)) ⟨N.row.1, Or.inr ⟨g, cap, cur, e1, hb, (h4 g (by simp)).trans hg, rest⟩⟩⟩
theorem NwSt.clone (N : NwSt W3 pb vf ev w h F k b kb kb vk V) (hk : kb.length * ev = k) (sz : sizedB w h = true) (rng : ∀ f ∈ F, Byt f.bs) (tot : (F.flatMap (·.bs)).length ≤ 268435456) :
  Calls Tryz.prog 54 #[.pointer (some ⟨b, 0, none⟩)] V fun e w' => ∃ nb, e = .returned (.pointer (some ⟨nb, 0, none⟩)) ∧ NwSt W3 pb vf ev w h F k b (kb ++ [nb]) kb vk w' ∧ Below V.heap.size V w' := by
 obtain ⟨T, H, t0, ks⟩ := N.herd
 obtain ⟨Lv, hl⟩ := play_live (w := w) (h := h) sz rng k
 refine (H.cloneB t0 Lv (by omega)).mono ?_
 rintro e w' ⟨nb, h1, h2, h3⟩
 have l0 : 0 < T.length := (List.getElem?_eq_some_iff.1 t0).1
 refine ⟨nb, h1, ⟨⟨_, h2, by rw [List.getElem?_append_left l0]; exact t0, fun j hj => ?_⟩, N.box.of_eq (h3.block _ N.box.lt), own_callF N.row h3, N.pbw⟩, h3⟩
 by_cases lt : j < kb.length
 ·obtain ⟨i, i0, hi⟩ := ks j lt
  refine ⟨i, i0, ?_⟩
  rw [List.getElem?_append_left (List.getElem?_eq_some_iff.1 hi).1, List.getElem_append_left lt]
  exact hi
 ·have ej : j = kb.length := by simp at hj; omega
  subst ej
  refine ⟨T.length, l0, ?_⟩
  rw [List.getElem?_append_right (Nat.le_refl _), Nat.sub_self, List.getElem_append_right (Nat.le_refl _), hk]
  simp
theorem NwSt.last (N : NwSt W3 pb vf ev w h F k b kb kb vk V) (hk : kb.length * ev = k) : ∃ T, Herd W3 V T [] ∧ ∀ j, (hj : j < (kb ++ [b]).length) → ∃ i : Nat, T[i]? = some ((kb ++ [b])[j], playT w h (F.take (j * ev))) := by
 obtain ⟨T, H, t0, ks⟩ := N.herd
 refine ⟨T, H, fun j hj => ?_⟩
 by_cases lt : j < kb.length
 ·obtain ⟨i, i0, hi⟩ := ks j lt
  exact ⟨i, by rw [List.getElem_append_left lt]; exact hi⟩
 ·have ej : j = kb.length := by simp at hj; omega
  subst ej
  exact ⟨0, by rw [List.getElem_append_right (Nat.le_refl _), hk]; simpa using t0⟩
theorem herd_push {T : List (Nat × Trm)} {nb : Nat} (H : Herd W3 V T []) (K : Bk V pb [vf, .int .i64 ev, vk] 92) (R : V.ownsRow W3.heap.size 43 1 vk kb.length (kb.map ptrV)) (pw : W3.heap.size ≤ pb) (hu : Below V.heap.size V u) (hg : u.grownBy w8 vk.ownBlock)
  (ho : w8.ownsRow W3.heap.size 43 1 v' (kb.length + 1) (kb.map ptrV ++ [ptrV nb])) : Herd W3 (w8.setCell ⟨pb, 2, none⟩ v') T [] ∧ Bk (w8.setCell ⟨pb, 2, none⟩ v') pb [vf, .int .i64 ev, v'] 92 ∧ (w8.setCell ⟨pb, 2, none⟩ v').ownsRow W3.heap.size 43 1 v' (kb ++ [nb]).length ((kb ++ [nb]).map ptrV) := by
 have Hu := H.below hu
 have Ku : Bk u pb [vf, .int .i64 ev, vk] 92 := K.of_eq (hu.block _ K.lt)
 have Ru := own_callF R hu
 have kp := keepN_grown Ru hg
 have K8 : Bk w8 pb [vf, .int .i64 ev, vk] 92 := Ku.of_eq (kp pb _ _ _ Ku (by decide))
 have H8 : Herd W3 w8 T [] := by
  rcases Ru.2 with ⟨e1, e2⟩ | ⟨g, cap, cur, e1, hb, hg2, rest⟩
  ·rw [e1] at hg
   exact Hu.below ⟨hg.os, hg.tape, hg.output, hg.size, fun j lt => hg.block j lt (by simp [Value.ownBlock])⟩
  ·rw [e1] at hg
   exact ((Hu.other hg2 (by decide)).mvZ (by simp) hb ⟨hg.os, hg.tape, hg.output, hg.size, fun j lt ne => hg.block j lt (by simpa [Value.ownBlock] using ne)⟩).drop
 have K9 := K8.set 2 v'
 refine ⟨((H8.other (g := pb) (show w8.heap[pb]? = _ from K8) (by decide)).setZ (by simp) pw v').drop, K9, ?_⟩
 rw [List.length_append, List.map_append]
 refine own_keepN ho (fun j cu e => heap_setCell_other _ _ _ _ (fun z => ?_))
 simp only at z
 subst z
 unfold Bk at K8
 rw [K8] at e
 cases e
theorem NwSt.push {nb : Nat} (N : NwSt W3 pb vf ev w h F k b (kb ++ [nb]) kb vk V) (hu : Below V.heap.size V u) (hg : u.grownBy w8 vk.ownBlock)
  (ho : w8.ownsRow W3.heap.size 43 1 v' (kb.length + 1) (kb.map ptrV ++ [ptrV nb])) : NwSt W3 pb vf ev w h F k b (kb ++ [nb]) (kb ++ [nb]) v' (w8.setCell ⟨pb, 2, none⟩ v') := by
 obtain ⟨T, H, t0, ks⟩ := N.herd
 obtain ⟨a, b', c⟩ := herd_push H N.box N.row N.pbw hu hg ho
 exact ⟨⟨T, a, t0, ks⟩, b', c, N.pbw⟩
end
def PlayAt (W3 : World) (pb : Nat) (w h : Int) (F : List Frm) (ev : Nat) (V : World) : Prop := ∃ (Af : Option Addr) (cf : Nat) (L : List FA) (kb : List Nat) (vk : Value) (T : List (Nat × Trm)),
 frms L = F ∧ FrsD W3 W3.heap.size Af cf L ∧ Bk V pb [.slice Af L.length cf, .int .i64 ev, vk] 92 ∧ V.ownsRow W3.heap.size 43 1 vk kb.length (kb.map ptrV) ∧ Herd W3 V T [] ∧
 (∀ j, (hj : j < kb.length) → ∃ i : Nat, T[i]? = some (kb[j], playT w h (F.take (j * ev)))) ∧ kb.length = F.length / ev + 1 ∧ 0 < ev ∧ W3.heap.size ≤ pb
theorem PlayAt.below {W3 V V' : World} {pb : Nat} {w h : Int} {F : List Frm} {ev : Nat} (P : PlayAt W3 pb w h F ev V) (hb : Below V.heap.size V V') : PlayAt W3 pb w h F ev V' := by
 obtain ⟨Af, cf, L, kb, vk, T, h1, h2, h3, h4, h5, h6⟩ := P
 exact ⟨Af, cf, L, kb, vk, T, h1, h2, h3.of_eq (hb.block _ h3.lt), own_callF h4 hb, h5.below hb, h6⟩
end Go.Proofs.YtmaofighbpnbiaaGreatDoor
