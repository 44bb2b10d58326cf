/- What lies below tapes (kept of earlier texts: VxPc, StyI, StyG). -/
import Derived.Test.YtmaofighbpnbiaaGreatDoorTaEM
import Derived.Lib.SliceRun
import Derived.ScopeJumps
import Derived.Laws.Tables
import Derived.IntWalk
import Derived.Deep.CutBlock
import Derived.Laws.BitsAllLaws
import Derived.Laws.ShiftsVarLaws
set_option linter.unusedVariables false
set_option linter.unusedSimpArgs false
namespace Go.Proofs.YtmaofighbpnbiaaGreatDoor
section
open Go Go.RowKit Go.Sort
section
variable {w0 : World} {F0 : List Nat} {tb : Nat} {t t' : Trm} {W W' : World} {L : Lay}
theorem zah (g : Nat) : ∀ (vs : List Value) (o : Nat) (W : World) (k : Nat), k ≠ g -> (W.setCells g o vs).heap[k]? = W.heap[k]?
 | [], _, _, _, _ => rfl
 | v :: r, o, W, k, h => (zah g r (o + 1) _ k h).trans (heap_setCell_other W ⟨g, o, none⟩ k v h)
theorem zai {F : List Nat} (g : Nat) (h : g ∈ F) : ∀ (vs : List Value) (o : Nat) (W : World), Mv F W (W.setCells g o vs)
 | [], _, W => Mv.refl F W
 | v :: r, o, W => (Mv.set W h).trans (zai g h r (o + 1) _) (fun b hb => Or.inl hb)
def setF (l : List Bool) (o : Nat) : Nat -> List Bool
 | 0 => l
 | m + 1 => setF (l.set o false) (o + 1) m
theorem zaj : ∀ (m o : Nat) (l : List Bool) (j : Nat), (setF l o m)[j]? = if o <= j /\ j < o + m then (l[j]?).map (fun _ => false) else l[j]?
 | 0, o, l, j => by rw [if_neg (by omega)]; rfl
 | m + 1, o, l, j => by
  show (setF (l.set o false) (o + 1) m)[j]? = _
  rw [zaj m]
  by_cases e : o = j
  ·subst e
   rw [if_neg (by omega), if_pos (by omega), List.getElem?_set, if_pos rfl]
   by_cases c : o < l.length
   ·rw [if_pos c, List.getElem?_eq_getElem c]; rfl
   ·rw [if_neg c, List.getElem?_eq_none (by omega)]; rfl
  ·rw [List.getElem?_set, if_neg e]
   by_cases c : o <= j /\ j < o + (m + 1)
   ·rw [if_pos c, if_pos (by omega)]
   ·rw [if_neg c, if_neg (by omega)]
theorem setF_all (l : List Bool) : setF l 0 l.length = List.replicate l.length false := by
 refine List.ext_getElem? fun j => ?_
 rw [zaj, List.getElem?_replicate]
 by_cases c : j < l.length
 ·rw [if_pos (by omega), if_pos c, List.getElem?_eq_getElem c]; rfl
 ·rw [if_neg (by omega), if_neg c, List.getElem?_eq_none (by omega)]
theorem zak {g n cap : Nat} : ∀ (m o : Nat) (l : List Bool) (W : World), W.ownsRow 0 4 1 (.slice (some ⟨g, 0, none⟩) n cap) n (zy l) -> (W.setCells g o (List.replicate m (.bool false))).ownsRow 0 4 1 (.slice (some ⟨g, 0, none⟩) n cap) n (zy (setF l o m))
 | 0, o, l, W, h => h
 | m + 1, o, l, W, h => by
  have := (h.stored o (.bool false)).1
  rw [<- QM] at this
  exact zak m (o + 1) (l.set o false) _ this
theorem infoBo2 : (Tryz.prog.info? 4).map (fun i => (i.zero, i.size)) = some (some (.bool false), 1) := by kernel_rfl
theorem zeroB : ∀ w, (zeroValue 4).run Tryz.prog w = .ok (.bool false) w := fun w => by
 obtain ⟨i, hi, hzz⟩ := Option.map_eq_some_iff.1 infoBo2
 simp only [Prod.mk.injEq] at hzz
 simp [zeroValue, typeInfo, hi, hzz.1]
theorem zc4 {g n cap : Nat} {l : List Bool} {W : World} (h : W.ownsRow 0 4 1 (.slice (some ⟨g, 0, none⟩) n cap) n (zy l)) (hn : 0 < n) (hl : l.length = n) (ty : TypeId) : (Builtin.clear_ #[101] ty #[.slice (some ⟨g, 0, none⟩) n cap]).run Tryz.prog W = .ok (.tuple #[]) (W.setCells g 0 (List.replicate n (.bool false))) := by
 refine Lib.run_clear_slice W 101 4 ty (.bool false) Tryz.underlying101 zeroB rfl rfl g 0 n cap hn (fun j hj => ?_) (fun j hj => ?_)
 ·rw [Nat.zero_add, h.cellAt j (by omega), List.getElem?_eq_getElem (by unfold zy; rw [List.length_map]; omega)]; rfl
 ·rw [Nat.zero_add]; exact h.frozenAt j
theorem St.clearS (h : St w0 F0 tb t W) (hn : 0 < t.stops.length) : ∃ L g cap, Bk W tb (trmV t L) 104 /\ L.s = .slice (some ⟨g, 0, none⟩) t.stops.length cap /\ (∀ ty, (Builtin.clear_ #[101] ty #[.slice (some ⟨g, 0, none⟩) t.stops.length cap]).run Tryz.prog W = .ok (.tuple #[]) (W.setCells g 0 (List.replicate t.stops.length (.bool false)))) /\ St w0 F0 tb { t with stops := List.replicate t.stops.length false } (W.setCells g 0 (List.replicate t.stops.length (.bool false))) := by
 obtain ⟨L, e, T, hf⟩ := h.lay
 obtain ⟨g, cap, ec, eo, ho, hc⟩ := T.s.slice hn
 refine ⟨L, g, cap, e ▸ T.own, ec, fun ty => zc4 ho hn rfl ty, ?_⟩
 have gm : g ∈ L.fp := Lay.mem.2 (by rw [eo]; simp)
 refine ⟨h.g0, h.mv.trans (zai (F := [g]) g (by simp) _ _ W) (by intro b hb; rw [List.mem_singleton.1 hb]; exact hf _ gm), h.ng, L, e, ?_, hf⟩
 refine T.newS (fun j hj => zah g _ _ W j (fun z => hj (by rw [eo, z]; simp))) rfl ?_ rfl rfl rfl rfl rfl rfl
 have := zak t.stops.length 0 t.stops W ho
 rw [setF_all] at this
 show RowAt _ _ 1 L.s (List.replicate t.stops.length false).length (zy (List.replicate t.stops.length false))
 rw [ec, List.length_replicate]
 exact RowAt.of_own this (by omega)
end
end
section
open Go Go.RowKit Go.Sort
section
variable {w0 : World} {F0 : List Nat} {tb : Nat} {t t' : Trm} {W W' : World} {L : Lay}
end
end
section
open Go Go.RowKit Go.Sort
section
variable {w0 : World} {F0 : List Nat} {tb : Nat} {t t' : Trm} {W W' : World} {L : Lay}
theorem zal : (Tryz.prog.info? 104).map (·.size) = some 32 := by kernel_rfl
end
end
section
open Go Go.RowKit Go.Sort
section
variable {w0 : World} {F0 : List Nat} {tb : Nat} {t t' : Trm} {W W' : World} {L : Lay}
end
end
section
open Go Go.RowKit Go.Sort
section
theorem zc5 (tb : Nat) (A : Option Addr) (n c : Nat) (D : List Int) (hD : D.length = n) (hn : n <= 1048576) (W : World) (I : Nat -> World -> Prop) (h0 : I 0 W)
  (hs : ∀ k wr, k < n -> I k wr -> ∃ ad, A = some ad /\ wr.cell? (ad.add k) = some (.int .u8 (D.getD k 0)))
  (hk : ∀ k wr, k < n -> I k wr -> Calls Tryz.prog 57 #[.pointer (some ⟨tb, 0, none⟩), .int .u8 (D.getD k 0)] wr fun e w' => (∃ v, e = .returned v) /\ I (k + 1) w') :
  Calls Tryz.prog 27 #[.pointer (some ⟨tb, 0, none⟩), .slice A n c] W fun e w' => e = .returned (.int .i64 0) /\ I n w' := by
 have hi : ¬ (1048576 : Int) < (n : Int) := by omega
 have HS := zdy hs
 have HK := zdy hk
 have H0 := zdy h0
 clear hs hk h0
 go_enter Tryz.func27, Tryz.ntmps27
 go_wp2_with fail
 go_loopw [14] (fun i wr => ∃ k : Nat, k <= n /\ i = .int .i64 (k : Int) /\ Hid (I k wr)) (fun i _ => n - (intOf i).toNat)
 case atStart => exact ⟨0, Nat.zero_le _, by simp, H0⟩
 case round =>
  obtain ⟨k, hk, rfl, hr⟩ := hrel
  clear H0
  by_cases lt : k < n
  ·obtain ⟨ad, rfl, y⟩ := HS.out k wr lt hr.out
   have CT := zdy (HK.out k wr lt hr.out)
   generalize D.getD k 0 = x at *
   have q0 : (0 : Int) <= (k : Int) := by omega
   have q5 : (k : Int) < (n : Int) := by omega
   have tn : (k : Int).toNat = k := by omega
   have wk := zdz ((k : Int) + 1) (by omega)
   clear hr HK HS
   go_wp2_with fail
   refine CT.out.mono ?_; rintro e w2 ⟨⟨v, rfl⟩, h2⟩
   have H2 := zdy h2
   clear h2 CT
   go_wp2_with fail
   go_roundw
   case rel => exact ⟨k + 1, by omega, by go_num, H2⟩
   case measure => simp [intOf]; omega
  ·have ek : k = n := by omega
   subst ek
   have q5 : ¬ (k : Int) < (k : Int) := by omega
   clear HK HS
   go_wp2_with fail
   go_ret
   exact ⟨rfl, hr.out⟩
end
end
section
open Go Go.RowKit Go.Sort
section
variable {P : Program} {a : Act} {w : World} {Q : Exit -> Act -> World -> Prop}
def xN (P : Program) (rest : Code) (l : Nat) (Q : Exit -> Act -> World -> Prop) : Nat -> Act -> World -> Prop
 | 0, _, _ => False
 | n + 1, a, w => rest.wp P (Exit.jump l (xN P rest l Q n) Q) a w
theorem xd {c rest : Code} (l n : Nat) (hf : findLabel c l = some rest) (first : c.wp P (Exit.jump l (xN P rest l Q n) Q) a w) : (Code.scope c).wp P Q a w := by
 intro b k cs
 have hg : gotoIn l (.inScope c :: k) = some (.code rest :: .inScope c :: k) := by simp [gotoIn, hf]
 have key : ∀ n a w, xN P rest l Q n a w -> ∃ e a' w', Q e a' w' /\ Arrives P (lone (b.at a (.code rest :: .inScope c :: k)) cs w) b k cs e a' w' := by
  intro n
  induction n with
  | zero => intro a w h; exact h.elim
  | succ n ih =>
   intro a w hJ
   obtain ⟨e, a₁, w₁, hq, harr⟩ := hJ b (.inScope c :: k) cs
   cases e with
   | normal => exact ⟨.normal, a₁, w₁, hq, Steps.trans harr (.one step_inScope)⟩
   | exit id => exact ⟨.exit id, a₁, w₁, hq, fun k' hk => harr k' (by simp [exitTo, hk])⟩
   | goto l' =>
    obtain ⟨rfl, hJ'⟩ := hq
    obtain ⟨e₂, a₂, w₂, hq₂, harr₂⟩ := ih a₁ w₁ hJ'
    exact ⟨e₂, a₂, w₂, hq₂, .of_steps (harr _ hg) harr₂⟩
   | ret => exact ⟨_, a₁, w₁, hq, harr⟩
   | panic ch => exact ⟨_, a₁, w₁, hq, harr⟩
   | outgrown => exact ⟨_, a₁, w₁, hq, harr⟩
 obtain ⟨e, a₁, w₁, hq, harr⟩ := first b (.inScope c :: k) cs
 cases e with
 | normal => exact ⟨.normal, a₁, w₁, hq, .head step_scope (Steps.trans harr (.one step_inScope))⟩
 | exit id => exact ⟨.exit id, a₁, w₁, hq, fun k' hk => .head step_scope (harr k' (by simp [exitTo, hk]))⟩
 | goto l' =>
  obtain ⟨rfl, hJ'⟩ := hq
  obtain ⟨e₂, a₂, w₂, hq₂, harr₂⟩ := key n a₁ w₁ hJ'
  exact ⟨e₂, a₂, w₂, hq₂, .of_steps (.head step_scope (harr _ hg)) harr₂⟩
 | ret => exact ⟨_, a₁, w₁, hq, .of_steps (.one step_scope) harr⟩
 | panic ch => exact ⟨_, a₁, w₁, hq, .of_steps (.one step_scope) harr⟩
 | outgrown => exact ⟨_, a₁, w₁, hq, .of_steps (.one step_scope) harr⟩
end
section
variable {w0 : World} {F0 : List Nat} {tb : Nat} {t t' : Trm} {W W' V V' : World} {L : Lay} {v v' : Value} {dk dk' kk y : ByteArray}
structure Gr (W : World) (L : Lay) (t : Trm) (V : World) (v : Value) (dk kk : ByteArray) : Prop where
 mv : Mv (L.b :: L.u :: ob L.k) W V
 own : Bk V L.b (trmV t { L with k := v }) 104
 utf : DecAt V L.u dk
 k : KeptAt V v kk
 sub : ∀ g ∈ ob v, g ∈ ob L.k \/ W.heap.size <= g
theorem Gr.start (T : TrmAt W L t) : Gr W L t W L.k t.kept t.kept := ⟨Mv.refl _ _, T.own, T.utf, T.k, fun g m => Or.inl m⟩
theorem Gr.below (h : Gr W L t V v dk kk) (hb : Below V.heap.size V V') : Gr W L t V' v dk kk :=
 ⟨h.mv.trans (Mv.below (F := []) hb) (by simp), h.own.of_eq (hb.block _ h.own.lt), h.utf.keep (hb.block _ (by obtain ⟨_, k⟩ := h.utf.kind; exact k.lt)), h.k.keep (fun g m => hb.block g (h.k.lt g m)), h.sub⟩
theorem Gr.nb (h : Gr W L t V v dk kk) : L.b ∉ ob v := fun m => by
 obtain ⟨cur, q⟩ := h.k.kind _ m
 exact h.own.ne q (by decide) rfl
theorem Gr.nu (h : Gr W L t V v dk kk) : L.u ∉ ob v := fun m => by
 obtain ⟨cur, q⟩ := h.k.kind _ m
 obtain ⟨vs, d⟩ := h.utf.kind
 exact d.ne q (by decide) rfl
theorem Gr.ub (h : Gr W L t V v dk kk) : L.u ≠ L.b := by
 obtain ⟨vs, d⟩ := h.utf.kind
 unfold Bk at d
 exact h.own.ne d (by decide)
theorem Gr.put (h : Gr W L t V v dk kk) (k' : KeptAt V v' y) (s : ∀ g ∈ ob v', g ∈ ob L.k \/ W.heap.size <= g) : Gr W L t (V.setCell ⟨L.b, 31, none⟩ v') v' dk y := by
 have far : ∀ g, g ≠ L.b -> (V.setCell ⟨L.b, 31, none⟩ v').heap[g]? = V.heap[g]? := fun g hg => heap_setCell_other V ⟨L.b, 31, none⟩ g v' hg
 refine ⟨h.mv.trans (Mv.set (F := [L.b]) V (by simp)) (by simp), h.own.set 31 v', h.utf.keep (far _ h.ub), k'.keep (fun g m => far g (fun e => ?_)), s⟩
 subst e
 obtain ⟨cur, q⟩ := k'.kind _ m
 exact h.own.ne q (by decide) rfl
theorem Gr.app (h : Gr W L t V v dk kk) (ok : AppOk V V' v v' kk y) : Gr W L t V' v dk kk /\ Gr W L t (V'.setCell ⟨L.b, 31, none⟩ v') v' dk y := by
 have hs := h.mv.size
 have G : Gr W L t V' v dk kk := ⟨h.mv.trans ok.mv (fun b hb => (h.sub b hb).elim (fun z => Or.inl (by simp [z])) Or.inr), h.own.of_eq (ok.mv.blk _ h.own.lt h.nb), h.utf.keep (ok.mv.blk _ (by obtain ⟨_, k⟩ := h.utf.kind; exact k.lt) h.nu), ok.old, h.sub⟩
 exact ⟨G, G.put ok.new (fun g m => (ok.sub g m).elim (h.sub g) (fun z => Or.inr (by omega)))⟩
theorem Gr.feed (h : Gr W L t V v dk kk) (m : Mv [L.u] V V') (d : DecAt V' L.u dk') : Gr W L t V' v dk' kk :=
 ⟨h.mv.trans m (fun b hb => Or.inl (by simp at hb; simp [hb])), h.own.of_eq (m.blk _ h.own.lt (by simp; exact fun e => h.ub e.symm)), d, h.k.keep (fun g hg => m.blk g (h.k.lt g hg) (by simp; exact fun e => h.nu (e ▸ hg))), h.sub⟩
theorem kept_cut {A : Option Addr} {c P : Nat} {s : ByteArray} (h : KeptAt V (.slice A s.size c) s) (hp : P <= s.size) : KeptAt V (.slice (cutB A c P) (s.size - P) (c - P)) (s.extract P s.size) /\ ∀ g ∈ ob (.slice (cutB A c P) (s.size - P) (c - P)), g ∈ ob (.slice A s.size c) := by
 obtain ⟨A', c', e, h1, h2, h3, h4⟩ := h
 simp only [Value.slice.injEq] at e
 obtain ⟨rfl, _, rfl⟩ := e
 have sz : (s.extract P s.size).size = s.size - P := by rw [ByteArray.size_extract]; omega
 refine ⟨⟨cutB A c P, c - P, by rw [sz], by omega, by omega, fun e => ?_, fun hc => ?_⟩, fun g hg => ?_⟩
 ·unfold cutB at e
  split at e
  ·omega
  ·have := h3 (by simpa using e)
   omega
 ·obtain ⟨g, o, cur, rfl, q1, q2, q3⟩ := h4 (by omega)
  refine ⟨g, o + P, cur, ?_, q1, by omega, fun j u hj => ?_⟩
  ·unfold cutB
   rw [if_neg (by omega)]
   show some ((⟨g, o, none⟩ : Addr).add P) = _
   rw [jf]
  ·rw [VD, List.getElem?_drop] at hj
   have := q3 _ _ hj
   rw [show o + P + j = o + (P + j) by omega]
   exact this
 ·by_cases z : c - P = 0
  ·rw [z] at hg
   unfold ob at hg
   cases h9 : cutB A c P <;> (rw [h9] at hg; simp at hg)
  ·obtain ⟨g', o, cur, rfl, q1, q2, q3⟩ := h4 (by omega)
   obtain ⟨c1, e1⟩ : ∃ c1, c - P = c1 + 1 := ⟨c - P - 1, by omega⟩
   obtain ⟨c2, e2⟩ : ∃ c2, c = c2 + 1 := ⟨c - 1, by omega⟩
   have e3 : cutB (some ⟨g', o, none⟩) c P = some ⟨g', o + P, none⟩ := by
    unfold cutB
    rw [if_neg (by omega)]
    show some ((⟨g', o, none⟩ : Addr).add P) = _
    rw [jf]
   rw [e3, e1] at hg
   rw [e2]
   simpa [ob] using hg
theorem Gr.cut {A : Option Addr} {c P : Nat} (h : Gr W L t V (.slice A kk.size c) dk kk) (hp : P <= kk.size) : Gr W L t (V.setCell ⟨L.b, 31, none⟩ (.slice (cutB A c P) (kk.size - P) (c - P))) (.slice (cutB A c P) (kk.size - P) (c - P)) dk (kk.extract P kk.size) := by
 obtain ⟨k1, k2⟩ := kept_cut h.k hp
 exact h.put k1 (fun g m => h.sub g (k2 g m))
theorem Gr.done (h : Gr W L t V v y y) (T : TrmAt W L t) (E : EnvV W) (nv : ∀ b ∈ L.fp, NotV b) : St W L.fp L.b { t with kept := y } V := by
 have far : ∀ {g : Nat} {cur : Array Value} {Ty : TypeId} {fl : Nat × Nat}, W.heap[g]? = some (.cells cur Ty fl) -> Ty ≠ 104 -> Ty ≠ 116 -> (g ∉ ob L.k) -> V.heap[g]? = W.heap[g]? := fun {g} {cur} {Ty} {fl} hg n1 n2 n3 => h.mv.blk g (Array.getElem?_eq_some_iff.1 hg).1 (fun m => by
  rcases List.mem_cons.1 m with rfl | m
  ·exact T.own.ne hg n1 rfl
  ·rcases List.mem_cons.1 m with rfl | m
   ·obtain ⟨vs, d⟩ := T.utf.kind
    exact d.ne hg n2 rfl
   ·exact n3 m)
 have nk : ∀ {g : Nat} {cur : Array Value} {Ty : TypeId} {fl : Nat × Nat}, W.heap[g]? = some (.cells cur Ty fl) -> Ty ≠ 5 -> g ∉ ob L.k := fun {g} {cur} {Ty} {fl} hg n m => by
  obtain ⟨c2, q⟩ := T.k.kind g m
  rw [hg] at q
  cases q
  exact n rfl
 have sub : ∀ g ∈ ({ L with k := v } : Lay).fp, g ∈ L.fp \/ W.heap.size <= g := fun g m => by
  rcases Lay.mem.1 m with q | q | q | q | q | q | q | q | q
  ·exact Or.inl (Lay.mem.2 (Or.inl q))
  ·exact Or.inl (Lay.mem.2 (Or.inr (Or.inl q)))
  ·exact Or.inl (Lay.mem.2 (by simp only at q; simp [q]))
  ·exact Or.inl (Lay.mem.2 (by simp only at q; simp [q]))
  ·exact Or.inl (Lay.mem.2 (by simp only at q; simp [q]))
  ·exact Or.inl (Lay.mem.2 (by simp only at q; simp [q]))
  ·exact Or.inl (Lay.mem.2 (by simp only at q; simp [q]))
  ·exact Or.inl (Lay.mem.2 (by simp only at q; simp [q]))
  ·rcases h.sub g q with z | z
   ·exact Or.inl (Lay.mem.2 (by simp [z]))
   ·exact Or.inr z
 refine ⟨E, ⟨h.mv.os, h.mv.tape, h.mv.output, h.mv.size, fun k hk hn => h.mv.blk k hk (fun m => hn (Lay.mem.2 ?_))⟩, nv, { L with k := v }, rfl, ⟨h.own, h.utf, ?_, ?_, ?_, ?_, ?_, ?_, h.k, T.ca, T.sw, T.rh, ?_, ?_⟩, sub⟩
 ·rcases List.mem_cons.1 m with q | m
  ·simp [q]
  ·rcases List.mem_cons.1 m with q | m
   ·simp [q]
   ·simp [m]
 ·exact T.c.keep (fun g m => by obtain ⟨cur, q⟩ := T.c.kind g m; exact far q (by decide) (by decide) (nk q (by decide)))
 ·exact T.a.keep (fun g m => by obtain ⟨cur, q⟩ := T.a.kind g m; exact far q (by decide) (by decide) (nk q (by decide)))
 ·exact T.s.keep (fun g m => by obtain ⟨cur, q⟩ := T.s.kind g m; exact far q (by decide) (by decide) (nk q (by decide)))
 ·exact T.w.keep (fun g m => by obtain ⟨cur, q⟩ := T.w.kind g m; exact far q (by decide) (by decide) (nk q (by decide)))
 ·exact T.r.keep (fun g m => by obtain ⟨cur, q⟩ := T.r.kind g m; exact far q (by decide) (by decide) (T.rk g m))
 ·exact T.h.keep (fun g m => by obtain ⟨cur, q⟩ := T.h.kind g m; exact far q (by decide) (by decide) (T.hk g m))
 ·exact fun g m m2 => (h.sub g m2).elim (T.rk g m) (fun z => by have := T.r.lt g m; omega)
 ·exact fun g m m2 => (h.sub g m2).elim (T.hk g m) (fun z => by have := T.h.lt g m; omega)
theorem zam : ∀ (f : Nat) (s : ByteArray), s.size <= f -> ∃ P, P <= s.size /\ (zL f s).2 = s.extract P s.size
 | 0, s, h => ⟨s.size, zdA, (Zb s s.size zdA).symm⟩
 | f + 1, s, h => by
  unfold zL
  by_cases z : s.size = 0
  ·rw [if_pos z]; exact ⟨s.size, zdA, (Zb s s.size zdA).symm⟩
  ·rw [if_neg z]
   by_cases o : qN s = true
   ·rw [if_pos o]
    refine ⟨0, Nat.zero_le _, ?_⟩
    apply ByteArray.ext
    rw [ByteArray.data_extract]
    exact (Array.extract_eq_self_of_le zdA).symm
   ·rw [if_neg o]
    have b := xf s (by omega)
    have sz : (s.extract (decB s).2 s.size).size = s.size - (decB s).2 := by rw [ByteArray.size_extract]; omega
    obtain ⟨P, h1, h2⟩ := zam f (s.extract (decB s).2 s.size) (by omega)
    refine ⟨(decB s).2 + P, by omega, ?_⟩
    show (zL f (s.extract (decB s).2 s.size)).2 = _
    rw [h2, sz]
    have dl : (decB s).2 <= s.size := b.2.1
    clear h2 b sz z o
    generalize (decB s).2 = d at *
    apply ByteArray.ext
    have e9 : ∀ k, k = s.size -> s.data.extract (d + P) k = s.data.extract (d + P) s.size := fun k hk => by rw [hk]
    rw [ByteArray.data_extract, ByteArray.data_extract, ByteArray.data_extract, Array.extract_extract]
    exact e9 _ (by omega)
theorem zc6 (s : ByteArray) : (zq s).2.size <= s.size /\ (zq s).2 = s.extract (s.size - (zq s).2.size) s.size := by
 obtain ⟨P, h1, h2⟩ := zam s.size s zdA
 have e : (zq s).2 = s.extract P s.size := h2
 have sz : (zq s).2.size = s.size - P := by rw [e, ByteArray.size_extract]; omega
 refine ⟨by omega, ?_⟩
 rw [show s.size - (zq s).2.size = P by omega]
 exact e
end
end
section
open Go Go.RowKit Go.Sort
section
variable {w0 : World} {F0 : List Nat} {tb : Nat} {t t' : Trm} {W W' : World}
def restOf : Option Code -> Code
 | some (.scope (.seq _ r)) => r
 | _ => .skip
theorem zc7 (t : Trm) (l : List Int) (k : Nat) (h : k < l.length) : qh t (l.take (k + 1)) = z6 (qh t (l.take k)) l[k] := by
 unfold qh
 rw [List.take_add_one, List.getElem?_eq_getElem h, List.foldl_append]
 rfl
theorem zc8 (l : List Int) {t : Trm} (f : Fine t) (o : jd t) (k : Nat) (q : t.reps.size <= 65536) : Fine (qh t (l.take k)) /\ jd (qh t (l.take k)) := ⟨Z9 _ f, (Qm _ f o q).1⟩
theorem runes_at {W : World} {v : Value} {l : List Int} {B : Nat} (h : W.ownsRow B 21 1 v l.length (rns l)) (hl : 0 < l.length) : ∃ g c cur, v = .slice (some ⟨g, 0, none⟩) l.length c /\ W.heap[g]? = some (.cells cur 21 (0, 0)) /\ ∀ k (hk : k < l.length), W.cell? ⟨g, k, none⟩ = some (.int .i32 l[k]) := by
 rcases h.2 with ⟨_, z⟩ | ⟨g, cap, cur, rfl, _, hg, _⟩
 ·omega
 ·refine ⟨g, cap, cur, rfl, hg, fun k hk => ?_⟩
  rw [h.cellAt k (by omega)]
  unfold rns
  rw [List.getElem?_map, List.getElem?_eq_getElem hk]
  rfl
set_option maxHeartbeats 16000000 in
set_option maxRecDepth 100000 in
theorem ZD (h : St w0 F0 tb t W) (Lv : Live t) (s0 : t.state = 0) (b : Int) (b0 : 0 <= b) (b1 : b < 256) (u11 u12 u13 u14 u15 u16 u71 u72 u73 u74 u75 u76 u77 u81 u82 u83 u84 u85 u86 u87 u88 u89 u90 u91 u92 u93 u94 u95 u96 u97 u98 u109 u110 u111 u112 u113 u114 u115 u116 u117 u118 u119 u120 u121 u125 u126 u127 u131 u132 u133 u138 u139 u140 u141 u142 u143 u144 u145 u146 : Value) (Q : Exit -> Act -> World -> Prop) (hQ : ∀ a w', a.defers = [] -> St w0 F0 tb (qS t b) w' -> Q .normal a w') :
  Code.wp Tryz.prog (restOf (Tryz.f57).body) Q { tmps := #[.pointer (some ⟨tb, 0, none⟩), .int .u8 b, undef, undef, undef, undef, undef, undef, undef, undef, undef, u11, u12, u13, u14, u15, u16, undef, undef, undef, undef, undef, undef, undef, undef, undef, undef, undef, undef, undef, undef, undef, undef, undef, undef, undef, undef, undef, undef, undef, undef, undef, undef, undef, undef, undef, undef, undef, undef, undef, undef, undef, undef, undef, undef, undef, undef, undef, undef, undef, undef, undef, undef, undef, undef, undef, undef, undef, undef, undef, undef, u71, u72, u73, u74, u75, u76, u77, undef, undef, undef, u81, u82, u83, u84, u85, u86, u87, u88, u89, u90, u91, u92, u93, u94, u95, u96, u97, u98, undef, undef, undef, undef, undef, undef, undef, undef, undef, undef, u109, u110, u111, u112, u113, u114, u115, u116, u117, u118, u119, u120, u121, undef, undef, undef, u125, u126, u127, undef, undef, undef, u131, u132, u133, undef, undef, undef, undef, u138, u139, u140, u141, u142, u143, u144, u145, u146, undef, undef, undef, undef, undef, undef, undef, undef, undef, undef, undef, undef, undef, undef, undef, undef, undef, undef, undef, undef, undef, undef, undef, undef, undef, undef, undef, undef, undef, undef, undef, undef, undef, undef, undef, undef, undef, undef, undef], defers := [] } W := by
 obtain ⟨L, e, T, h1, up⟩ := h.from
 subst e
 have UP := zdy up
 have HQ := zdy hQ
 have FI := zdy Lv.fine
 have OP := zdy Lv.opn
 have RP := zdy Lv.reps
 have TT := zdy T
 have EV := zdy h1.env
 have NG := zdy h1.ng
 have ks := JM Lv.st.kept
 have G1 := Gr.start T
 have k28 := T.own.c 28 _ rfl
 rw [s0] at k28
 obtain ⟨v', V, RC0, ok⟩ := Ji T.k b b0 b1 (by omega)
 have BA : Below W.heap.size W (W.alloc (.cells #[.int .u8 b] 5)) := (Below.refl _ W).alloc zdA _
 obtain ⟨G3, G4⟩ := (G1.below BA).app ok
 obtain ⟨A, c, eA, q1, q2, q3, q4⟩ := T.k
 have k31 : W.cell? ⟨L.b, 31, none⟩ = some (.slice A t.kept.size c) := by rw [<- eA]; exact T.own.c 31 _ rfl
 obtain ⟨A2, c2, eV, r1, r2, r3, r4⟩ := ok.new
 subst eV
 have v31 : V.cell? ⟨L.b, 31, none⟩ = some (.slice A t.kept.size c) := by rw [<- eA]; exact G3.own.c 31 _ rfl
 have vf31 := G3.own.f 31
 have RC := zdy RC0
 rw [eA] at RC
 have SZ : (zp t.kept b).size = t.kept.size + 1 := jK _ _
 obtain ⟨V4, hV4⟩ : ∃ V4, V4 = V.setCell ⟨L.b, 31, none⟩ (.slice A2 (zp t.kept b).size c2) := ⟨_, rfl⟩
 rw [<- hV4] at G4
 have m30 := G4.own.c 30 _ rfl
 have B5 : Below V4.heap.size V4 (V4.alloc (.cells #[.int .u8 b] 5)) := (Below.refl _ V4).alloc zdA _
 have G5 := G4.below B5
 have FE : Hid (Calls Tryz.prog 65 #[.pointer (some ⟨L.u, 0, none⟩), .slice (some ⟨V4.heap.size, 0, none⟩) 1 1] (V4.alloc (.cells #[.int .u8 b] 5)) (VE L.u (zp t.kept b) (V4.alloc (.cells #[.int .u8 b] 5)))) := zdy (by
  refine d_Feed L.u t.kept ⟨#[UInt8.ofNat b.toNat]⟩ ⟨V4.heap.size, 0, none⟩ 1 _ G5.utf (by show t.kept.size + 1 <= 4; omega) zdA (fun _ => ⟨_, rfl, by simp, fun j u hj => ?_⟩) (Nat.zero_lt_one)
  rw [VT b b0 b1] at hj
  cases j with
  | succ j => simp at hj
  | zero =>
   have : u = .int .u8 b := by simpa using hj.symm
   subst this
   have := World.alloc_heap_new V4 (.cells #[.int .u8 b] 5)
   rw [jf]
   simp only [World.cell?, this]
   rfl)
 obtain ⟨K, hK⟩ : ∃ K, K = zp t.kept b := ⟨_, rfl⟩
 have TG : Hid (qS t b = qh { t with kept := (zq K).2 } (zq K).1) := zdy (by rw [hK]; rfl)
 rw [<- hK] at RC hV4 G4 G5 FE SZ
 have G5 := zdy G5
 obtain ⟨hs1, hs2⟩ := zc6 K
 have HS2 := zdy hs2
 clear h h1 up hQ Lv T G1 G3 G4 BA B5 ok q1 q2 q3 q4 r1 r2 r3 r4 RC0 s0 hK hs2
 have HZ := zdy SZ
 clear SZ
 conv =>
  arg 2
  whnf
 go_upto_region 2 with fail
 go_upto_region 3 with (at_builtin; refine jT rfl (.tmp 21) (.tmp 23) 27 27 rfl _ _ _ _ rfl rfl RC.out ?_)
 rw [<- hV4]
 clear hV4 k28 k31 v31 vf31 RC eA
 go_wp2_with fail
 refine FE.out.mono ?_; rintro e w6 ⟨vl, rfl, OW, DE, MV⟩
 have G6 := G5.out.feed MV DE
 obtain ⟨d0, d1, d2, d3, DB, _, _⟩ := DE
 have HE := zdy (d_Held L.u _ ((zq K).2.size : Int) w6 DB rfl)
 have n30 := G6.own.c 30 _ rfl
 have n31 := G6.own.c 31 _ rfl
 have nf31 := G6.own.f 31
 have OW := zdy OW
 have G6 := zdy G6
 clear MV DB FE G5 m30
 go_wp2_with fail
 refine HE.out.mono ?_; rintro e w7 ⟨rfl, rfl⟩
 go_upto_if 45 with fail
 go_cut [45] from 45 to 60 (fun s45 wx => s45 = s45 /\ Hid (St W L.fp L.b { t with kept := (zq K).2 } wx /\ wx.ownsRow 0 21 1 vl (zq K).1.length (rns (zq K).1)))
 case first =>
  by_cases lt : (zq K).2.size < K.size
  ·obtain ⟨P, hP⟩ : ∃ P, P = K.size - (zq K).2.size := ⟨_, rfl⟩
   have lti : ((zq K).2.size : Int) < (K.size : Int) := by omega
   have wk : IntKind.i64.wrap ((K.size : Int) - ((zq K).2.size : Int)) = (P : Int) := by rw [zdz _ (by have := HZ.out; omega)]; omega
   have SL := VC A2 K.size c2 P (by omega)
   have HPL : Hid (P <= K.size) := zdy (by omega)
   have EK : Hid (K.extract P K.size = (zq K).2) := zdy (by rw [hP]; exact HS2.out.symm)
   have n31 := G6.out.own.c 31 _ rfl
   have n31d := (G6.out.below (Below.refl _ _).drew).own.c 31 _ rfl
   have nf31d := (G6.out.below (Below.refl _ _).drew).own.f 31
   have HP := zdy hP
   clear hs1 lt hP
   go_upto_region 6 with fail
   refine qk 15 (by kernel_rfl) (by kernel_rfl) ?_
   simp only [zdB, zdC, zdD, zdE]
   repeat (quiet_step (fail))
   refine wpQuiet_nil ?_
   intro _ hw'
   obtain ⟨nq, hw''⟩ := hw'
   subst hw''
   go_wp2_with fail
   go_meet
   refine ⟨trivial, zdy ⟨?_, ?_⟩⟩
   ·have G := (G6.out.below (below_drewN (Below.refl _ _) nq)).cut (P := P) HPL.out
    rw [EK.out] at G
    exact G.done TT.out EV.out NG.out
   ·refine qG (Jg OW.out (fun g hg => ?_)) (Nat.zero_le _)
    obtain ⟨_, cu, hcu⟩ := hg
    exact (heap_setCell_other (w7.drewN nq) ⟨L.b, 31, none⟩ g _ (G6.out.own.ne hcu (by decide))).trans rfl
  ·have lti : ¬ ((zq K).2.size : Int) < (K.size : Int) := by omega
   have EK : Hid (K = (zq K).2) := zdy (by
    have h := HS2.out
    rw [show K.size - (zq K).2.size = 0 by omega] at h
    rw [h]
    apply ByteArray.ext
    rw [ByteArray.data_extract]
    exact (Array.extract_eq_self_of_le zdA).symm)
   clear hs1 lt
   go_wp2_with fail
   go_meet
   refine ⟨trivial, zdy ⟨?_, qG OW.out (Nat.zero_le _)⟩⟩
   have G := G6.out
   have G2 : ∀ y, K = y -> Gr W L t w7 (.slice A2 K.size c2) y K -> Gr W L t w7 (.slice A2 K.size c2) y y := fun y e g => by rw [<- e] at g ⊢; exact g
   exact (G2 _ EK.out G).done TT.out EV.out NG.out
 case rest =>
  obtain ⟨_, hR⟩ := hcut
  obtain ⟨hS, hO⟩ := hR.out
  obtain ⟨l, hl⟩ : ∃ l, l = (zq K).1 := ⟨_, rfl⟩
  obtain ⟨t1, ht1⟩ : ∃ t1 : Trm, t1 = { t with kept := (zq K).2 } := ⟨_, rfl⟩
  rw [<- ht1] at hS TG
  rw [<- hl] at hO TG
  have lc : l.length <= 8 := by
   rw [hl]
   have := cert_len K.size K
   have := HZ.out
   show (zL K.size K).1.length <= 8
   omega
  have F1 : Fine t1 := by rw [ht1]; exact FI.out.still rfl rfl rfl
  have O1 : jd t1 := by rw [ht1]; exact OP.out.imp id (fun o => o.same ⟨rfl, rfl, rfl, rfl⟩)
  have R1 : t1.reps.size <= 65536 := by rw [ht1]; exact RP.out
  obtain ⟨F, h7, up7, hF1, hF2⟩ := hS.hold
  have RF := zdy (fun k => zc8 l F1 O1 k R1)
  have UP7 := zdy up7
  obtain ⟨X, hX⟩ : ∃ X, X = wc := ⟨_, rfl⟩
  rw [<- hX] at h7 hO hF2 UP7
  have H7 : Hid (St X F L.b (qh t1 (l.take 0)) wc) := zdy (by rw [<- hX]; exact h7)
  have CE : Hid (∀ k wr, k < l.length -> St X F L.b (qh t1 (l.take k)) wr -> ∃ g c, vl = .slice (some ⟨g, 0, none⟩) l.length c /\ wr.cell? ⟨g, k, none⟩ = some (.int .i32 (l.getD k 0))) := zdy (fun k wr hk hs => by
   obtain ⟨g, c3, cur, ev, hg, hc⟩ := runes_at hO (by omega)
   refine ⟨g, c3, ev, ?_⟩
   rw [List.getD_eq_getElem?_getD, List.getElem?_eq_getElem hk]
   exact (World.cell?_of_block (hs.mv.blk g (Array.getElem?_eq_some_iff.1 hg).1 (hF2 g cur _ _ hg (by decide)))).trans (hc k hk))
  obtain ⟨A3, c3, ev⟩ : ∃ A3 c3, vl = .slice A3 l.length c3 := by
   rcases hO.2 with ⟨z, z2⟩ | ⟨g, cap, cur, z, _⟩
   ·exact ⟨none, 0, by rw [z, z2]⟩
   ·exact ⟨_, _, z⟩
  clear hR hS hO hF1 hF2 h7 up7 F1 O1 R1 OW G6 TT EV NG HE hX
  subst ev
  obtain ⟨n, hn⟩ : ∃ n, n = l.length := ⟨_, rfl⟩
  rw [<- hn] at lc CE
  rw [<- hn]
  have HN := zdy hn
  clear hn
  go_wp2_with fail
  go_loopw [63] (fun i wr => ∃ k : Nat, k <= n /\ i = .int .i64 (k : Int) /\ Hid (St X F L.b (qh t1 (l.take k)) wr)) (fun i _ => n - (intOf i).toNat)
  case atStart => exact ⟨0, Nat.zero_le _, by simp, H7⟩
  case round =>
   obtain ⟨k, hk, rfl, hr⟩ := hrel
   clear H7
   by_cases lt : k < n
   ·obtain ⟨g, c4, e4, y⟩ := CE.out k wr lt hr.out
    simp only [Value.slice.injEq] at e4
    obtain ⟨rfl, _, rfl⟩ := e4
    have lk : k < l.length := by rw [<- HN.out]; exact lt
    obtain ⟨f1, o1⟩ := RF.out k
    have RU := zdy (t_rune hr.out f1 o1 (l.getD k 0))
    have EN : Hid (qh t1 (l.take (k + 1)) = z6 (qh t1 (l.take k)) (l.getD k 0)) := zdy (by
     rw [zc7 t1 l k lk, List.getD_eq_getElem?_getD, List.getElem?_eq_getElem lk]; rfl)
    generalize l.getD k 0 = x at *
    have q0 : (0 : Int) <= (k : Int) := by omega
    have q5 : (k : Int) < (n : Int) := by omega
    have tn : (k : Int).toNat = k := by omega
    have wk := zdz ((k : Int) + 1) (by omega)
    clear hr CE f1 o1 RF
    go_wp2_with fail
    refine RU.out.mono ?_; rintro e w2 ⟨⟨v, rfl⟩, h2⟩
    rw [<- EN.out] at h2
    have H2 := zdy h2
    clear h2 RU
    go_wp2_with fail
    go_roundw
    case rel => exact ⟨k + 1, by omega, by go_num, H2⟩
    case measure => simp [intOf]; omega
   ·have ek : k = n := by omega
    subst ek
    have q5 : ¬ (k : Int) < (k : Int) := by omega
    clear CE RF
    go_wp2_with fail
    (try simp only [Exit.inBlock, Exit.then])
    refine HQ.out _ _ rfl (UP.out _ _ (UP7.out _ _ ?_))
    rw [TG.out]
    have := hr.out
    rw [HN.out, List.take_length] at this
    exact this
end
end
section
open Go Go.RowKit Go.Sort
def fnV (k : Nat) : Value := .func (.func k) #[] #[]
def fnV0 : Value := .nilFunc
def actP : List (Nat × Value) := [(65, fnV 108), (66, fnV 109), (67, fnV 110), (68, fnV 111), (69, fnV 112), (70, fnV 113), (71, fnV 114), (72, fnV 115), (73, fnV 116), (74, fnV 117), (75, fnV 118), (76, fnV 119), (77, fnV 120), (80, fnV 121), (83, fnV 122), (84, fnV 123), (88, fnV 124), (90, fnV 125), (64, fnV 126), (96, fnV 114), (97, fnV 110), (100, fnV 127), (101, fnV 109), (102, fnV 115), (114, fnV 128), (117, fnV 129), (126, fnV0)]
def actT0 : TypeId := 158
def zG : Array Value := #[fnV0, fnV0, fnV0, fnV0, fnV0, fnV0, fnV0, fnV0, fnV0, fnV0, fnV0, fnV0, fnV0, fnV0, fnV0, fnV0, fnV0, fnV0, fnV0, fnV0, fnV0, fnV0, fnV0, fnV0, fnV0, fnV0, fnV0, fnV0, fnV0, fnV0, fnV0, fnV0, fnV0, fnV0, fnV0, fnV0, fnV0, fnV0, fnV0, fnV0, fnV0, fnV0, fnV0, fnV0, fnV0, fnV0, fnV0, fnV0, fnV0, fnV0, fnV0, fnV0, fnV0, fnV0, fnV0, fnV0, fnV0, fnV0, fnV0, fnV0, fnV0, fnV0, fnV0, fnV0, fnV 126, fnV 108, fnV 109, fnV 110, fnV 111, fnV 112, fnV 113, fnV 114, fnV 115, fnV 116, fnV 117, fnV 118, fnV 119, fnV 120, fnV0, fnV0, fnV 121, fnV0, fnV0, fnV 122, fnV 123, fnV0, fnV0, fnV0, fnV 124, fnV0, fnV 125, fnV0, fnV0, fnV0, fnV0, fnV0, fnV 114, fnV 110, fnV0, fnV0, fnV 127, fnV 109, fnV 115, fnV0, fnV0, fnV0, fnV0, fnV0, fnV0, fnV0, fnV0, fnV0, fnV0, fnV0, fnV 128, fnV0, fnV0, fnV 129, fnV0, fnV0, fnV0, fnV0, fnV0, fnV0, fnV0, fnV0, fnV0]
theorem zan : Tryz.prog.built actT0 actP = some zG := by kernel_rfl
theorem zc9 : zG.size = 127 := by kernel_rfl
theorem zda : zG.all (·.oneCell') = true := by kernel_rfl
section
variable {w0 : World} {F0 : List Nat} {tb : Nat} {t t' : Trm} {W W' : World}
theorem act_at (H : St w0 F0 tb t W) (f : Fine t) (p : zk t) (b : Nat) (hb : 64 <= b /\ b <= 126) (n : Nums) (A : Option Addr) (c : Nat) (N : NumAt W n A c) (hn1 : 0 < n.list.length) :
  (zG[b]? = some .nilFunc /\ actT? t (b : Int) n = none) \/ ∃ k t', zG[b]? = some (.func (.func k) #[] #[]) /\ actT? t (b : Int) n = some t' /\ Calls Tryz.prog k #[.pointer (some ⟨tb, 0, none⟩), numV n A c] W (Vd w0 F0 tb t') /\ ∀ args w, (callFunc k args).run Tryz.prog w = .ok (.enter k args) w := by
 obtain ⟨h1, h2⟩ := hb
 have key : b = 64 \/ b = 65 \/ b = 66 \/ b = 67 \/ b = 68 \/ b = 69 \/ b = 70 \/ b = 71 \/ b = 72 \/ b = 73 \/ b = 74 \/ b = 75 \/ b = 76 \/ b = 77 \/ b = 78 \/ b = 79 \/ b = 80 \/ b = 81 \/ b = 82 \/ b = 83 \/ b = 84 \/ b = 85 \/ b = 86 \/ b = 87 \/ b = 88 \/ b = 89 \/ b = 90 \/ b = 91 \/ b = 92 \/ b = 93 \/ b = 94 \/ b = 95 \/ b = 96 \/ b = 97 \/ b = 98 \/ b = 99 \/ b = 100 \/ b = 101 \/ b = 102 \/ b = 103 \/ b = 104 \/ b = 105 \/ b = 106 \/ b = 107 \/ b = 108 \/ b = 109 \/ b = 110 \/ b = 111 \/ b = 112 \/ b = 113 \/ b = 114 \/ b = 115 \/ b = 116 \/ b = 117 \/ b = 118 \/ b = 119 \/ b = 120 \/ b = 121 \/ b = 122 \/ b = 123 \/ b = 124 \/ b = 125 \/ b = 126 := by omega
 clear h1 h2
 rcases key with rfl | rfl | rfl | rfl | rfl | rfl | rfl | rfl | rfl | rfl | rfl | rfl | rfl | rfl | rfl | rfl | rfl | rfl | rfl | rfl | rfl | rfl | rfl | rfl | rfl | rfl | rfl | rfl | rfl | rfl | rfl | rfl | rfl | rfl | rfl | rfl | rfl | rfl | rfl | rfl | rfl | rfl | rfl | rfl | rfl | rfl | rfl | rfl | rfl | rfl | rfl | rfl | rfl | rfl | rfl | rfl | rfl | rfl | rfl | rfl | rfl | rfl | rfl
 ·exact Or.inr ⟨_, _, (by kernel_rfl : zG[64]? = some (fnV 126)), rfl, zcA H f p n A c N, fun a w => by kernel_rfl⟩
 ·exact Or.inr ⟨_, _, (by kernel_rfl : zG[65]? = some (fnV 108)), rfl, t_up H n A c N (by have := f.y0; have := f.cy; have := f.h1; omega), fun a w => by kernel_rfl⟩
 ·exact Or.inr ⟨_, _, (by kernel_rfl : zG[66]? = some (fnV 109)), rfl, QJ H n A c N (by have := f.y0; have := f.cy; have := f.h1; omega) (by have := f.h0; have := f.h1; omega), fun a w => by kernel_rfl⟩
 ·exact Or.inr ⟨_, _, (by kernel_rfl : zG[67]? = some (fnV 110)), rfl, X9 H n A c N (by have := f.x0; have := f.cx; have := f.w1; omega) (by have := f.w0; have := f.w1; omega), fun a w => by kernel_rfl⟩
 ·exact Or.inr ⟨_, _, (by kernel_rfl : zG[68]? = some (fnV 111)), rfl, t_left H n A c N (by have := f.x0; have := f.cx; have := f.w1; omega), fun a w => by kernel_rfl⟩
 ·exact Or.inr ⟨_, _, (by kernel_rfl : zG[69]? = some (fnV 112)), rfl, zb8 H n A c N (by have := f.y0; have := f.cy; have := f.h1; omega) (by have := f.h0; have := f.h1; omega), fun a w => by kernel_rfl⟩
 ·exact Or.inr ⟨_, _, (by kernel_rfl : zG[70]? = some (fnV 113)), rfl, t_upLine H n A c N (by have := f.y0; have := f.cy; have := f.h1; omega), fun a w => by kernel_rfl⟩
 ·exact Or.inr ⟨_, _, (by kernel_rfl : zG[71]? = some (fnV 114)), rfl, Ka H n A c N (by have := f.w0; have := f.w1; omega), fun a w => by kernel_rfl⟩
 ·exact Or.inr ⟨_, _, (by kernel_rfl : zG[72]? = some (fnV 115)), rfl, Kc H n A c N (by have := f.w0; have := f.w1; omega) (by have := f.h0; have := f.h1; omega) (by have := f.p0; have := f.p1; have := f.p2; have := f.h1; have := p.2; omega), fun a w => by kernel_rfl⟩
 ·exact Or.inr ⟨_, _, (by kernel_rfl : zG[73]? = some (fnV 116)), rfl, t_tabs H f p n A c N, fun a w => by kernel_rfl⟩
 ·exact Or.inr ⟨_, _, (by kernel_rfl : zG[74]? = some (fnV 117)), rfl, zcm H f p n A c N hn1, fun a w => by kernel_rfl⟩
 ·exact Or.inr ⟨_, _, (by kernel_rfl : zG[75]? = some (fnV 118)), rfl, zcl H f p n A c N hn1, fun a w => by kernel_rfl⟩
 ·exact Or.inr ⟨_, _, (by kernel_rfl : zG[76]? = some (fnV 119)), rfl, zcx H f p n A c N, fun a w => by kernel_rfl⟩
 ·exact Or.inr ⟨_, _, (by kernel_rfl : zG[77]? = some (fnV 120)), rfl, zcy H f p n A c N, fun a w => by kernel_rfl⟩
 ·exact Or.inl ⟨by kernel_rfl, rfl⟩
 ·exact Or.inl ⟨by kernel_rfl, rfl⟩
 ·exact Or.inr ⟨_, _, (by kernel_rfl : zG[80]? = some (fnV 121)), rfl, zcz H f p n A c N, fun a w => by kernel_rfl⟩
 ·exact Or.inl ⟨by kernel_rfl, rfl⟩
 ·exact Or.inl ⟨by kernel_rfl, rfl⟩
 ·exact Or.inr ⟨_, _, (by kernel_rfl : zG[83]? = some (fnV 122)), rfl, zcB H f p n A c N, fun a w => by kernel_rfl⟩
 ·exact Or.inr ⟨_, _, (by kernel_rfl : zG[84]? = some (fnV 123)), rfl, zcC H f p n A c N, fun a w => by kernel_rfl⟩
 ·exact Or.inl ⟨by kernel_rfl, rfl⟩
 ·exact Or.inl ⟨by kernel_rfl, rfl⟩
 ·exact Or.inl ⟨by kernel_rfl, rfl⟩
 ·exact Or.inr ⟨_, _, (by kernel_rfl : zG[88]? = some (fnV 124)), rfl, zck H f p n A c N, fun a w => by kernel_rfl⟩
 ·exact Or.inl ⟨by kernel_rfl, rfl⟩
 ·exact Or.inr ⟨_, _, (by kernel_rfl : zG[90]? = some (fnV 125)), rfl, zcD H f p n A c N, fun a w => by kernel_rfl⟩
 ·exact Or.inl ⟨by kernel_rfl, rfl⟩
 ·exact Or.inl ⟨by kernel_rfl, rfl⟩
 ·exact Or.inl ⟨by kernel_rfl, rfl⟩
 ·exact Or.inl ⟨by kernel_rfl, rfl⟩
 ·exact Or.inl ⟨by kernel_rfl, rfl⟩
 ·exact Or.inr ⟨_, _, (by kernel_rfl : zG[96]? = some (fnV 114)), rfl, Ka H n A c N (by have := f.w0; have := f.w1; omega), fun a w => by kernel_rfl⟩
 ·exact Or.inr ⟨_, _, (by kernel_rfl : zG[97]? = some (fnV 110)), rfl, X9 H n A c N (by have := f.x0; have := f.cx; have := f.w1; omega) (by have := f.w0; have := f.w1; omega), fun a w => by kernel_rfl⟩
 ·exact Or.inl ⟨by kernel_rfl, rfl⟩
 ·exact Or.inl ⟨by kernel_rfl, rfl⟩
 ·exact Or.inr ⟨_, _, (by kernel_rfl : zG[100]? = some (fnV 127)), rfl, t_row H n A c N (by have := f.h0; have := f.h1; omega) (by have := f.p0; have := f.p1; have := f.p2; have := f.h1; have := p.2; omega), fun a w => by kernel_rfl⟩
 ·exact Or.inr ⟨_, _, (by kernel_rfl : zG[101]? = some (fnV 109)), rfl, QJ H n A c N (by have := f.y0; have := f.cy; have := f.h1; omega) (by have := f.h0; have := f.h1; omega), fun a w => by kernel_rfl⟩
 ·exact Or.inr ⟨_, _, (by kernel_rfl : zG[102]? = some (fnV 115)), rfl, Kc H n A c N (by have := f.w0; have := f.w1; omega) (by have := f.h0; have := f.h1; omega) (by have := f.p0; have := f.p1; have := f.p2; have := f.h1; have := p.2; omega), fun a w => by kernel_rfl⟩
 ·exact Or.inl ⟨by kernel_rfl, rfl⟩
 ·exact Or.inl ⟨by kernel_rfl, rfl⟩
 ·exact Or.inl ⟨by kernel_rfl, rfl⟩
 ·exact Or.inl ⟨by kernel_rfl, rfl⟩
 ·exact Or.inl ⟨by kernel_rfl, rfl⟩
 ·exact Or.inl ⟨by kernel_rfl, rfl⟩
 ·exact Or.inl ⟨by kernel_rfl, rfl⟩
 ·exact Or.inl ⟨by kernel_rfl, rfl⟩
 ·exact Or.inl ⟨by kernel_rfl, rfl⟩
 ·exact Or.inl ⟨by kernel_rfl, rfl⟩
 ·exact Or.inl ⟨by kernel_rfl, rfl⟩
 ·exact Or.inr ⟨_, _, (by kernel_rfl : zG[114]? = some (fnV 128)), rfl, zci H f n A c N, fun a w => by kernel_rfl⟩
 ·exact Or.inl ⟨by kernel_rfl, rfl⟩
 ·exact Or.inl ⟨by kernel_rfl, rfl⟩
 ·exact Or.inr ⟨_, _, (by kernel_rfl : zG[117]? = some (fnV 129)), rfl, t_back H f n A c, fun a w => by kernel_rfl⟩
 ·exact Or.inl ⟨by kernel_rfl, rfl⟩
 ·exact Or.inl ⟨by kernel_rfl, rfl⟩
 ·exact Or.inl ⟨by kernel_rfl, rfl⟩
 ·exact Or.inl ⟨by kernel_rfl, rfl⟩
 ·exact Or.inl ⟨by kernel_rfl, rfl⟩
 ·exact Or.inl ⟨by kernel_rfl, rfl⟩
 ·exact Or.inl ⟨by kernel_rfl, rfl⟩
 ·exact Or.inl ⟨by kernel_rfl, rfl⟩
 ·exact Or.inl ⟨by kernel_rfl, rfl⟩
end
end
section
open Go Go.RowKit Go.Sort
section
theorem zdb {ops : Array Oper} {rest : List Oper} {o : Oper} {a : Act} {w : World} {Q : Exit -> Act -> World -> Prop} (hg : o.guard = none) (parts : Array (Nat × Operand)) (ho : o.op = .build actT0 parts)
  (he : (parts.map fun (i, x) => (i, a.eval x)).toList = actP) (h : wpList Tryz.prog ops Q rest (a.put o.dst (.agg zG)) w) : wpList Tryz.prog ops Q (o :: rest) a w := by
 refine wpList_build hg actT0 parts ho (by rw [he, zan]; rfl) ?_
 rw [he, zan]
 exact h
variable {w0 : World} {F0 : List Nat} {tb : Nat} {t t' : Trm} {W W' : World}
theorem zdc : Tryz.zeroCells158.size = 127 := by kernel_rfl
theorem fn_some (k : Nat) (w : World) : (binOp .neq 156 (.func (.func k) #[] #[]) .nilFunc).run Tryz.prog w = .ok (.bool true) w := by kernel_rfl
theorem fn_none (w : World) : (binOp .neq 156 .nilFunc .nilFunc).run Tryz.prog w = .ok (.bool false) w := by kernel_rfl
set_option maxHeartbeats 8000000 in
set_option maxRecDepth 100000 in
theorem t_act (h : St w0 F0 tb t W) (f : Fine t) (p : zk t) (b : Nat) (hb : 64 <= b /\ b <= 126) (n : Nums) (A : Option Addr) (c : Nat) (N : NumAt W n A c) (hn1 : 0 < n.list.length) : Calls Tryz.prog 87 #[.pointer (some ⟨tb, 0, none⟩), .int .u8 (b : Int), numV n A c] W (Vd w0 F0 tb (actT t (b : Int) n)) := by
 obtain ⟨W1, hW1⟩ : ∃ W1, W1 = W.alloc (.cells [.int .u8 n.prefix_, .slice A n.list.length c, .bool n.void].toArray 129) := ⟨_, rfl⟩
 have BQ1 : Below W.heap.size W W1 := by rw [hW1]; exact (Below.refl _ W).alloc zdA _
 have KQ1 : Bk W1 W.heap.size [.int .u8 n.prefix_, .slice A n.list.length c, .bool n.void] 129 := by rw [hW1]; exact Bk.new W _ _
 obtain ⟨V0, hV0⟩ : ∃ V0, V0 = W1.alloc (.cells Tryz.zeroCells158 158) := ⟨_, rfl⟩
 have hg0 : V0.heap[W1.heap.size]? = some (.cells Tryz.zeroCells158 158 (0, 0)) := by rw [hV0]; exact World.alloc_heap_new W1 _
 obtain ⟨V, hV⟩ : ∃ V, V = V0.setRow W1.heap.size zG := ⟨_, rfl⟩
 have lt1 : W.heap.size < W1.heap.size := by rw [hW1]; simp
 have BV0 : Below W.heap.size W V0 := by rw [hV0]; exact BQ1.alloc BQ1.size _
 have BV : Below W.heap.size W V := by
  rw [hV]
  exact ⟨BV0.os, BV0.tape, BV0.output, by simpa using BV0.size, fun k hk => (setRow_other V0 W1.heap.size k zG (by omega)).trans (BV0.block k hk)⟩
 have KV : Bk V W.heap.size [.int .u8 n.prefix_, .slice A n.list.length c, .bool n.void] 129 := by
  refine KQ1.of_eq ?_
  rw [hV, setRow_other V0 W1.heap.size W.heap.size zG (by omega), hV0]
  exact ((Below.refl _ W1).alloc zdA _).block _ lt1
 have TV : ∀ j, V.cell? ⟨W1.heap.size, j, none⟩ = zG[j]? := fun j => by
  rw [hV]; exact cell_setRow_same V0 W1.heap.size j Tryz.zeroCells158 zG 158 (0, 0) hg0
 have H := zdy (h.below BV)
 have NV := zdy (N.below BV)
 have hcp : n.list.length <= c := N.cap
 have hcl := N.len
 unfold numV
 go_enter Tryz.func87, Tryz.ntmps87
 go_upto_region 1 with fail
 rw [<- hW1]
 clear hW1 BQ1 KQ1 BV0 lt1 h N
 have HG0 := zdy hg0
 clear hg0
 go_upto_region 2 with (first | (refine zdb rfl _ rfl (by kernel_rfl) ?_) | (refine wpList_store_row rfl _ _ _ rfl _ zG rfl rfl _ _ (hV0 ▸ HG0.out) (by kernel_rfl) (by rw [zc9]; exact zdc) zda ?_))
 rw [<- hV0, <- hV]
 clear hV0 hV HG0
 have sx : 0 <= t.cur.x /\ t.cur.x < t.w := ⟨f.x0, by have := f.cx; have := p.1; omega⟩
 have sl : (t.stops.length : Int) = t.w := f.sl
 by_cases e103 : b = 103
 ·subst e103
  obtain ⟨ad, rfl, hx⟩ := Zv NV.out hn1
  have q0 := hx V (Below.refl _ _)
  have AE : Hid (actT t (103 : Int) n = if n.list.getD 0 0 = 0 then { t with stops := t.stops.set t.cur.x.toNat false } else if n.list.getD 0 0 = 3 then { t with stops := List.replicate t.stops.length false } else t) := zdy rfl
  rw [show ((103 : Nat) : Int) = 103 from rfl] at *
  have j1 := KV.c 1 _ rfl
  have hn2 : (0 : Int) < (n.list.length : Int) := by omega
  clear hx NV KV TV BV hn1
  generalize n.list.getD 0 0 = k at *
  generalize n.list.length = m at *
  by_cases k0 : k = 0
  ·have AE2 : Hid (actT t 103 n = { t with stops := t.stops.set t.cur.x.toNat false }) := zdy (by rw [AE.out, if_pos k0])
   subst k0
   clear AE
   obtain ⟨L, g, cap, B, ec, hc, ho, st⟩ := H.out.rowS (by omega)
   have k23 := B.c 23 _ rfl
   rw [ec] at k23
   have k3 := B.c 3 _ rfl
   have S2 := zdy (st t.cur.x.toNat false)
   have y : V.cell? ⟨g, t.cur.x.toNat, none⟩ = some (.bool (t.stops.getD t.cur.x.toNat false)) := by rw [ho.cellAt _ (by omega)]; exact Q7 (by omega)
   have yf : V.frozen? ⟨g, t.cur.x.toNat, none⟩ = false := ho.frozenAt _
   obtain ⟨sx0, sx1⟩ := sx
   have sx2 : t.cur.x < (t.stops.length : Int) := by omega
   clear B ec ho st H f p
   generalize t.stops.length = M at *
   generalize t.cur.x = x at *
   generalize t.stops.getD x.toNat false = yy at *
   go_upto_region 10 with fail
   refine qk 10 (by kernel_rfl) (by kernel_rfl) ?_
   simp only [zdB, zdC, zdD, zdE]
   repeat (quiet_step (fail))
   refine wpQuiet_nil ?_
   intro _ hw'
   obtain ⟨nq, hw''⟩ := hw'
   subst hw''
   go_wp2_with fail
   go_end0
   exact ⟨⟨_, rfl⟩, by rw [AE2.out]; exact S2.out.below (below_drewN (Below.refl _ _) nq)⟩
  ·by_cases k3 : k = 3
   ·have AE2 : Hid (actT t 103 n = { t with stops := List.replicate t.stops.length false }) := zdy (by rw [AE.out, if_neg k0, if_pos k3])
    subst k3
    clear AE
    obtain ⟨L, g, cap, B, ec, RUN, st⟩ := H.out.clearS (by omega)
    have k23 := B.c 23 _ rfl
    rw [ec] at k23
    have S2 := zdy st
    clear B ec st H f p sx sl
    generalize t.stops.length = M at *
    go_wp2_with fail
    go_end0
    exact ⟨⟨_, rfl⟩, by rw [AE2.out]; exact S2.out⟩
   ·have AE2 : Hid (actT t 103 n = t) := zdy (by rw [AE.out, if_neg k0, if_neg k3])
    have d0 : decide (k = 0) = false := decide_eq_false k0
    have b0 : (k == 0) = false := by simpa using k0
    have b3 : (k == 3) = false := by simpa using k3
    have d3 : decide (k = 3) = false := decide_eq_false k3
    clear AE sx sl f p k0 k3
    go_wp2_with fail
    go_end0
    exact ⟨⟨_, rfl⟩, by rw [AE2.out]; exact H.out⟩
 by_cases e115 : b = 115
 ·subst e115
  have AE : Hid (actT t (115 : Int) n = savT t) := zdy rfl
  rw [show ((115 : Nat) : Int) = 115 from rfl] at *
  clear NV KV TV BV hn1 sx sl f p hb e103
  obtain ⟨L, B5⟩ := H.out.bk
  have k3 := B5.c 3 _ rfl
  have k4 := B5.c 4 _ rfl
  have k5 := B5.c 5 _ rfl
  have k6 := B5.c 6 _ rfl
  have k7 := B5.c 7 _ rfl
  have k8 := B5.c 8 _ rfl
  have k10 := B5.c 10 _ rfl
  have k11 := B5.c 11 _ rfl
  have k12 := B5.c 12 _ rfl
  have k13 := B5.c 13 _ rfl
  have k14 := B5.c 14 _ rfl
  have k15 := B5.c 15 _ rfl
  have kf10 := B5.f 10
  have kf11 := B5.f 11
  have kf12 := B5.f 12
  have kf13 := B5.f 13
  have kf14 := B5.f 14
  have kf15 := B5.f 15
  have S2 := zdy H.out.setSav
  clear B5 H
  go_wp2_with fail
  go_end0
  exact ⟨⟨_, rfl⟩, by rw [AE.out]; exact S2.out⟩
 have n103 : ¬ (b : Int) = 103 := by omega
 have n115 : ¬ (b : Int) = 115 := by omega
 have FS := fn_some
 have FN := fn_none
 have AE : Hid (actT t (b : Int) n = match actT? t (b : Int) n with | some t' => { t' with pend := false } | none => t) := zdy (by unfold actT; rw [if_neg n103, if_neg n115]; cases actT? t (b : Int) n <;> rfl)
 have i0 : (0 : Int) <= (b : Int) := by omega
 have i1 : (b : Int) < 127 := by omega
 have tv := TV b
 rcases act_at H.out f p b hb n A c NV.out hn1 with ⟨h1, h2⟩ | ⟨k, t', h1, h2, h3, h4⟩
 ·have AE2 : Hid (actT t (b : Int) n = t) := zdy (by rw [AE.out, h2])
  rw [h1] at tv
  clear NV KV TV BV hn1 sx sl f p hb AE h1 h2
  go_wp2_with fail
  go_end0
  exact ⟨⟨_, rfl⟩, by rw [AE2.out]; exact H.out⟩
 ·have AE2 : Hid (actT t (b : Int) n = { t' with pend := false }) := zdy (by rw [AE.out, h2])
  rw [h1] at tv
  have C3 := zdy h3
  have j0 := KV.c 0 _ rfl
  have j1 := KV.c 1 _ rfl
  have j2 := KV.c 2 _ rfl
  clear NV KV TV BV hn1 sx sl f p hb AE h1 h2 h3
  unfold numV at C3
  go_wp2_with fail
  refine C3.out.mono ?_; rintro e w1 ⟨⟨_, rfl⟩, S1⟩
  have S2 := zdy (S1.setPend false)
  obtain ⟨L1, B1⟩ := S1.bk
  have k16 := B1.c 16 _ rfl
  have kf16 := B1.f 16
  clear B1 S1 C3
  go_wp2_with fail
  go_end0
  exact ⟨⟨_, rfl⟩, by rw [AE2.out]; exact S2.out⟩
end
end
section
open Go Go.RowKit Go.Sort
section
variable {w0 : World} {F0 : List Nat} {tb : Nat} {t t' : Trm} {W W' V V0 X : World} {L : Lay}
def swT (t1 : Trm) (b : Int) : Trm := if b = 91 then { t1 with state := 3, held := zB } else if b = 93 then { t1 with state := 4, held := zB } else if b = 80 \/ b = 88 \/ b = 94 \/ b = 95 then { t1 with state := 5 }
  else if b = 99 then allW { newV t1.w t1.h with reps := t1.reps } else if b = 55 then { t1 with sav := t1.cur } else if b = 56 then jH t1 else t1
def endT (t : Trm) (b : Int) : Trm := if t.w * t.h = 0 then t
 else if b = 69 then { (zF (setX t 0)) with pend := false }
 else if b = 68 then { (zF t) with pend := false }
 else if b = 77 then { (qt t) with pend := false }
 else if b = 72 then { t with stops := t.stops.set t.cur.x.toNat true }
 else t
theorem esc_eq (t : Trm) (b : Int) : jJ t b = endT (swT { t with state := 0 } b) b := rfl
theorem fine_sw {t : Trm} (f : Fine t) (b : Int) : Fine (swT t b) := by
 unfold swT
 repeat' split
 all_goals first
 | exact f.still rfl rfl rfl
 | exact (Xa (Qg t.w t.h f.w0 f.w1 f.h0 f.h1 f.ar)).still rfl rfl rfl
 | exact Za f
 | exact f
theorem St.older {nb : Nat} {n : Trm} (h : St X [] nb n W) (E : EnvV V0) (hb : Below V0.heap.size V0 X) : St V0 [] nb n W := by
 obtain ⟨L, e, T, hf⟩ := h.lay
 exact ⟨E, (Mv.below (F := []) hb).trans h.mv (by simp), by simp, L, e, T, fun b m => (hf b m).elim (fun z => by simp at z) (fun z => Or.inr (Nat.le_trans hb.size z))⟩
theorem TrmAt.setR (T : TrmAt W L t) {v : Value} {y : ByteArray} (K : KeptAt W v y) (dh : ∀ g ∈ ob v, g ∉ ob L.h) (dk : ∀ g ∈ ob v, g ∉ ob L.k) : TrmAt (W.setCell ⟨L.b, 26, none⟩ v) { L with r := v } { t with reps := y } := by
 have far2 : ∀ g, g ≠ L.b -> (W.setCell ⟨L.b, 26, none⟩ v).heap[g]? = W.heap[g]? := fun g hg => heap_setCell_other W ⟨L.b, 26, none⟩ g v hg
 refine ⟨T.own.set 26 v, ?_, ?_, ?_, ?_, ?_, K.keep (fun g m => by obtain ⟨cur, k⟩ := K.kind g m; exact far2 g (T.own.ne k (by decide))), T.h.keep (fun g m => by obtain ⟨cur, k⟩ := T.h.kind g m; exact far2 g (T.own.ne k (by decide))), T.k.keep (fun g m => by obtain ⟨cur, k⟩ := T.k.kind g m; exact far2 g (T.own.ne k (by decide))), T.ca, T.sw, dh, dk, T.hk⟩
 ·obtain ⟨_, k⟩ := T.utf.kind; exact T.utf.keep (far2 _ (T.own.ne k (by decide)))
 ·exact T.c.keep (fun g m => by obtain ⟨cur, k⟩ := T.c.kind g m; exact far2 g (T.own.ne k (by decide)))
 ·exact T.a.keep (fun g m => by obtain ⟨cur, k⟩ := T.a.kind g m; exact far2 g (T.own.ne k (by decide)))
 ·exact T.s.keep (fun g m => by obtain ⟨cur, k⟩ := T.s.kind g m; exact far2 g (T.own.ne k (by decide)))
 ·exact T.w.keep (fun g m => by obtain ⟨cur, k⟩ := T.w.kind g m; exact far2 g (T.own.ne k (by decide)))
theorem St.fresh {nb : Nat} {n : Trm} (H0 : St w0 F0 tb t V0) (hb : Below V0.heap.size V0 V) (hn : St V0 [] nb n V) : ∃ L0 L1 A c, Bk V tb (trmV t L0) 104 /\ L0.r = .slice A t.reps.size c /\ Bk V nb (trmV n L1) 104 /\
  St w0 F0 tb t (V.setCell ⟨nb, 26, none⟩ (.slice A t.reps.size c)) /\ ∃ F, St (V.setCell ⟨nb, 26, none⟩ (.slice A t.reps.size c)) F nb { n with reps := t.reps } (V.setCell ⟨nb, 26, none⟩ (.slice A t.reps.size c)) /\ (∀ b ∈ F, b ∈ F0 \/ w0.heap.size <= b) /\ tb ∉ F := by
 obtain ⟨L0, e0, T0, hf0⟩ := H0.lay
 have T0V := T0.keep (fun g m => hb.block g (T0.lt g m))
 obtain ⟨L1, e1, T1, h1, _⟩ := hn.from
 obtain ⟨L1', e1', T1', hf1⟩ := hn.lay
 have eL : ob L1.h = ob L1'.h /\ ob L1.k = ob L1'.k /\ ∀ g ∈ L1.fp, g = nb \/ g ∈ L1'.fp := by
  have q := T1.own
  have q' := T1'.own
  rw [e1] at q
  rw [e1'] at q'
  unfold Bk at q q'
  rw [q] at q'
  injection q' with q'
  injection q' with q'
  have ee : trmV n L1 = trmV n L1' := by simpa using q'
  simp only [trmV, List.cons.injEq, Value.pointer.injEq, Option.some.injEq, Addr.mk.injEq] at ee
  obtain ⟨-, -, x2, -, -, -, -, -, -, x9, -, -, -, -, -, -, -, -, -, -, -, -, -, x23, -, -, x26, x27, -, x29, x30, x31, -⟩ := ee
  refine ⟨by rw [x29], by rw [x31], fun g m => Or.inr ?_⟩
  refine Lay.mem.2 ?_
  rcases Lay.mem.1 m with z | z | z | z | z | z | z | z | z
  ·left; rw [z, e1, e1']
  ·right; left; rw [z]; exact x30.1
  ·rw [x2] at z; simp [z]
  ·rw [x9] at z; simp [z]
  ·rw [x23] at z; simp [z]
  ·rw [x27] at z; simp [z]
  ·rw [x26] at z; simp [z]
  ·rw [x29] at z; simp [z]
  ·rw [x31] at z; simp [z]
 have new : ∀ g ∈ L1'.fp, V0.heap.size <= g := fun g m => (hf1 g m).elim (fun z => by simp at z) id
 have nbn : V0.heap.size <= nb := by rw [<- e1']; exact new _ (Lay.mem.2 (by simp))
 have K0 := T0V.r
 obtain ⟨A, c, er, _⟩ := T0V.r
 have old : ∀ g ∈ ob L0.r, g < V0.heap.size := T0.r.lt
 have T2 := T1.setR (v := .slice A t.reps.size c) (y := t.reps) (er ▸ K0) (fun g m m2 => by
  rw [<- er] at m
  rw [eL.1] at m2
  have := old g m
  have := new g (Lay.mem.2 (by simp [m2]))
  omega) (fun g m m2 => by
  rw [<- er] at m
  rw [eL.2.1] at m2
  have := old g m
  have := new g (Lay.mem.2 (by simp [m2]))
  omega)
 have far : ∀ g, g ≠ nb -> (V.setCell ⟨nb, 26, none⟩ (.slice A t.reps.size c)).heap[g]? = V.heap[g]? := fun g hg => heap_setCell_other V ⟨nb, 26, none⟩ g _ hg
 have mvV : Mv F0 w0 V := H0.mv.trans (Mv.below (F := []) hb) (by simp)
 have ge : w0.heap.size <= V0.heap.size := H0.mv.size
 have mv2 : Mv F0 w0 (V.setCell ⟨nb, 26, none⟩ (.slice A t.reps.size c)) := mvV.trans (Mv.set (F := [nb]) V (by simp)) (fun b m => Or.inr (by rw [List.mem_singleton.1 m]; omega))
 have S0 : St w0 F0 tb t (V.setCell ⟨nb, 26, none⟩ (.slice A t.reps.size c)) := ⟨H0.g0, mv2, H0.ng, L0, e0, T0V.keep (fun g m => far g (by have := T0.lt g m; omega)), hf0⟩
 have ngo : ∀ g ∈ ob L0.r, NotV g := fun g m => by
  obtain ⟨LL, _, TT, q, _⟩ := H0.from
  rcases hf0 g (Lay.mem.2 (by simp [m])) with z | z
  ·exact H0.ng g z
  ·have a := block_lt_of_cell (H0.g0.st.on 0 (by decide))
   have c := block_lt_of_cell (H0.g0.st.off 0 (by decide))
   have d := H0.g0.pg
   simp only at a c
   exact ⟨by omega, by omega, by omega⟩
 have fpc : ∀ g ∈ ({ L1 with r := .slice A t.reps.size c } : Lay).fp, g ∈ L1.fp \/ g ∈ ob L0.r := fun g m => by
  rcases Lay.mem.1 m with z | z | z | z | z | z | z | z | z
  ·exact Or.inl (Lay.mem.2 (Or.inl z))
  ·exact Or.inl (Lay.mem.2 (Or.inr (Or.inl z)))
  ·exact Or.inl (Lay.mem.2 (by simp only at z; simp [z]))
  ·exact Or.inl (Lay.mem.2 (by simp only at z; simp [z]))
  ·exact Or.inl (Lay.mem.2 (by simp only at z; simp [z]))
  ·exact Or.inl (Lay.mem.2 (by simp only at z; simp [z]))
  ·exact Or.inr (by rw [er]; exact z)
  ·exact Or.inl (Lay.mem.2 (by simp only at z; simp [z]))
  ·exact Or.inl (Lay.mem.2 (by simp only at z; simp [z]))
 subst e1
 have S1 := St.start (S0.env) T2 (fun g m => (fpc g m).elim (h1.ng g) (ngo g))
 refine ⟨L0, L1, A, c, e0 ▸ T0V.own, er, T1.own, S0, _, S1, fun b m => ?_, fun m => ?_⟩
 ·rcases fpc b m with z | z
  ·rcases eL.2.2 b z with z | z
   ·right; omega
   ·right; have := new b z; omega
  ·exact hf0 b (Lay.mem.2 (by simp [z]))
 ·have lt := T0.own.lt
  rw [e0] at lt
  rcases fpc tb m with z | z
  ·rcases eL.2.2 tb z with z | z
   ·omega
   ·have := new tb z; omega
  ·obtain ⟨cur, q⟩ := T0.r.kind tb z
   exact T0.own.ne q (by decide) e0.symm
theorem St.become2 {n : Trm} {nb : Nat} {F : List Nat} (h : St w0 F0 tb t V) (hn : St V F nb n X) (hF : ∀ b ∈ F, b ∈ F0 \/ w0.heap.size <= b) (htb : tb ∉ F) : ∃ L L0, L.b = nb /\ Bk X tb (trmV t L0) 104 /\ Bk X nb (trmV n L) 104 /\ ((∃ A n c, L.c = .slice A n c) /\ (∃ A n c, L.a = .slice A n c) /\ (∃ A n c, L.s = .slice A n c) /\ (∃ A n c, L.w = .slice A n c) /\ (∃ A n c, L.r = .slice A n c) /\ (∃ A n c, L.h = .slice A n c) /\ (∃ A n c, L.k = .slice A n c)) /\ St w0 F0 tb n (X.setRow tb (trmV n L).toArray) := by
 obtain ⟨L0, rfl, T0, hf0⟩ := h.lay
 obtain ⟨L, rfl, T, hf⟩ := hn.lay
 have hB : Mv F0 w0 X := h.mv.trans hn.mv hF
 have T1 : Bk X L0.b (trmV t L0) 104 := T0.own.of_eq (hn.mv.blk _ T0.own.lt htb)
 have lt := T0.own.lt
 have nt : ∀ g ∈ L.fp, g ≠ L0.b := fun g m e => by
  subst e
  rcases hf _ m with z | z
  ·exact htb z
  ·omega
 have far : ∀ g ∈ L.fp, (X.setRow L0.b (trmV n L).toArray).heap[g]? = X.heap[g]? := fun g m => setRow_other X L0.b g _ (nt g m)
 have o : Bk (X.setRow L0.b (trmV n L).toArray) L0.b (trmV n { L with b := L0.b }) 104 := setRow_heap X L0.b _ _ _ _ T1
 have sl : (∃ A n c, L.c = .slice A n c) /\ (∃ A n c, L.a = .slice A n c) /\ (∃ A n c, L.s = .slice A n c) /\ (∃ A n c, L.w = .slice A n c) /\ (∃ A n c, L.r = .slice A n c) /\ (∃ A n c, L.h = .slice A n c) /\ (∃ A n c, L.k = .slice A n c) := by
  obtain ⟨A1, c1, e1⟩ := T.c.asSlice
  obtain ⟨A2, c2, e2⟩ := T.a.asSlice
  obtain ⟨A3, c3, e3⟩ := T.s.asSlice
  obtain ⟨A4, c4, e4⟩ := T.w.asSlice
  obtain ⟨A5, c5, e5, _⟩ := T.r
  obtain ⟨A6, c6, e6, _⟩ := T.h
  obtain ⟨A7, c7, e7, _⟩ := T.k
  exact ⟨⟨_, _, _, e1⟩, ⟨_, _, _, e2⟩, ⟨_, _, _, e3⟩, ⟨_, _, _, e4⟩, ⟨_, _, _, e5⟩, ⟨_, _, _, e6⟩, ⟨_, _, _, e7⟩⟩
 have up : ∀ b ∈ L.fp, b ∈ F0 \/ w0.heap.size <= b := fun b m => (hf b m).elim (hF b) (fun z => Or.inr (Nat.le_trans h.mv.size z))
 refine ⟨L, L0, rfl, T1, T.own, sl, h.g0, hB.trans (show Mv [L0.b] X (X.setRow L0.b (trmV n L).toArray) from ⟨rfl, rfl, rfl, by simp, fun k _ hk => setRow_other X L0.b k _ (by simpa using hk)⟩) (by intro b hb; rw [List.mem_singleton.1 hb]; exact hf0 _ (Lay.mem.2 (by simp))), h.ng, { L with b := L0.b }, rfl, ?_, fun b hb => ?_⟩
 ·have T2 := T.keep far
  exact ⟨o, T2.utf, T2.c, T2.a, T2.s, T2.w, T2.r, T2.h, T2.k, T.ca, T.sw, T.rh, T.rk, T.hk⟩
 ·rcases Lay.mem.1 hb with z | z
  ·rw [z]; exact hf0 _ (Lay.mem.2 (by simp))
  ·exact up b (Lay.mem.2 (Or.inr z))
end
end
section
open Go.RowKit Go.Sort
theorem kU (n : Int) : Tells 138 #[.int .i64 n] (.bool (okB n)) := by
 intro w
 by_cases h0 : 0 <= n
 ·by_cases h1 : n <= 255
  all_goals
   have H : Hid (okB n = decide (n <= 255)) := by unfold okB Hid; rw [decide_eq_decide]; omega
   go_enter Tryz.func138, Tryz.ntmps138
   go_wp2
   go_ret
   exact ⟨kV (by rw [H.out]; simp [h1]), rfl⟩
 ·have H : Hid (okB n = false) := by unfold okB; exact zdy (decide_eq_false (by omega))
  go_enter Tryz.func138, Tryz.ntmps138
  go_wp2
  go_ret
  exact ⟨kV H.out.symm, rfl⟩
def richV : Option (Int × Nat) -> Value
 | some (c, k) => .tuple #[.int .i32 c, .int .i64 k]
 | none => .tuple #[.int .i32 0, .int .i64 0]
theorem ZE {n : Int} (h : okB n = true) : 0 <= n /\ n <= 255 := by unfold okB at h; rw [decide_eq_true_iff] at h; exact h
set_option maxHeartbeats 4000000 in
set_option maxRecDepth 100000 in
theorem st_rich (A : Option Addr) (c : Nat) (xs : List Int) (hm : xs.length <= 35184372087808) (w : World) (h : Sees w w.heap.size A (ints xs)) :
  Calls Tryz.prog 106 #[.slice A xs.length c] w fun e w' => e = .returned (richV (zK xs)) /\ Below w.heap.size w w' := by
 match xs, hm, h with
 | [], _, _ =>
  go_enter Tryz.func106, Tryz.ntmps106
  go_wp2_with fail
  go_ret2
  exact ⟨rfl, Below.refl _ _⟩
 | [x0], _, h =>
  have e : Hid (zK [x0] = none) := zdy (by unfold zK; split <;> simp_all)
  go_enter Tryz.func106, Tryz.ntmps106
  go_wp2_with fail
  go_ret2
  exact ⟨by rw [e.out]; rfl, Below.refl _ _⟩
 | x0 :: x1 :: r, hm, h =>
  obtain ⟨ad, rfl, hab, hc⟩ := h (by simp [ints])
  have c0 : w.cell? ad = some (.int .i64 x0) := hc 0 _ rfl
  have c1 : w.cell? ⟨ad.block, ad.off + 1, none⟩ = some (.int .i64 x1) := by rw [add_lit _ 1 (by decide)]; exact hc 1 _ rfl
  have HC := zdy hc
  clear hc h
  by_cases f5 : x0 = 5
  ·subst f5
   cases ok : okB x1 with
   | true =>
    obtain ⟨o1, o2⟩ := ZE ok
    have e : Hid (zK (5 :: x1 :: r) = some (256 + x1, 2)) := zdy (by simp only [zK, ok, if_true])
    go_enter Tryz.func106, Tryz.ntmps106
    go_wp2_with (go_at_call 138; refine (kU _ _).mono ?_; rintro e w' ⟨rfl, rfl⟩; rw [ok])
    all_goals
     go_ret2
     exact ⟨by rw [e.out]; rfl, Below.refl _ _⟩
   | false =>
    have e : Hid (zK (5 :: x1 :: r) = none) := zdy (by simp [zK, ok])
    by_cases l4 : 4 <= (5 :: x1 :: r).length
    all_goals
     go_enter Tryz.func106, Tryz.ntmps106
     go_wp2_with (go_at_call 138; refine (kU _ _).mono ?_; rintro e w' ⟨rfl, rfl⟩; rw [ok])
     all_goals
      go_ret2
      exact ⟨by rw [e.out]; rfl, Below.refl _ _⟩
  have g5 : (x0 == 5) = false := by simpa using f5
  have F5 := zdy f5
  clear f5
  match r, hm with
  | [], _ =>
   have e : Hid (zK [x0, x1] = none) := zdy (by have := F5.out; unfold zK; split <;> simp_all)
   go_enter Tryz.func106, Tryz.ntmps106
   go_wp2_with fail
   go_ret2
   exact ⟨by rw [e.out]; rfl, Below.refl _ _⟩
  | [x2], _ =>
   have e : Hid (zK [x0, x1, x2] = none) := zdy (by have := F5.out; unfold zK; split <;> simp_all)
   go_enter Tryz.func106, Tryz.ntmps106
   go_wp2_with fail
   go_ret2
   exact ⟨by rw [e.out]; rfl, Below.refl _ _⟩
  | x2 :: x3 :: q, hm =>
   have c2 : w.cell? ⟨ad.block, ad.off + 2, none⟩ = some (.int .i64 x2) := by rw [add_lit _ 2 (by decide)]; exact HC.out 2 _ rfl
   have c3 : w.cell? ⟨ad.block, ad.off + 3, none⟩ = some (.int .i64 x3) := by rw [add_lit _ 3 (by decide)]; exact HC.out 3 _ rfl
   clear HC
   by_cases f2 : x0 = 2
   ·subst f2
    cases k1 : okB x1
    ·have e : Hid (zK (2 :: x1 :: x2 :: x3 :: q) = none) := zdy (by simp [zK, k1])
     go_enter Tryz.func106, Tryz.ntmps106
     go_wp2_with (go_at_call 138; refine (kU _ _).mono ?_; rintro e w' ⟨rfl, rfl⟩; rw [k1])
     all_goals
      go_ret2
      exact ⟨by rw [e.out]; rfl, Below.refl _ _⟩
    cases k2 : okB x2
    ·have e : Hid (zK (2 :: x1 :: x2 :: x3 :: q) = none) := zdy (by simp [zK, k2])
     go_enter Tryz.func106, Tryz.ntmps106
     go_wp2_with (go_at_call 138; refine (kU _ _).mono ?_; rintro e w' ⟨rfl, rfl⟩; first | rw [k1] | rw [k2])
     all_goals
      go_ret2
      exact ⟨by rw [e.out]; rfl, Below.refl _ _⟩
    cases k3 : okB x3
    ·have e : Hid (zK (2 :: x1 :: x2 :: x3 :: q) = none) := zdy (by simp [zK, k3])
     go_enter Tryz.func106, Tryz.ntmps106
     go_wp2_with (go_at_call 138; refine (kU _ _).mono ?_; rintro e w' ⟨rfl, rfl⟩; first | rw [k1] | rw [k2] | rw [k3])
     all_goals
      go_ret2
      exact ⟨by rw [e.out]; rfl, Below.refl _ _⟩
    ·obtain ⟨o1, o2⟩ := ZE k1
     obtain ⟨o3, o4⟩ := ZE k2
     obtain ⟨o5, o6⟩ := ZE k3
     have e : Hid (zK (2 :: x1 :: x2 :: x3 :: q) = some (16777216 + (x1 * 65536 + x2 * 256 + x3), 4)) := zdy (by simp only [zK, k1, k2, k3, and_self, if_true]; congr 2; omega)
     have j1 : bits .or .i64 (x1 * 65536) (x2 * 256) = x1 * 65536 + x2 * 256 := bits_join .i64 40 (by decide) (fun n a b => zdz n (by omega)) 16 _ _ (by omega) (by omega) (by omega) (by omega) (by omega) (by omega)
     have j2 : bits .or .i64 (x1 * 65536 + x2 * 256) x3 = x1 * 65536 + x2 * 256 + x3 := bits_join .i64 40 (by decide) (fun n a b => zdz n (by omega)) 8 _ _ (by omega) (by omega) (by omega) (by omega) (by omega) (by omega)
     go_enter Tryz.func106, Tryz.ntmps106
     go_wp2_with (go_at_call 138; refine (kU _ _).mono ?_; rintro e w' ⟨rfl, rfl⟩; first | rw [k1] | rw [k2] | rw [k3])
     go_quiet (fail)
     go_wp2_with fail
     go_ret2
     exact ⟨by rw [e.out]; rfl, below_drewN (Below.refl _ _) _⟩
   ·have g2 : (x0 == 2) = false := by simpa using f2
    have e : Hid (zK (x0 :: x1 :: x2 :: x3 :: q) = none) := zdy (by have := F5.out; unfold zK; split <;> simp_all)
    clear f2
    go_enter Tryz.func106, Tryz.ntmps106
    go_wp2_with fail
    all_goals
     go_ret2
     exact ⟨by rw [e.out]; rfl, Below.refl _ _⟩
end
section
open Go.RowKit Go.Sort
theorem Sees.cut {w : World} {B : Nat} {ad : Addr} {xs : List Int} (h : Sees w B (some ad) (ints xs)) (k : Nat) : Sees w B (some (ad.add k)) (ints (xs.drop k)) := by
 intro ne
 obtain ⟨a, e, hb, hc⟩ := h (by
  intro z
  apply ne
  have : xs = [] := by simpa [ints] using z
  rw [this]; simp [ints])
 cases e
 refine ⟨_, rfl, by rw [z8]; exact hb, fun j u hu => ?_⟩
 rw [jD]
 apply hc
 simp only [ints, List.getElem?_map, List.getElem?_drop] at hu ⊢
 exact hu
set_option maxHeartbeats 8000000 in
set_option maxRecDepth 100000 in
theorem st_Apply (s : Sty) (A : Option Addr) (c : Nat) (xs : List Int) (hm : xs.length <= 35184372087808) (hc : xs.length <= c) (w : World) (E : EnvS w) (h : Sees w w.heap.size A (ints xs)) :
  Calls Tryz.prog 84 #[styV s.fg s.bg s.at_, .slice A xs.length c] w fun e w' => e = .returned (styV (qs s xs).fg (qs s xs).bg (qs s xs).at_) /\ Below w.heap.size w w' := by
 by_cases z : xs = []
 ·subst z
  go_enter Tryz.func84, Tryz.ntmps84
  go_wp2_with fail
  exact bodyPost_ret (v := styV 0 0 0) (by simp [results, Tryz.results84, go_sem]; rfl) rfl ⟨rfl, by go_grown⟩
 have AL : Hid (qs s xs = runL (zT s) xs) := zdy (by unfold qs; rw [if_neg z]; rfl)
 obtain ⟨ad, rfl, hab, hcell⟩ := h (by simpa [ints] using z)
 have HS : Hid (Sees w w.heap.size (some ad) (ints xs)) := zdy h
 have HCE := zdy hcell
 have HE := zdy E
 obtain ⟨n, hn⟩ : ∃ n, n = xs.length := ⟨_, rfl⟩
 have HN := zdy hn
 rw [<- hn] at hm hc ⊢
 have n0 : 0 < n := by rw [hn]; exact List.length_pos_iff.2 z
 clear h hcell hn z E
 go_enter Tryz.func84, Tryz.ntmps84
 go_wp2_with fail
 refine (XP _ _ _ _).mono ?_; rintro e w1 ⟨rfl, hb1⟩
 have q1 : C3 w1 w.heap.size (.int .i32 s.fg) (.int .i32 s.bg) (.int .u8 (bI s.at_)) := C3.keep (by constructor <;> simp [go_sem]) hb1 (by simp; omega)
 have q2 : C3 w1 (w.heap.size + 1) (.int .i32 0) (.int .i32 0) (.int .u8 0) := C3.keep (by constructor <;> simp [go_sem]) hb1 (by simp)
 have hB1 : Below w.heap.size w w1 := qV (by go_grown) (by simp; omega) hb1
 clear hb1
 have q1' := q1.put (.int .i32 (plC s.fg)) (.int .i32 (plC s.bg)) (.int .u8 (bI s.at_))
 have q2' := ((q2.far (b' := w.heap.size) (o := 0) (y := .int .i32 (plC s.fg)) (by omega)).far (b' := w.heap.size) (o := 1) (y := .int .i32 (plC s.bg)) (by omega)).far (b' := w.heap.size) (o := 2) (y := .int .u8 (bI s.at_)) (by omega)
 have hB1' : Below w.heap.size w (((w1.setCell ⟨w.heap.size, 0, none⟩ (.int .i32 (plC s.fg))).setCell ⟨w.heap.size, 1, none⟩ (.int .i32 (plC s.bg))).setCell ⟨w.heap.size, 2, none⟩ (.int .u8 (bI s.at_))) := ((hB1.setCell zdA _).setCell zdA _).setCell zdA _
 have Q1 := zdy q1'
 have Q2 := zdy q2'
 have HB := zdy hB1'
 obtain ⟨a0, a1, a2, f0, f1, f2⟩ := q1
 clear q2 q1' q2' hB1 hB1'
 go_wp2_with fail
 clear a0 a1 a2 f0 f1 f2
 go_loopw [5] (fun s5 wr => ∃ (k : Nat) (t : Sty), k <= n /\ s5 = .int .i64 k /\ Hid (runL t (xs.drop k) = runL (zT s) xs) /\ Hid (C3 wr w.heap.size (.int .i32 t.fg) (.int .i32 t.bg) (.int .u8 (bI t.at_)) /\ C3 wr (w.heap.size + 1) (.int .i32 0) (.int .i32 0) (.int .u8 0) /\ Below w.heap.size w wr)) (fun s5 _ => n - (intOf s5).toNat)
 case atStart => exact ⟨0, zT s, by omega, rfl, zdy rfl, zdy ⟨Q1.out, Q2.out, HB.out⟩⟩
 case round =>
  obtain ⟨k, t, hk, rfl, ht, hc3⟩ := hrel
  clear Q1 Q2 HB
  by_cases lt : k < n
  ·have kl : k < xs.length := by have := HN.out; omega
   obtain ⟨x, hx⟩ : ∃ x, x = xs[k] := ⟨_, rfl⟩
   have cx : wr.cell? (ad.add k) = some (.int .i64 x) := (hc3.out.2.2.cell (p := ad.add k) (by rw [z8]; exact hab)).trans (HCE.out k _ (by simp [ints, hx, kl]))
   have DR : Hid (xs.drop k = x :: xs.drop (k + 1)) := zdy (by rw [hx]; exact List.drop_eq_getElem_cons kl)
   have SC : Hid (Sees wr wr.heap.size (some (ad.add (k + 1))) (ints (xs.drop (k + 1)))) := zdy (((HS.out.below hc3.out.2.2 zdA).more hc3.out.2.2.size).cut (k + 1))
   have DL : Hid ((xs.drop (k + 1)).length = n - (k + 1)) := zdy (by rw [List.length_drop, HN.out])
   obtain ⟨rest, hrest⟩ : ∃ rest, rest = xs.drop (k + 1) := ⟨_, rfl⟩
   rw [<- hrest] at DR SC DL
   have HR := zdy hrest
   clear hx kl hrest
   go_upto_region 9 with fail
   go_cut [41] from 28 to 41 (fun s41 wx => s41 = .bool (shN x) /\ wx = wr)
   case first =>
    by_cases r1 : x < 40
    ·have e : Hid (shN x = false) := zdy (by unfold shN; exact decide_eq_false (by omega))
     go_wp2_with fail
     go_meet
     exact ⟨by rw [e.out], rfl⟩
    by_cases r2 : x <= 49
    ·have e : Hid (shN x = true) := zdy (by unfold shN; exact decide_eq_true (by omega))
     go_wp2_with fail
     go_meet
     exact ⟨by rw [e.out], rfl⟩
    by_cases r3 : x < 100
    ·have e : Hid (shN x = false) := zdy (by unfold shN; exact decide_eq_false (by omega))
     go_wp2_with fail
     go_meet
     exact ⟨by rw [e.out], rfl⟩
    by_cases r4 : x <= 107
    ·have e : Hid (shN x = true) := zdy (by unfold shN; exact decide_eq_true (by omega))
     go_wp2_with fail
     go_meet
     exact ⟨by rw [e.out], rfl⟩
    ·have e : Hid (shN x = false) := zdy (by unfold shN; exact decide_eq_false (by omega))
     go_wp2_with fail
     go_meet
     exact ⟨by rw [e.out], rfl⟩
   case rest =>
    obtain ⟨rfl, ew⟩ := hcut
    obtain ⟨w2, hw2⟩ : ∃ w2, w2 = wr := ⟨_, rfl⟩
    rw [<- hw2] at ew hc3 cx SC
    clear hw2
    subst ew
    go_upto_if 41 with fail
    go_cut [6, 7] from 41 to 44 (fun s6 s7 wx => s6 = .int .i64 (mN x) /\ s7 = .pointer (some ⟨w.heap.size, (if shN x = true then 1 else 0), none⟩) /\ wx = wc)
    case first =>
     cases hsh : shN x with
     | true =>
      have e : Hid (mN x = x - 10) := zdy (by unfold mN; rw [if_pos hsh])
      have b : 40 <= x /\ x <= 107 := by unfold shN at hsh; rw [decide_eq_true_iff] at hsh; omega
      obtain ⟨b1, b2⟩ := b
      go_wp2_with fail
      go_meet
      exact ⟨by rw [e.out], by simp [hsh], rfl⟩
     | false =>
      have e : Hid (mN x = x) := zdy (by unfold mN; rw [if_neg (by rw [hsh]; decide)])
      go_wp2_with fail
      go_meet
      exact ⟨by rw [e.out], by simp [hsh], rfl⟩
    case rest =>
     obtain ⟨rfl, rfl, ew⟩ := hcut
     rw [<- ew] at hc3 SC
     clear ew cx
     obtain ⟨fo, hfo⟩ : ∃ fo : Nat, fo = if shN x = true then 1 else 0 := ⟨_, rfl⟩
     obtain ⟨m, hmm⟩ : ∃ m, m = mN x := ⟨_, rfl⟩
     rw [<- hfo, <- hmm]
     have HFO := zdy hfo
     have HM := zdy hmm
     clear hfo hmm
     go_upto_block 2 with fail
     go_cut [5, 8, 9] from 45 to 99 (fun s5 s8 s9 wx => ∃ (j : Nat) (t' : Sty), k <= j /\ j + 1 <= n /\ s5 = .int .i64 j /\ Hid (runL { t' with at_ := zX t'.at_ m } (xs.drop (j + 1)) = runL (zT s) xs) /\ Hid (C3 wx w.heap.size (.int .i32 t'.fg) (.int .i32 t'.bg) (.int .u8 (bI t'.at_)) /\ C3 wx (w.heap.size + 1) (.int .i32 0) (.int .i32 0) (.int .u8 0) /\ Below w.heap.size w wx))
     case first =>
      obtain ⟨a0, a1, a2, f0, f1, f2⟩ := hc3.out.1
      have l0 := hc3.out.1.lt
      have ne : w.heap.size + 1 ≠ w.heap.size := by omega
      by_cases z0 : m = 0
      ·have RR : Hid (runL { qI with at_ := zX qI.at_ m } (xs.drop (k + 1)) = runL (zT s) xs) := zdy (by
        have := mN_zero x (HM.out.symm.trans z0)
        rw [z0, <- HR.out, <- za3 t, <- ht.out, DR.out, this])
       have g0 : (m == 0) = true := by rw [z0]; rfl
       clear z0
       go_wp2_with fail
       go_meet
       refine ⟨k, qI, zdA, lt, rfl, RR, zdy ⟨?_, ?_, ?_⟩⟩
       ·exact hc3.out.1.put (.int .i32 0) (.int .i32 0) (.int .u8 0)
       ·exact ((hc3.out.2.1.far ne).far ne).far ne
       ·exact ((hc3.out.2.2.setCell zdA _).setCell zdA _).setCell zdA _
      have g0 : (m == 0) = false := by simpa using z0
      have Z0 := zdy z0
      clear z0
      by_cases z38 : m = 38
      ·obtain ⟨AD, hAD⟩ : ∃ AD, AD = (if c = k + 1 then some ad else some (ad.add (k + 1))) := ⟨_, rfl⟩
       have slr : ∀ W : World, (Instr.slice 127 (.slice (some ad) n c) (some (.int .i64 ((k : Int) + 1))) none none).run Tryz.prog W = .ok (.slice AD (n - (k + 1)) (c - (k + 1))) W := fun W => by
        rw [run_slice_l W 127 (some ad) n c (by kernel_rfl) .i64 ((k : Int) + 1) (by omega) (by omega)]
        have tn : ((k : Int) + 1).toNat = k + 1 := by omega
        rw [tn, hAD]
        have sz : (sizeOf (Tryz.prog.elem 127)).run Tryz.prog W = .ok 1 W := by kernel_rfl
        rw [sz]
        simp only [Result.andThen, sliced, Nat.mul_one, Option.map]
       have SS : Hid (Sees wc wc.heap.size AD (ints rest)) := zdy (by
        rw [hAD]
        split
        ·have : rest = [] := List.eq_nil_of_length_eq_zero (by have := DL.out; omega)
         rw [this]
         exact Sees.nil _ _ _
        ·exact SC.out)
       have HAD := zdy hAD
       clear hAD
       have g38 : (m == 38) = true := by rw [z38]; rfl
       have HM38 : Hid (mN x = 38) := zdy (HM.out.symm.trans z38)
       have ST := zdy (st_rich AD (c - (k + 1)) rest (by have := DL.out; omega) wc SS.out)
       have DLn := DL.out
       have ST : Hid (Calls Tryz.prog 106 #[.slice AD (n - (k + 1)) (c - (k + 1))] wc fun e w' => e = .returned (richV (zK rest)) /\ Below wc.heap.size wc w') := zdy (by have := ST.out; rw [DLn] at this; exact this)
       have Z38 := zdy z38
       clear z38 DLn
       cases hr : zK rest with
       | none =>
        have FIN : Hid (t = runL (zT s) xs) := zdy (by rw [<- ht.out, DR.out, run_poor t x rest HM38.out hr])
        rw [hr] at ST
        have ST := zdy ST.out
        clear hr
        go_wp2_with fail
        refine ST.out.mono ?_; rintro e' w3 ⟨rfl, hb3⟩
        have K0 := zdy (hc3.out.1.keep hb3 l0)
        have K1 := zdy (hc3.out.2.1.keep hb3 hc3.out.2.1.lt)
        have K2 := zdy (qV hc3.out.2.2 hc3.out.2.2.size hb3)
        clear hb3
        obtain ⟨b0, b1, b2, i0, i1, i2⟩ := K0.out
        obtain ⟨d0, d1, d2, j0, j1, j2⟩ := K1.out
        simp only [richV]
        go_wp2_with fail
        refine bodyPost_ret (v := styV (qs s xs).fg (qs s xs).bg (qs s xs).at_) (by rw [AL.out, <- FIN.out]; simp [results, Tryz.results84, go_sem, d0, d1, d2]) rfl ⟨rfl, ?_⟩
        exact ((K2.out.setCell (Nat.le_succ _) _).setCell (Nat.le_succ _) _).setCell (Nat.le_succ _) _
       | some p =>
        obtain ⟨cc, q⟩ := p
        obtain ⟨q1, q2, q3, q4⟩ := rich_len hr
        have FIN : Hid (runL (if shN x = true then { t with bg := cc, at_ := zX t.at_ 38 } else { t with fg := cc, at_ := zX t.at_ 38 }) (xs.drop (k + q + 1)) = runL (zT s) xs) := zdy (by
         rw [<- ht.out, DR.out, run_rich t x rest HM38.out cc q hr, HR.out, List.drop_drop]
         congr 2
         omega)
        have QL : k + q + 1 <= n := by have := DL.out; omega
        have gq : ((q : Int) == 0) = false := by simp; omega
        rw [hr] at ST
        have ST := zdy ST.out
        clear hr q1 q3 q4
        go_wp2_with fail
        refine ST.out.mono ?_; rintro e' w3 ⟨rfl, hb3⟩
        have K0 := zdy (hc3.out.1.keep hb3 l0)
        have K1 := zdy (hc3.out.2.1.keep hb3 hc3.out.2.1.lt)
        have K2 := zdy (qV hc3.out.2.2 hc3.out.2.2.size hb3)
        clear hb3
        obtain ⟨b0, b1, b2, i0, i1, i2⟩ := K0.out
        simp only [richV]
        cases hs : shN x with
        | true =>
         have e1 : fo = 1 := by rw [HFO.out, if_pos hs]
         have FIN2 : Hid (runL { (⟨t.fg, cc, t.at_⟩ : Sty) with at_ := zX t.at_ m } (xs.drop (k + q + 1)) = runL (zT s) xs) := zdy (by have := FIN.out; rw [if_pos hs] at this; rw [Z38.out]; exact this)
         subst e1
         clear hs
         go_wp2_with fail
         go_meet
         exact ⟨k + q, ⟨t.fg, cc, t.at_⟩, by omega, QL, by go_num, FIN2, zdy ⟨K0.out.set1 _, K1.out.far ne, K2.out.setCell zdA _⟩⟩
        | false =>
         have e1 : fo = 0 := by rw [HFO.out, if_neg (by rw [hs]; decide)]
         have FIN2 : Hid (runL { (⟨cc, t.bg, t.at_⟩ : Sty) with at_ := zX t.at_ m } (xs.drop (k + q + 1)) = runL (zT s) xs) := zdy (by have := FIN.out; rw [if_neg (by rw [hs]; decide)] at this; rw [Z38.out]; exact this)
         subst e1
         clear hs
         go_wp2_with fail
         go_meet
         exact ⟨k + q, ⟨cc, t.bg, t.at_⟩, by omega, QL, by go_num, FIN2, zdy ⟨K0.out.set0 _, K1.out.far ne, K2.out.setCell zdA _⟩⟩
      have g38 : (m == 38) = false := by simpa using z38
      have Z38 := zdy z38
      clear z38
      have RF : Hid (shN x = false -> runL { (⟨colN t.fg m, t.bg, t.at_⟩ : Sty) with at_ := zX t.at_ m } (xs.drop (k + 1)) = runL (zT s) xs) := zdy (fun h => by
       rw [<- HR.out, HM.out, <- run_fgN t x rest h (by rw [<- HM.out]; exact Z0.out) (by rw [<- HM.out]; exact Z38.out), <- ht.out, DR.out])
      have RB : Hid (shN x = true -> runL { (⟨t.fg, colN t.bg m, t.at_⟩ : Sty) with at_ := zX t.at_ m } (xs.drop (k + 1)) = runL (zT s) xs) := zdy (fun h => by
       rw [<- HR.out, HM.out, <- run_bgN t x rest h (by rw [<- HM.out]; exact Z38.out), <- ht.out, DR.out])
      have CN : ∀ v : Int, (∀ c, colN c m = v) -> Hid (∀ wx : World, wx = wc.setCell ⟨w.heap.size, fo, none⟩ (.int .i32 v) -> ∃ t' : Sty, Hid (runL { t' with at_ := zX t'.at_ m } (xs.drop (k + 1)) = runL (zT s) xs) /\ Hid (C3 wx w.heap.size (.int .i32 t'.fg) (.int .i32 t'.bg) (.int .u8 (bI t'.at_)) /\ C3 wx (w.heap.size + 1) (.int .i32 0) (.int .i32 0) (.int .u8 0) /\ Below w.heap.size w wx)) := fun v hv => zdy (fun wx hwx => by
       subst hwx
       cases hs : shN x with
       | true =>
        have e1 : fo = 1 := by rw [HFO.out, if_pos hs]
        subst e1
        exact ⟨⟨t.fg, v, t.at_⟩, zdy (by have := RB.out hs; rw [hv] at this; exact this), zdy ⟨hc3.out.1.set1 _, hc3.out.2.1.far ne, hc3.out.2.2.setCell zdA _⟩⟩
       | false =>
        have e1 : fo = 0 := by rw [HFO.out, if_neg (by rw [hs]; decide)]
        subst e1
        exact ⟨⟨v, t.bg, t.at_⟩, zdy (by have := RF.out hs; rw [hv] at this; exact this), zdy ⟨hc3.out.1.set0 _, hc3.out.2.1.far ne, hc3.out.2.2.setCell zdA _⟩⟩)
      have NC : (∀ c, colN c m = c) -> Hid (runL { t with at_ := zX t.at_ m } (xs.drop (k + 1)) = runL (zT s) xs) := fun hv => zdy (by
       cases hs : shN x with
       | true => have := RB.out hs; rw [hv] at this; exact this
       | false => have := RF.out hs; rw [hv] at this; exact this)
      have CN := zdy CN
      have NC := zdy NC
      have fo1 : fo = 0 \/ fo = 1 := by rw [HFO.out]; split <;> simp
      have ff : wc.frozen? ⟨w.heap.size, fo, none⟩ = false := by rcases fo1 with rfl | rfl; exact f0; exact f1
      obtain ⟨cv, cf⟩ : ∃ cv, wc.cell? ⟨w.heap.size, fo, none⟩ = some cv := by rcases fo1 with rfl | rfl; exact ⟨_, a0⟩; exact ⟨_, a1⟩
      clear fo1 RF RB
      by_cases z39 : m = 39
      ·have K := (CN.out 0 (fun c => by unfold colN; rw [if_neg (by omega), if_neg (by omega), if_pos z39])).out _ rfl
       have K := zdy K
       have g39 : (m == 39) = true := by rw [z39]; rfl
       clear z39
       go_wp2_with fail
       go_meet
       obtain ⟨t', k1, k2⟩ := K.out
       exact ⟨k, t', zdA, lt, rfl, k1, k2⟩
      have g39 : (m == 39) = false := by simpa using z39
      have Z39 := zdy z39
      clear z39
      by_cases b1 : m < 30
      ·have K := NC.out (fun c => by unfold colN; rw [if_neg (by omega), if_neg (by omega), if_neg Z39.out])
       go_wp2_with fail
       go_meet
       exact ⟨k, t, zdA, lt, rfl, K, hc3⟩
      by_cases b2 : m <= 37
      ·have K := zdy ((CN.out (256 + (m - 30)) (fun c => by unfold colN; rw [if_pos (by omega)]; omega)).out _ rfl)
       go_wp2_with fail
       go_meet
       obtain ⟨t', k1, k2⟩ := K.out
       exact ⟨k, t', zdA, lt, rfl, k1, k2⟩
      by_cases b3 : m < 90
      ·have K := NC.out (fun c => by unfold colN; rw [if_neg (by omega), if_neg (by omega), if_neg Z39.out])
       go_wp2_with fail
       go_meet
       exact ⟨k, t, zdA, lt, rfl, K, hc3⟩
      by_cases b4 : m <= 97
      ·have K := zdy ((CN.out (256 + (m - 82)) (fun c => by unfold colN; rw [if_neg (by omega), if_pos (by omega)]; omega)).out _ rfl)
       go_wp2_with fail
       go_meet
       obtain ⟨t', k1, k2⟩ := K.out
       exact ⟨k, t', zdA, lt, rfl, k1, k2⟩
      ·have K := NC.out (fun c => by unfold colN; rw [if_neg (by omega), if_neg (by omega), if_neg Z39.out])
       go_wp2_with fail
       go_meet
       exact ⟨k, t, zdA, lt, rfl, K, hc3⟩
     case rest =>
      obtain ⟨j, t', kj, jn, rfl, ht', hc'⟩ := hcut
      clear hc3 HR DR SC DL HM HFO ht
      go_wp2_with fail
      go_loopw [100] (fun s100 wx => ∃ q : Nat, q <= 8 /\ s100 = .int .i64 q /\ Hid (C3 wx w.heap.size (.int .i32 t'.fg) (.int .i32 t'.bg) (.int .u8 (bI (jk m t'.at_ q))) /\ C3 wx (w.heap.size + 1) (.int .i32 0) (.int .i32 0) (.int .u8 0) /\ Below w.heap.size w wx)) (fun s100 _ => 8 - (intOf s100).toNat)
      case atStart => exact ⟨0, by omega, rfl, hc'⟩
      case round =>
       obtain ⟨q, q8, rfl, hq⟩ := hrel
       by_cases lq : q < 8
       ·have EV := HE.out.of_below hq.out.2.2 zdA
        have o1 := EV.on q lq
        have o2 := EV.off q lq
        obtain ⟨a0, a1, a2, f0, f1, f2⟩ := hq.out.1
        have FS : Hid (jk m t'.at_ (q + 1) = (if m = offN q then (if m = onN q then jk m t'.at_ q ||| bitS q else jk m t'.at_ q) &&& ~~~bitS q else (if m = onN q then jk m t'.at_ q ||| bitS q else jk m t'.at_ q))) := zdy rfl
        have DF : onN q ≠ offN q := by
         have hh : ∀ j : Fin 8, onN j.val ≠ offN j.val := by decide
         exact hh ⟨q, lq⟩
        have sh : IntKind.u8.wrap ((2 : Int) ^ q) = bI (bitS q) := by
         have hh : ∀ i : Fin 8, IntKind.u8.wrap ((2 : Int) ^ i.val) = bI (bitS i.val) := by decide
         exact hh ⟨q, lq⟩
        have ne : w.heap.size + 1 ≠ w.heap.size := by omega
        have nz1 : 0 ≠ w.heap.size := by have := block_lt_of_cell (HE.out.on 0 (by decide)); simp only at this; omega
        have nz2 : 1 ≠ w.heap.size := by have := block_lt_of_cell (HE.out.off 0 (by decide)); simp only at this; omega
        obtain ⟨f1', hf1⟩ : ∃ f1', f1' = jk m t'.at_ (q + 1) := ⟨_, rfl⟩
        rw [<- hf1] at FS
        have HF1 := zdy hf1
        clear hf1
        generalize onN q = on at *
        generalize offN q = of at *
        generalize bitS q = T at *
        obtain ⟨f0', hf0⟩ : ∃ f0', f0' = jk m t'.at_ q := ⟨_, rfl⟩
        rw [<- hf0] at FS hq a2
        clear hf0
        by_cases e1 : m = on
        ·have g1 : (m == on) = true := by simpa using e1
         have g2 : (m == of) = false := by rw [e1]; simpa using DF
         have F1 : Hid (f1' = f0' ||| T) := zdy (by rw [FS.out, if_neg (by rw [e1]; exact DF), if_pos e1])
         clear e1 DF
         go_upto_region 30 with fail
         refine qk 6 (by kernel_rfl) (by kernel_rfl) ?_
         simp only [zdB, zdC, zdD, zdE]
         repeat (quiet_step (fail))
         refine wpQuiet_nil ?_
         intro _ hw'
         obtain ⟨nq, hw''⟩ := hw'
         subst hw''
         go_wp2_with fail
         go_roundw
         case rel =>
          first
           | exact ⟨q + 1, by omega, by go_num, zdy (by rw [<- HF1.out, F1.out]; exact ⟨(hq.out.1.draw nq).set2 _, (hq.out.2.1.draw nq).far ne, (below_drewN hq.out.2.2 nq).setCell zdA _⟩)⟩
           | ((repeat apply Exists.intro); exact ⟨⟨q + 1, by omega, by go_num, zdy (by rw [<- HF1.out, F1.out]; exact ⟨(hq.out.1.draw nq).set2 _, (hq.out.2.1.draw nq).far ne, (below_drewN hq.out.2.2 nq).setCell zdA _⟩)⟩, rfl⟩)
         case measure => simp [intOf]; omega
        by_cases e2 : m = of
        ·have g1 : (m == on) = false := by simpa using e1
         have g2 : (m == of) = true := by simpa using e2
         have F1 : Hid (f1' = f0' &&& ~~~T) := zdy (by rw [FS.out, if_pos e2, if_neg e1])
         clear e1 e2 DF
         go_upto_region 32 with fail
         refine qk 6 (by kernel_rfl) (by kernel_rfl) ?_
         simp only [zdB, zdC, zdD, zdE]
         repeat (quiet_step (fail))
         refine wpQuiet_nil ?_
         intro _ hw'
         obtain ⟨nq, hw''⟩ := hw'
         subst hw''
         go_wp2_with fail
         go_roundw
         case rel =>
          first
           | exact ⟨q + 1, by omega, by go_num, zdy (by rw [<- HF1.out, F1.out]; exact ⟨(hq.out.1.draw nq).set2 _, (hq.out.2.1.draw nq).far ne, (below_drewN hq.out.2.2 nq).setCell zdA _⟩)⟩
           | ((repeat apply Exists.intro); exact ⟨⟨q + 1, by omega, by go_num, zdy (by rw [<- HF1.out, F1.out]; exact ⟨(hq.out.1.draw nq).set2 _, (hq.out.2.1.draw nq).far ne, (below_drewN hq.out.2.2 nq).setCell zdA _⟩)⟩, rfl⟩)
         case measure => simp [intOf]; omega
        ·have g1 : (m == on) = false := by simpa using e1
         have g2 : (m == of) = false := by simpa using e2
         have F1 : Hid (f1' = f0') := zdy (by rw [FS.out, if_neg e2, if_neg e1])
         clear e1 e2 DF
         go_wp2_with fail
         go_roundw
         case rel =>
          first
           | exact ⟨q + 1, by omega, by go_num, zdy (by rw [<- HF1.out, F1.out]; exact hq.out)⟩
           | ((repeat apply Exists.intro); exact ⟨⟨q + 1, by omega, by go_num, zdy (by rw [<- HF1.out, F1.out]; exact hq.out)⟩, rfl⟩)
         case measure => simp [intOf]; omega
       ·have eq8 : q = 8 := by omega
        subst eq8
        rw [za2] at hq
        go_wp2_with fail
        go_roundw
        case rel => first | exact ⟨j + 1, { t' with at_ := zX t'.at_ m }, jn, by go_num, ht', hq⟩ | ((repeat apply Exists.intro); exact ⟨⟨j + 1, { t' with at_ := zX t'.at_ m }, jn, by go_num, ht', hq⟩, rfl⟩)
        case measure => simp [intOf]; omega
  ·have ek : k = n := by omega
   subst ek
   have TT : Hid (t = qs s xs) := zdy (by rw [AL.out, <- ht.out, HN.out, List.drop_length]; rfl)
   obtain ⟨h1, h2, h3⟩ := hc3.out
   have H3 := zdy h3
   obtain ⟨a0, a1, a2, f0, f1, f2⟩ := h1
   obtain ⟨b0, b1, b2, g0, g1, g2⟩ := h2
   clear h3
   go_wp2_with fail
   refine bodyPost_ret (v := styV (qs s xs).fg (qs s xs).bg (qs s xs).at_) (by rw [<- TT.out]; simp [results, Tryz.results84, go_sem, b0, b1, b2]) rfl ⟨rfl, ?_⟩
   exact ((H3.out.setCell (Nat.le_succ _) _).setCell (Nat.le_succ _) _).setCell (Nat.le_succ _) _
end
end Go.Proofs.YtmaofighbpnbiaaGreatDoor
