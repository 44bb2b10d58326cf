/- What lies below tapes (kept of earlier texts: RaU, RaW, RbA, RbB, RbC, DhW, DhB, DhO, DhN, RaY, RbE, DhL, RaZ). -/
import Derived.Test.YtifoijbpbigaaaaGreatDoorDaFH
import Derived.Maps.AppendAt
import Derived.Test.YtifoijbpbigaaaaGreatDoorRows
import Derived.ProofKit
import Derived.LaidMore
import Derived.OpenShut
import Derived.MakeChecks
import Derived.Lib.LaidTab
import Derived.Stop.LaidErr
import Derived.Stop.Joined
import Derived.ShutString
import Derived.ChangeOld
import Derived.Below
import Derived.Lib.SmallJoins
import Derived.Deep.Strs
import Derived.Deep.Fields
import Derived.SizedLaws
set_option linter.unusedVariables false
set_option linter.unusedSimpArgs false
namespace Go.Proofs.YtifoijbpbigaaaaGreatDoor
section
open Go Go.RowKit Go.Sort
section
def jH (s : Scr) : List Cel := s.cells ++ [bhC, biC]
theorem full_at (s : Scr) : (zc (jH s))[s.cells.length * 5]? = some (.string bhC.text) /\ (zc (jH s))[(s.cells.length + 1) * 5]? = some (.string biC.text) := by
 unfold jH
 rw [xq]
 constructor
 ·rw [List.getElem?_append_right (by rw [jo]; exact Vf), jo, Nat.sub_self]
  rfl
 ·rw [List.getElem?_append_right (by rw [jo]; omega), jo, show (s.cells.length + 1) * 5 - s.cells.length * 5 = 5 by omega]
  rfl
set_option maxHeartbeats 16000000 in
set_option maxRecDepth 100000 in
theorem Kb (s : Scr) (g c c2 : Nat) (A2 : Option Addr) (hl : s.cells.length <= 1000000000) (hc : s.cells.length + 2 <= c) (w : World) (SF : Sees w w.heap.size (some ⟨g, 0, none⟩) (zc (jH s))) (S : Sees w w.heap.size A2 (zc s.cells)) :
  Calls Tryz.prog 11 #[.slice (some ⟨g, 0, none⟩) (s.cells.length + 2) c, scrV s A2 c2] w fun e w' => e = .returned (.bool true) /\ Below w.heap.size w w' := by
 obtain ⟨Q, hQ⟩ : ∃ Q, Q = w.alloc (.cells #[.int .i64 s.w, .int .i64 s.h, .slice A2 s.cells.length c2, .int .i64 s.x, .int .i64 s.y, .bool s.shown] 24) := ⟨_, rfl⟩
 have BQ : Below w.heap.size w Q := by rw [hQ]; exact (Below.refl _ w).alloc Vf _
 have KQ : Blk Q w.heap.size [.int .i64 s.w, .int .i64 s.h, .slice A2 s.cells.length c2, .int .i64 s.x, .int .i64 s.y, .bool s.shown] := by rw [hQ]; exact Blk.new w _ _
 have fl := full_at s
 have SFQ := (SF.below BQ Vf).more BQ.size
 have SQ := (S.below BQ Vf).more BQ.size
 obtain ⟨ad, e0, gb, hc0⟩ := SFQ (fun z => by have := fl.1; rw [z] at this; simp at this)
 cases e0
 have fr : ∀ d os j u, (zc (jH s))[j]? = some u -> (grow (redrawn Q d) os).cell? ⟨g, j, none⟩ = some u := fun d os j u hj => by
  have q := hc0 j u hj
  have e : ((⟨g, 0, none⟩ : Addr).add j) = ⟨g, j, none⟩ := by
   unfold Addr.add
   split
   ·rename_i z; rw [z]
   ·simp
  rw [e] at q
  exact ((below_regrown Q d os).cell (p := ⟨g, j, none⟩) gb).trans q
 have x0 : ∀ d os, (grow (redrawn Q d) os).cell? ⟨g, s.cells.length * 5, none⟩ = some (.string ⟨#[98, 101, 104, 105, 110, 100]⟩) := fun d os => fr d os _ _ fl.1
 have x1 : ∀ d os, (grow (redrawn Q d) os).cell? ⟨g, (s.cells.length + 1) * 5, none⟩ = some (.string ⟨#[98, 101, 104, 105, 110, 100, 32, 105, 116]⟩) := fun d os => fr d os _ _ fl.2
 have SC := Vd (fun d os => show Calls Tryz.prog 25 #[.slice (some ⟨g, 0, none⟩) s.cells.length c, .slice A2 s.cells.length c2] (grow (redrawn Q d) os) fun e w' => e = .returned (.bool true) /\ qc (grow (redrawn Q d) os) w' from by
  have SA : Sees Q Q.heap.size (some ⟨g, 0, none⟩) (zc s.cells) := by
   have t := Sees.takeV (s.cells.length * 5) SFQ
   rw [<- ky] at t
   unfold jH at t
   rw [List.take_left] at t
   exact t
  have q := X4 (some ⟨g, 0, none⟩) A2 c c2 s.cells s.cells (by omega) (by omega) (grow (redrawn Q d) os) ((SA.below (below_regrown Q d os) Vf).more (below_regrown Q d os).size) ((SQ.below (below_regrown Q d os) Vf).more (below_regrown Q d os).size)
  rw [decide_eq_true (show s.cells = s.cells from rfl)] at q
  exact jB q)
 have HQ := Vd hQ
 have HB := Vd BQ
 have HK := Vd KQ
 simp only [scrV]
 generalize s.cells.length = n at *
 have kr := fun d os => (HK.out.regrown d os).c 2 _ rfl
 have k2 := HK.out.c 2 _ rfl
 have p0 : (0 : Int) <= (n : Int) := by omega
 have p1 : (n : Int) <= (c : Int) := by omega
 have p2 : (n : Int).toNat = n := by omega
 obtain ⟨m, hm⟩ : ∃ m, m = n + 2 := ⟨_, rfl⟩
 have p3 : (n : Int) < (m : Int) := by omega
 have p4 := Ve ((n : Int) + 1) (by omega)
 have p5 : (n : Int) + 1 < (m : Int) := by omega
 rw [<- hm]
 have p6 : ((n : Int) + 1).toNat = n + 1 := by omega
 have p7 : (0 : Int) <= (n : Int) + 1 := by omega
 clear hQ BQ KQ SF S SFQ SQ fl fr hc0 hm
 go_enter Tryz.func11, Tryz.ntmps11
 go_upto_region 1 with fail
 rw [<- HQ.out]
 clear HQ
 go_upto_region 2 with fail
 refine zn 22 [] [] (by kernel_rfl) (by kernel_rfl) (by kernel_rfl) (by intro t ht; cases ht) ?_
 simp only [Vg, Vh, Vi, Vj]
 repeat (refine ze (by rfl) (fun K hK => ?_); go_simp; first | (refine hK _ ?_; clear hK K) | (apply Exists.intro; refine ⟨fun _ => ?_, hK _ ?_⟩; (with_reducible exact SC.out _ _); clear hK K))
 refine zm ?_
 intro W5 vs5 hl5 hv5
 have B5 := Vd (HB.out.trans ((zk.1 hl5).mono HB.out.size))
 clear hl5 hv5
 simp only [zd]
 go_wp2_with fail
 go_ret
 exact ⟨rfl, B5.out⟩
end
end
section
open Go Go.RowKit Go.Sort
section
theorem Kc {K L : List Cel} {i : Nat} (hl : K.length = L.length) (hi : i < L.length) (hr : rowR (L.drop i) = true) :
  ((L[i]).wide = 2 /\ ∃ h : i + 1 < L.length, zg i (K.drop i) (L.drop i) = (if K[i]'(by omega) = L[i] /\ K[i + 1]'(by omega) = L[i + 1] then [] else [(i, 2)]) ++ zg (i + 2) (K.drop (i + 2)) (L.drop (i + 2)) /\ rowR (L.drop (i + 2)) = true) \/
  ((L[i]).wide = 1 /\ zg i (K.drop i) (L.drop i) = (if K[i]'(by omega) = L[i] then [] else [(i, 1)]) ++ zg (i + 1) (K.drop (i + 1)) (L.drop (i + 1)) /\ rowR (L.drop (i + 1)) = true) := by
 rw [List.drop_eq_getElem_cons hi] at hr
 rcases vj hr with ⟨e, b, r, eb, _, hr2⟩ | ⟨e, hr2⟩
 ·have h2 : i + 1 < L.length := by
   have := congrArg List.length eb
   rw [List.length_drop, List.length_cons] at this
   omega
  rw [List.drop_eq_getElem_cons h2] at eb
  injection eb with eb1 eb2
  refine Or.inl ⟨e, h2, ?_, by rw [show i + 2 = i + 1 + 1 from rfl, eb2]; exact hr2⟩
  rw [List.drop_eq_getElem_cons hi, List.drop_eq_getElem_cons h2, List.drop_eq_getElem_cons (show i < K.length by omega), List.drop_eq_getElem_cons (show i + 1 < K.length by omega)]
  exact xh i _ _ _ _ _ _ e
 ·refine Or.inr ⟨e, ?_, hr2⟩
  rw [List.drop_eq_getElem_cons hi, List.drop_eq_getElem_cons (show i < K.length by omega)]
  exact xi i _ _ _ _ (by rw [e]; decide) (by rw [List.length_drop, List.length_drop, hl])
end
end
section
open Go Go.RowKit Go.Sort
section
theorem Q9 {w : World} {LO sz g n c : Nat} {T : TypeId} {xs : List Value} (h : w.ownsRow LO T sz (.slice (some ⟨g, 0, none⟩) n c) n xs) : LO <= g /\ g < w.heap.size := by
 rcases h.2 with ⟨z, _⟩ | ⟨g', cap, cur, z, hb, hg, hn, _⟩
 ·cases z
 ·injection z with z1 z2 z3
  injection z1 with z1
  injection z1 with z1
  subst z1
  exact ⟨hb, (Array.getElem?_eq_some_iff.1 hg).1⟩
theorem xU {w : World} {LO sz n : Nat} {T : TypeId} {v : Value} {xs : List Value} (h : w.ownsRow LO T sz v n xs) (ne : v ≠ .slice none 0 0) : ∃ g c, v = .slice (some ⟨g, 0, none⟩) n c := by
 rcases h.2 with ⟨z, _⟩ | ⟨g, c, cur, z, _⟩
 ·exact absurd z ne
 ·exact ⟨g, c, z⟩
end
end
section
open Go Go.RowKit Go.Sort
section
theorem Kd {P : Program} (w : World) (base : Nat) (t ty e : TypeId) (i : TypeInfo) (z : Value) (size bytes : Nat) (ht : P.underlying t = some (.slice e)) (hi : P.info? e = some i) (hz : i.zero = some z)
  (hsize : i.size = size) (hby : i.bytes = bytes) (hzs : z.cells.size = size) (hsz : 0 < size)
  (v : Value) (n : Nat) (xs : List Value) (hown : w.ownsRow base e size v n xs)
  (a : Addr) (m c : Nat) (news : List Value) (hl : news.length = m * size) (hnews : ∀ j u, news[j]? = some u -> w.cell? (a.add j) = some u) (h1 : ∀ u ∈ news, u.oneCell' = true)
  (h63 : n + m <= maxLen) (hbytes : (n + m) * bytes <= 140737488355328) (hbase : base <= w.heap.size) :
  ∃ v' w', (Builtin.append_ #[t, t] ty #[v, .slice (some a) m c]).run P w = .ok v' w' /\ w'.ownsRow base e size v' (n + m) (xs ++ news) /\
   ((v'.ownBlock = v.ownBlock /\ w.grownBy w' v.ownBlock) \/ (v'.ownBlock = some w.heap.size /\ w.grownBy w' none)) := by
 obtain ⟨v', w', hr, ho, hg, hn, hd⟩ := run_append_own_at (P := P) w base t ty e i z size bytes ht hi hz hsize hby hzs hsz v n xs hown a m c news hl hnews h1 h63 hbytes hbase
 refine ⟨v', w', hr, ho, ?_⟩
 rcases hown.2 with ⟨q, _⟩ | ⟨g, cap, cur, q, hbg, hgg, hnc, hcm, hcs, ht'⟩
 ·have eb : v.ownBlock = none := by rw [q]; rfl
  rw [eb] at hg hd ⊢
  rcases hd with d | d
  ·exact Or.inl ⟨d, hg⟩
  ·exact Or.inr ⟨d, hg⟩
 ·by_cases room : n + m <= cap
  ·subst q
   obtain ⟨w2, hr2, _, _⟩ := run_append_fits (P := P) w base t ty e i size ht hi hsize g n cap xs hown a m c news hl hnews h1 room
   rw [hr] at hr2
   injection hr2 with e1 e2
   exact Or.inl ⟨by rw [e1]; rfl, hg⟩
  ·subst q
   subst hsize
   have holds : ∀ j u, xs[j]? = some u -> w.cell? ((⟨g, 0, none⟩ : Addr).add j) = some u := hown.cells (g := g) rfl
   have hm : n + m <= 9223372036854775807 := by simp only [maxLen] at h63; omega
   have hr2 := run_append_grow (P := P) w t ty e i z ht hi hz ⟨g, 0, none⟩ n cap xs hown.1 holds a m c news hl hnews (by omega) (by omega) (growslice_fits (by omega) (by rw [hby]; exact hbytes))
   rw [hr] at hr2
   injection hr2 with e1 e2
   exact Or.inr ⟨by rw [e1]; rfl, by rw [e2]; exact ⟨rfl, rfl, rfl, by simp, fun k hk _ => heap_alloc_old w.drew _ hk⟩⟩
def Rep (x : List Value) (n : Nat) : List Value := (List.replicate n x).flatten
theorem Rep_zero (x : List Value) : Rep x 0 = [] := rfl
theorem vR (x : List Value) (n : Nat) : Rep x (n + 1) = Rep x n ++ x := by unfold Rep; rw [List.replicate_succ']; simp
theorem xy (x : List Value) (n : Nat) : (Rep x n).length = n * x.length := by unfold Rep; simp
theorem vS (x : List Value) (n k q : Nat) (hk : k < n) (hq : q < x.length) : (Rep x n)[k * x.length + q]? = x[q]? := by
 induction n with
 | zero => omega
 | succ n ih =>
  rw [vR]
  by_cases lt : k < n
  ·have : k * x.length + q < (Rep x n).length := by
    rw [xy]
    have := Nat.mul_le_mul_right x.length (show k + 1 <= n from lt)
    rw [Nat.add_mul] at this
    omega
   rw [List.getElem?_append_left this]
   exact ih lt
  ·have e : k = n := by omega
   subst e
   rw [List.getElem?_append_right (by rw [xy]; omega), xy]
   congr 1
   omega
structure Rv where
 A : Option Addr
 n : Nat
 c : Nat
def Rv.v (r : Rv) : Value := .slice r.A r.n r.c
def SeesT (w : World) (T : TypeId) (A : Option Addr) (xs : List Value) : Prop := xs ≠ [] -> ∃ g cur, A = some ⟨g, 0, none⟩ /\ w.heap[g]? = some (.cells cur T (0, 0)) /\ cur.toList.take xs.length = xs
theorem SeesT.of_own {w : World} {LO sz n c : Nat} {T : TypeId} {A : Option Addr} {xs : List Value} (h : w.ownsRow LO T sz (.slice A n c) n xs) : SeesT w T A xs := fun ne => by
 rcases h.2 with ⟨z, n0⟩ | ⟨g, cap, cur, z, hb, hg, hn, hcm, hcs, ht⟩
 ·have := h.1
  rw [n0, Nat.zero_mul] at this
  exact absurd (List.eq_nil_of_length_eq_zero this) ne
 ·injection z with z1 z2 z3
  exact ⟨g, cur, z1, hg, by rw [h.1]; exact ht⟩
theorem SeesT.pre {w : World} {T : TypeId} {A : Option Addr} {xs ys : List Value} (h : SeesT w T A (xs ++ ys)) : SeesT w T A xs := fun ne => by
 obtain ⟨g, cur, e, hg, ht⟩ := h (by simp [ne])
 refine ⟨g, cur, e, hg, ?_⟩
 have := congrArg (List.take xs.length) ht
 rw [List.take_left, List.take_take, List.length_append, Nat.min_eq_left (by omega)] at this
 exact this
theorem SeesT.keep {w w' : World} {T : TypeId} {A : Option Addr} {xs : List Value} (h : SeesT w T A xs) (k : ∀ g cur, A = some ⟨g, 0, none⟩ -> w.heap[g]? = some (.cells cur T (0, 0)) -> w'.heap[g]? = w.heap[g]?) : SeesT w' T A xs := fun ne => by
 obtain ⟨g, cur, e, hg, ht⟩ := h ne
 exact ⟨g, cur, e, (k g cur e hg).trans hg, ht⟩
theorem SeesT.sees {w : World} {T : TypeId} {A : Option Addr} {xs : List Value} (h : SeesT w T A xs) : Sees w w.heap.size A xs := fun ne => by
 obtain ⟨g, cur, e, hg, ht⟩ := h ne
 refine ⟨_, e, (Array.getElem?_eq_some_iff.1 hg).1, fun j u hj => ?_⟩
 have : (⟨g, 0, none⟩ : Addr).add j = ⟨g, j, none⟩ := by
  cases j with
  | zero => rfl
  | succ j => show (⟨g, 0 + (j + 1), none⟩ : Addr) = _; rw [Nat.zero_add]
 rw [this, cell_of_row w g j cur T (0, 0) hg]
 have lt : j < xs.length := by
  by_cases c : j < xs.length
  ·exact c
  ·rw [List.getElem?_eq_none (by omega)] at hj; cases hj
 have e2 : (cur.toList.take xs.length)[j]? = xs[j]? := by rw [ht]
 rw [List.getElem?_take, if_pos lt, hj] at e2
 simpa using e2
theorem qE {w : World} {g : Nat} {o : Obj} (h : w.heap[g]? = some o) : g < w.heap.size := (Array.getElem?_eq_some_iff.1 h).1
theorem xV {w : World} {LO sz n : Nat} {T : TypeId} {v : Value} {xs : List Value} (h : w.ownsRow LO T sz v n xs) {g : Nat} (e : v.ownBlock = some g) : ∃ cur, w.heap[g]? = some (.cells cur T (0, 0)) := by
 rcases h.2 with ⟨z, n0⟩ | ⟨g', cap, cur, z, hb, hg, _⟩
 ·rw [z] at e; cases e
 ·rw [z] at e
  injection e with e
  have e : g' = g := e
  subst e
  exact ⟨cur, hg⟩
theorem zO {w w' : World} {LO sz n : Nat} {T : TypeId} {v : Value} {xs : List Value} (h : w.ownsRow LO T sz v n xs) (k : ∀ g, v.ownBlock = some g -> w'.heap[g]? = w.heap[g]?) : w'.ownsRow LO T sz v n xs := by
 refine ⟨h.1, ?_⟩
 rcases h.2 with a | ⟨g, cap, cur, rfl, h2, h3, h4⟩
 ·exact Or.inl a
 ·exact Or.inr ⟨g, cap, cur, rfl, h2, (k g rfl).trans h3, h4⟩
def Apart (S : List Rv) : Prop := ∀ j l (hj : j < S.length) (hl : l < S.length), j ≠ l -> ∀ g, S[j].v.ownBlock = some g -> S[l].v.ownBlock ≠ some g
structure Mrk (W0 : World) (LO : Nat) (T T2 : TypeId) (sz : Nat) (mk : Nat -> List Value) (Al : Option Addr) (S : List Rv) (i k : Nat) (w : World) : Prop where
 rows : ∀ j (h : j < S.length), ∃ xs, w.ownsRow LO T sz S[j].v S[j].n xs /\ (j < i -> xs = Rep (mk j) S[j].n) /\ (j = i -> xs.take (k * sz) = Rep (mk i) k)
 apart : Apart S
 out : SeesT w T2 Al (S.map Rv.v)
 ne : T ≠ T2
 bel : Below LO W0 w
 lo : LO <= W0.heap.size
 kp : ∀ b, b < W0.heap.size -> (∀ j (h : j < S.length), S[j].v.ownBlock ≠ some b) -> w.heap[b]? = W0.heap[b]?
theorem Mrk.put {W0 : World} {LO sz i k : Nat} {T T2 : TypeId} {mk : Nat -> List Value} {Al : Option Addr} {S : List Rv} {w w' : World} (h : Mrk W0 LO T T2 sz mk Al S i k w) (hi : i < S.length) {g : Nat} (hg : S[i].v.ownBlock = some g) (gr : w.grownBy w' (some g)) {xs' : List Value} (o : w'.ownsRow LO T sz S[i].v S[i].n xs') (e : xs'.take ((k + 1) * sz) = Rep (mk i) (k + 1)) : Mrk W0 LO T T2 sz mk Al S i (k + 1) w' := by
 refine ⟨fun j hj => ?_, h.apart, h.out.keep (fun g' cur a b => ?_), h.ne, h.bel.grown gr (Nat.le_trans h.lo h.bel.size) (fun k e => by injection e with e; subst e; exact (o.lt _ hg).1), h.lo, fun b hb no => (gr.block b (Nat.lt_of_lt_of_le hb h.bel.size) (fun z => by injection z with z; subst z; exact no i hi hg)).trans (h.kp b hb no)⟩
 ·by_cases c : j = i
  ·subst c
   exact ⟨xs', o, fun z => by omega, fun _ => e⟩
  ·obtain ⟨xs, o1, r1, r2⟩ := h.rows j hj
   exact ⟨xs, o1.kept gr (Or.inr (fun z => h.apart j i hj hi c g z hg)), r1, fun z => absurd z c⟩
 ·refine gr.block g' (qE b) (fun z => ?_)
  injection z with z
  subst z
  obtain ⟨xs, o1, _⟩ := h.rows i hi
  obtain ⟨cur2, b2⟩ := xV o1 hg
  rw [b] at b2
  injection b2 with b2
  injection b2 with _ b2
  exact h.ne b2.symm
theorem Mrk.next {W0 : World} {LO sz i : Nat} {T T2 : TypeId} {mk : Nat -> List Value} {Al : Option Addr} {S : List Rv} {w : World} {n : Nat} (h : Mrk W0 LO T T2 sz mk Al S i n w) (hi : i < S.length) (hn : n = S[i].n) : Mrk W0 LO T T2 sz mk Al S (i + 1) 0 w := by
 refine ⟨fun j hj => ?_, h.apart, h.out, h.ne, h.bel, h.lo, h.kp⟩
 obtain ⟨xs, o1, r1, r2⟩ := h.rows j hj
 refine ⟨xs, o1, fun z => ?_, fun z => by rw [Nat.zero_mul]; rfl⟩
 by_cases c : j = i
 ·subst c
  have := r2 rfl
  rw [hn, List.take_of_length_le (by rw [o1.1]; exact Vf)] at this
  exact this
 ·exact r1 (by omega)
structure Grw (W0 : World) (LO : Nat) (T T2 : TypeId) (sz : Nat) (mk mk2 : Nat -> List Value) (Al : Option Addr) (S : List Rv) (H0 : Nat) (M : List Rv) (mv : Value) (w : World) : Prop where
 rest : ∀ j (h : j < S.length), M.length <= j -> w.ownsRow LO T sz S[j].v S[j].n (Rep (mk j) S[j].n)
 old : ∀ j (h : j < S.length), j < M.length -> SeesT w T S[j].A (Rep (mk j) S[j].n)
 new : ∀ j (h : j < S.length) (hm : j < M.length), M[j].n = S[j].n + 70 /\ SeesT w T M[j].A (Rep (mk j) S[j].n ++ Rep (mk2 j) 70)
 ap : ∀ j (h : j < S.length) (hm : j < M.length) g, M[j].v.ownBlock = some g -> H0 <= g \/ S[j].v.ownBlock = some g
 apart : Apart S
 lowS : ∀ j (h : j < S.length) g, S[j].v.ownBlock = some g -> g < H0
 len : M.length <= S.length
 out : SeesT w T2 Al (S.map Rv.v)
 lowA : ∀ a, Al = some a -> a.block < H0
 ne : T ≠ T2
 mo : w.ownsRow H0 T2 1 mv M.length (M.map Rv.v)
 bel : Below LO W0 w
 lo : LO <= W0.heap.size
 hi : H0 <= w.heap.size
 lh : LO <= H0
 kp : ∀ b, b < W0.heap.size -> (∀ j (h : j < S.length), S[j].v.ownBlock ≠ some b) -> w.heap[b]? = W0.heap[b]?
 wh : W0.heap.size <= H0
theorem Grw.start {W0 : World} {LO sz i : Nat} {T T2 : TypeId} {mk mk2 : Nat -> List Value} {Al : Option Addr} {S : List Rv} {w : World} (h : Mrk W0 LO T T2 sz mk Al S S.length 0 w) (H0 : Nat) (ls : ∀ j (h : j < S.length) g, S[j].v.ownBlock = some g -> g < H0) (la : ∀ a, Al = some a -> a.block < H0) (hi : H0 <= w.heap.size) (lh : LO <= H0) (wh : W0.heap.size <= H0) : Grw W0 LO T T2 sz mk mk2 Al S H0 [] (.slice none 0 0) w := by
 refine ⟨fun j hj _ => ?_, fun j hj z => (by cases z), fun j hj z => (by cases z), fun j hj z => (by cases z), h.apart, ls, Nat.zero_le _, h.out, la, h.ne, World.ownsRow_nil _ _ _ _, h.bel, h.lo, hi, lh, h.kp, wh⟩
 obtain ⟨xs, o1, r1, _⟩ := h.rows j hj
 rw [r1 hj] at o1
 exact o1
structure Inn (W0 : World) (LO : Nat) (T : TypeId) (sz : Nat) (x y : List Value) (r : Rv) (WS : World) (q : Nat) (A : Option Addr) (c : Nat) (w : World) : Prop where
 same : ∀ b, b < WS.heap.size -> r.v.ownBlock ≠ some b -> w.heap[b]? = WS.heap[b]?
 size : WS.heap.size <= w.heap.size
 bel : Below LO W0 w
 lo : LO <= W0.heap.size
 cur : w.ownsRow LO T sz (.slice A (r.n + q) c) (r.n + q) (Rep x r.n ++ Rep y q)
 old : SeesT w T r.A (Rep x r.n)
 blk : ∀ g, (Value.slice A (r.n + q) c).ownBlock = some g -> r.v.ownBlock = some g \/ WS.heap.size <= g
theorem Inn.start {W0 : World} {LO sz : Nat} {T T2 : TypeId} {mk mk2 : Nat -> List Value} {Al : Option Addr} {S : List Rv} {H0 : Nat} {M : List Rv} {mv : Value} {w : World} (h : Grw W0 LO T T2 sz mk mk2 Al S H0 M mv w) (hi : M.length < S.length) : Inn W0 LO T sz (mk M.length) (mk2 M.length) S[M.length] w 0 S[M.length].A S[M.length].c w := by
 have o := h.rest M.length hi Vf
 refine ⟨fun b _ _ => rfl, Vf, h.bel, h.lo, ?_, SeesT.of_own o, fun g e => Or.inl e⟩
 rw [Rep_zero, List.append_nil]
 exact o
theorem Ke {w : World} {LO sz n c : Nat} {T : TypeId} {A : Option Addr} {xs : List Value} (h : w.ownsRow LO T sz (.slice A n c) n xs) {g : Nat} (e : (Value.slice A n c).ownBlock = some g) : A = some ⟨g, 0, none⟩ := by
 rcases h.2 with ⟨z, n0⟩ | ⟨g', cap, cur, z, hb, hg, _⟩
 ·injection z with z1; rw [z1] at e; cases e
 ·injection z with z1
  rw [z1] at e
  injection e with e
  have e : g' = g := e
  rw [z1, e]
theorem Inn.app {W0 : World} {LO sz : Nat} {T : TypeId} {x y : List Value} {r : Rv} {WS : World} {q : Nat} {A : Option Addr} {c : Nat} {w w1 w3 : World} (h : Inn W0 LO T sz x y r WS q A c w) (bu : Below w.heap.size w w1) {A' : Option Addr} {c' : Nat} (o : w3.ownsRow LO T sz (.slice A' (r.n + q + 1) c') (r.n + q + 1) ((Rep x r.n ++ Rep y q) ++ y))
  (d : ((Value.slice A' (r.n + q + 1) c').ownBlock = (Value.slice A (r.n + q) c).ownBlock /\ w1.grownBy w3 (Value.slice A (r.n + q) c).ownBlock) \/ ((Value.slice A' (r.n + q + 1) c').ownBlock = some w1.heap.size /\ w1.grownBy w3 none)) : Inn W0 LO T sz x y r WS (q + 1) A' c' w3 := by
 have L1 : LO <= w.heap.size := Nat.le_trans h.lo h.bel.size
 have B1 : Below LO W0 w1 := h.bel.trans (bu.mono L1)
 have o' : w3.ownsRow LO T sz (.slice A' (r.n + (q + 1)) c') (r.n + (q + 1)) (Rep x r.n ++ Rep y (q + 1)) := by
  rw [vR, <- List.append_assoc]; exact o
 rcases d with ⟨d1, d2⟩ | ⟨d1, d2⟩
 ·refine ⟨fun b hb nb => ?_, Nat.le_trans h.size (Nat.le_trans bu.size d2.size), B1.grown d2 (Nat.le_trans L1 bu.size) (fun k e => (h.cur.lt k e).1), h.lo, o', fun ne => ?_, fun g e => h.blk g (d1.symm.trans e)⟩
  ·have lb : b < w.heap.size := Nat.lt_of_lt_of_le hb h.size
   refine (d2.block b (Nat.lt_of_lt_of_le lb bu.size) (fun z => ?_)).trans ((bu.block b lb).trans (h.same b hb nb))
   rcases h.blk b z.symm with q | q
   ·exact nb q
   ·omega
  ·obtain ⟨g, cur, e, hg, ht⟩ := h.old ne
   by_cases z : (Value.slice A (r.n + q) c).ownBlock = some g
   ·have e2 := Ke o (d1.trans z)
    have := (SeesT.of_own o').pre ne
    rw [e2] at this
    rw [e]
    exact this
   ·have lb := qE hg
    exact ⟨g, cur, e, ((d2.block g (Nat.lt_of_lt_of_le lb bu.size) (fun q => z q.symm)).trans (bu.block g lb)).trans hg, ht⟩
 ·refine ⟨fun b hb nb => ?_, Nat.le_trans h.size (Nat.le_trans bu.size d2.size), B1.grown d2 (Nat.le_trans L1 bu.size) (fun k e => by cases e), h.lo, o', h.old.keep (fun g cur e hg => ?_), fun g e => ?_⟩
  ·have lb : b < w.heap.size := Nat.lt_of_lt_of_le hb h.size
   exact (d2.block b (Nat.lt_of_lt_of_le lb bu.size) (fun z => by cases z)).trans ((bu.block b lb).trans (h.same b hb nb))
  ·have lb := qE hg
   exact (d2.block g (Nat.lt_of_lt_of_le lb bu.size) (fun z => by cases z)).trans (bu.block g lb)
  ·have e : (Value.slice A' (r.n + q + 1) c').ownBlock = some g := e
   rw [d1] at e
   injection e with e
   have := bu.size
   have := h.size
   exact Or.inr (by omega)
theorem Inn.mid {W0 : World} {LO sz : Nat} {T T2 : TypeId} {mk mk2 : Nat -> List Value} {Al : Option Addr} {S : List Rv} {H0 : Nat} {M : List Rv} {mv : Value} {WS : World} (h : Grw W0 LO T T2 sz mk mk2 Al S H0 M mv WS) (hi : M.length < S.length) {q : Nat} {A : Option Addr} {c : Nat} {w : World} (g : Inn W0 LO T sz (mk M.length) (mk2 M.length) S[M.length] WS q A c w) :
  w.ownsRow H0 T2 1 mv M.length (M.map Rv.v) /\ SeesT w T2 Al (S.map Rv.v) /\ H0 <= w.heap.size := by
 refine ⟨zO h.mo (fun b e => ?_), h.out.keep (fun b cur e hb => ?_), Nat.le_trans h.hi g.size⟩
 ·refine g.same b (h.mo.lt b e).2 (fun z => ?_)
  have := h.lowS _ hi b z
  have := (h.mo.lt b e).1
  omega
 ·refine g.same b (qE hb) (fun z => ?_)
  obtain ⟨cur2, b2⟩ := xV (h.rest _ hi Vf) z
  rw [hb] at b2
  injection b2 with b2
  injection b2 with _ b2
  exact h.ne b2.symm
theorem Grw.next {W0 : World} {LO sz : Nat} {T T2 : TypeId} {mk mk2 : Nat -> List Value} {Al : Option Addr} {S : List Rv} {H0 : Nat} {M : List Rv} {mv : Value} {WS : World} (h : Grw W0 LO T T2 sz mk mk2 Al S H0 M mv WS) (hi : M.length < S.length) {A : Option Addr} {c : Nat} {w : World} (g : Inn W0 LO T sz (mk M.length) (mk2 M.length) S[M.length] WS 70 A c w)
  {w1 w3 : World} (bu : Below w.heap.size w w1) {mv' : Value} {n : Nat} (hn : n = S[M.length].n + 70) (o : w3.ownsRow H0 T2 1 mv' (M.length + 1) (M.map Rv.v ++ [.slice A n c])) (gr : w1.grownBy w3 mv.ownBlock) : Grw W0 LO T T2 sz mk mk2 Al S H0 (M ++ [⟨A, n, c⟩]) mv' w3 := by
 subst hn
 obtain ⟨m1, m2, m3⟩ := Inn.mid h hi g
 have lm : (M ++ [(⟨A, S[M.length].n + 70, c⟩ : Rv)]).length = M.length + 1 := by rw [List.length_append, List.length_singleton]
 have LW : LO <= w.heap.size := Nat.le_trans g.lo g.bel.size
 -- blocks of the rows' type stand from w to w3
 have step : ∀ b cur, w.heap[b]? = some (Obj.cells cur T (0, 0)) -> w3.heap[b]? = w.heap[b]? := fun b cur hb => by
  have lb := qE hb
  refine (gr.block b (Nat.lt_of_lt_of_le lb bu.size) (fun z => ?_)).trans (bu.block b lb)
  obtain ⟨cur2, b2⟩ := xV m1 z.symm
  rw [hb] at b2
  injection b2 with b2
  injection b2 with _ b2
  exact h.ne b2
 have keepA : ∀ {B : Option Addr} {xs : List Value}, SeesT w T B xs -> SeesT w3 T B xs := fun s => s.keep (fun b cur e hb => step b cur hb)
 have fromS : ∀ j (hj : j < S.length) (xs : List Value), j ≠ M.length -> SeesT WS T S[j].A xs -> SeesT w T S[j].A xs := fun j hj xs ne s => s.keep (fun b cur e hb => g.same b (qE hb) (fun z => h.apart _ j hi hj (Ne.symm ne) b z (by unfold Rv.v; rw [e]; rfl)))
 refine ⟨fun j hj z => ?_, fun j hj z => ?_, fun j hj hm => ?_, fun j hj hm b e => ?_, h.apart, h.lowS, by rw [lm]; omega, m2.keep (fun b cur e hb => ?_), h.lowA, h.ne, ?_, ?_, h.lo, Nat.le_trans m3 (Nat.le_trans bu.size gr.size), h.lh, fun b hb no => ?_, h.wh⟩
 ·rw [lm] at z
  have o1 := h.rest j hj (by omega)
  refine zO o1 (fun b e => ?_)
  obtain ⟨cur, hb⟩ := xV o1 e
  have e1 := g.same b (o1.lt b e).2 (fun q => h.apart _ j hi hj (by omega) b q e)
  exact (step b cur (e1.trans hb)).trans e1
 ·rw [lm] at z
  by_cases c : j = M.length
  ·subst c; exact keepA g.old
  ·exact keepA (fromS j hj _ c (h.old j hj (by omega)))
 ·rw [lm] at hm
  by_cases cj : j = M.length
  ·subst cj
   have e : (M ++ [(⟨A, S[M.length].n + 70, c⟩ : Rv)])[M.length]'(by rw [lm]; exact hm) = ⟨A, S[M.length].n + 70, c⟩ := by simp
   rw [e]
   exact ⟨rfl, keepA (SeesT.of_own g.cur)⟩
  ·have lj : j < M.length := by omega
   have e : (M ++ [(⟨A, S[M.length].n + 70, c⟩ : Rv)])[j]'(by rw [lm]; exact hm) = M[j] := List.getElem_append_left lj
   rw [e]
   obtain ⟨n1, n2⟩ := h.new j hj lj
   refine ⟨n1, keepA (n2.keep (fun b cur e hb => g.same b (qE hb) (fun z => ?_)))⟩
   have : M[j].v.ownBlock = some b := by unfold Rv.v; rw [e]; rfl
   rcases h.ap j hj lj b this with q | q
   ·have := h.lowS _ hi b z; omega
   ·exact h.apart _ j hi hj (Ne.symm cj) b z q
 ·rw [lm] at hm
  by_cases cj : j = M.length
  ·subst cj
   have e2 : (M ++ [(⟨A, S[M.length].n + 70, c⟩ : Rv)])[M.length]'(by rw [lm]; exact hm) = ⟨A, S[M.length].n + 70, c⟩ := by simp
   rw [e2] at e
   rcases g.blk b e with q | q
   ·exact Or.inr q
   ·exact Or.inl (Nat.le_trans h.hi q)
  ·have lj : j < M.length := by omega
   have e2 : (M ++ [(⟨A, S[M.length].n + 70, c⟩ : Rv)])[j]'(by rw [lm]; exact hm) = M[j] := List.getElem_append_left lj
   rw [e2] at e
   exact h.ap j hj lj b e
 ·have lb := qE hb
  refine (gr.block b (Nat.lt_of_lt_of_le lb bu.size) (fun z => ?_)).trans (bu.block b lb)
  have := (m1.lt b z.symm).1
  have : b < H0 := h.lowA _ e
  omega
 ·rw [lm, List.map_append, List.map_singleton]; exact o
 ·exact (g.bel.trans (bu.mono LW)).grown gr (Nat.le_trans LW bu.size) (fun k e => Nat.le_trans h.lh (m1.lt k e).1)
 ·have lW : b < WS.heap.size := Nat.lt_of_lt_of_le hb h.bel.size
  have lw : b < w.heap.size := Nat.lt_of_lt_of_le lW g.size
  refine (gr.block b (Nat.lt_of_lt_of_le lw bu.size) (fun z => ?_)).trans ((bu.block b lw).trans ((g.same b lW (no _ hi)).trans (h.kp b hb no)))
  have := (m1.lt b z.symm).1
  have := h.wh
  omega
end
end
section
open Go Go.RowKit Go.Sort
section
theorem xW {w : World} {T2 : TypeId} {bl i : Nat} {S : List Rv} (h : SeesT w T2 (some ⟨bl, 0, none⟩) (S.map Rv.v)) (hi : i < S.length) : w.cell? ⟨bl, i, none⟩ = some (.slice S[i].A S[i].n S[i].c) := by
 obtain ⟨ad, e, _, q⟩ := h.sees.at (k := i) (by simpa using hi)
 cases e
 rw [List.getElem_map] at q
 have : (⟨bl, 0, none⟩ : Addr).add i = ⟨bl, i, none⟩ := by
  cases i with
  | zero => rfl
  | succ j => show (⟨bl, 0 + (j + 1), none⟩ : Addr) = _; rw [Nat.zero_add]
 rw [this] at q
 exact q
end
end
section
open Go Go.RowKit Go.Sort
def rowC (s : ByteArray) (k : Nat) : List Cel := (List.range k).map fun i => ⟨s.extract i (i + 1), 1, qd⟩
def rowS (s : ByteArray) : Scr := ⟨s.size, 1, rowC s s.size, 0, 0, false⟩
theorem vT (s : ByteArray) (k : Nat) : (rowC s k).length = k := by simp [rowC]
theorem Kf (s : ByteArray) (k : Nat) : zc (rowC s (k + 1)) = zc (rowC s k) ++ [.string (s.extract k (k + 1)), .int .i8 1, .int .i32 0, .int .i32 0, .int .u8 0] := by
 unfold rowC
 rw [List.range_succ, List.map_append, xq]
 rfl
theorem Kg (s : ByteArray) (i : Nat) : (s.extract i (i + 1)).size <= 1 := by rw [ByteArray.size_extract]; omega
theorem Ja {w : World} {base n sz : Nat} {T : TypeId} {v : Value} {xs : List Value} (h : w.ownsRow base T sz v n xs) : ∃ A c, v = .slice A n c := by
 rcases h.2 with ⟨e, e2⟩ | ⟨g, cap, cur, e, _⟩
 ·subst e2; exact ⟨_, _, e⟩
 ·exact ⟨_, _, e⟩
theorem row_scr (s : ByteArray) (A : Option Addr) (c : Nat) : scrV (rowS s) A c = .agg #[.int .i64 s.size, .int .i64 1, .slice A s.size c, .int .i64 0, .int .i64 0, .bool false] := by
 have e : (rowS s).cells.length = s.size := vT s s.size
 unfold scrV
 rw [e]
 rfl
theorem xz {w : World} {base n sz b i : Nat} {T : TypeId} {v y : Value} {xs : List Value} (h : w.ownsRow base T sz v n xs) (hb : b < base) : (w.setCell ⟨b, i, none⟩ y).ownsRow base T sz v n xs :=
 h.kept (zA w ⟨b, i, none⟩ y) (by
  rcases h.2 with ⟨e, _⟩ | ⟨g', cap, cur, e, hl, _⟩
  ·subst e; exact Or.inl rfl
  ·subst e; exact Or.inr (fun q => by have := Option.some.inj q; simp only at this; omega))
theorem rowC_ok (s : ByteArray) (k : Nat) : ∀ x ∈ rowC s k, okC x := by
 intro x hx
 obtain ⟨i, _, rfl⟩ := List.mem_map.1 hx
 have := Kg s i
 exact ⟨by show (s.extract i (i + 1)).size <= _; omega, by show (-128 : Int) <= 1; omega, by show (1 : Int) <= 127; omega⟩
theorem Jb {w : World} {base n : Nat} {T : TypeId} {v : Value} {L : List Cel} (h : w.ownsRow base T 5 v n (zc L)) : ∃ A c, v = .slice A n c /\ (A = none -> c = 0) /\ n <= c /\ Sees w w.heap.size A (zc L) := by
 rcases h.2 with ⟨e, e2⟩ | ⟨g, cap, cur, e, _, hg, hc, _⟩
 ·subst e2
  have hl := h.1
  rw [Nat.zero_mul] at hl
  refine ⟨none, 0, e, fun _ => rfl, Vf, ?_⟩
  rw [List.length_eq_zero_iff.1 hl]
  exact Sees.nil _ _ _
 ·refine ⟨_, _, e, fun z => by (cases z), hc, fun _ => ⟨_, rfl, (Array.getElem?_eq_some_iff.1 hg).1, fun j u hj => ?_⟩⟩
  subst e
  exact h.cells (g := g) rfl j u hj
set_option maxHeartbeats 4000000 in
set_option maxRecDepth 100000 in
theorem xX (s : ByteArray) (hs : s.size <= 100) (w : World) : Calls Tryz.prog 28 #[.string s] w fun e w' => ∃ A c, e = .returned (scrV (rowS s) A c) /\ ScrAt w' w'.heap.size (rowS s) A c /\ Below w.heap.size w w' := by
 obtain ⟨i0, hi0, hz0, hz1, hz2⟩ := info_parts infoL
 obtain ⟨Q, hQ⟩ : ∃ Q, Q = (w.alloc (.cells #[.int .i64 0, .int .i64 0, .slice none 0 0, .int .i64 0, .int .i64 0, .bool false] 24)).alloc (.cells #[.int .i64 s.size, .int .i64 1, .slice none 0 0, .int .i64 0, .int .i64 0, .bool false] 24) := ⟨_, rfl⟩
 have BQ : Below w.heap.size w Q := by rw [hQ]; exact ((Below.refl _ w).alloc Vf _).alloc (by simp) _
 have QS : Q.heap.size = w.heap.size + 2 := by rw [hQ]; simp
 have O1 : Own1 Q w.heap.size zS 24 := by
  rw [hQ]
  exact Own1.below (World.alloc_heap_new w _) ((Below.refl _ _).alloc Vf _)
 have O2 : Own1 Q (w.heap.size + 1) [.int .i64 s.size, .int .i64 1, .slice none 0 0, .int .i64 0, .int .i64 0, .bool false] 24 := by
  have h := World.alloc_heap_new (w.alloc (.cells #[.int .i64 0, .int .i64 0, .slice none 0 0, .int .i64 0, .int .i64 0, .bool false] 24)) (.cells #[.int .i64 s.size, .int .i64 1, .slice none 0 0, .int .i64 0, .int .i64 0, .bool false] 24)
  rw [<- hQ] at h
  have e : (w.alloc (.cells #[.int .i64 0, .int .i64 0, .slice none 0 0, .int .i64 0, .int .i64 0, .bool false] 24)).heap.size = w.heap.size + 1 := by simp
  rw [e] at h
  exact h
 have R0 : Hid (Below w.heap.size w Q /\ Own1 Q w.heap.size zS 24 /\ ∃ v, Own1 Q (w.heap.size + 1) [.int .i64 s.size, .int .i64 1, v, .int .i64 0, .int .i64 0, .bool false] 24 /\ Q.ownsRow (w.heap.size + 2) 58 5 v 0 (zc (rowC s 0))) := Vd ⟨BQ, O1, _, O2, World.ownsRow_nil _ _ _ _⟩
 clear BQ O1 O2
 go_enter Tryz.func28, Tryz.ntmps28
 go_wp2_with fail
 rw [<- hQ]
 clear hQ QS
 go_loopw [4, 22] (fun i s22 wr => s22 ≠ tokV /\ ∃ k : Nat, k <= s.size /\ i = .int .i64 k /\ Hid (Below w.heap.size w wr /\ Own1 wr w.heap.size zS 24 /\ ∃ v, Own1 wr (w.heap.size + 1) [.int .i64 s.size, .int .i64 1, v, .int .i64 0, .int .i64 0, .bool false] 24 /\ wr.ownsRow (w.heap.size + 2) 58 5 v k (zc (rowC s k)))) (fun i _ _ => s.size - (intOf i).toNat)
 case atStart => exact ⟨(by intro h; cases h), 0, Nat.zero_le _, rfl, R0⟩
 case round =>
  obtain ⟨ht, k, hk, rfl, hr⟩ := hrel
  clear R0
  obtain ⟨hb, h1, v, h2, hrow⟩ := hr.out
  obtain ⟨A, c, rfl, hcap, hnc, hsee⟩ := Jb hrow
  by_cases lt : k < s.size
  ·have hb := Vd hb
   have H1 := Vd h1
   have wk := Ve ((k : Int) + 1) (by omega)
   have slr : ∀ W, (Instr.slice 9 (.string s) (some (.int .i64 (k : Int))) (some (.int .i64 ((k : Int) + 1))) none).run Tryz.prog W = .ok (.string (s.extract k (k + 1))) W := fun W => by
    have : ((k : Int) + 1).toNat = k + 1 := by omega
    rw [run_slice_string_if _ _ _ _ _ _ _ Tryz.underlying9, if_pos (by omega), if_pos (by omega)]
    simp only [this]
    rfl
   have NX := Vd (Kf s k)
   generalize s.extract k (k + 1) = x at *
   have g2 := fun d os => (h2.blk.regrown d os).c 2 _ rfl
   have H2 := Vd h2
   have HR := Vd hrow
   clear h1 h2 hrow hr hsee
   go_upto_region 5 with fail
   refine zn 9 [(22, showS 1 [.string x, .int .i8 1, .int .i32 0, .int .i32 0, .int .u8 0])] [22] (by kernel_rfl) (by kernel_rfl) (by kernel_rfl) (by intro t h0; simp at h0; subst h0; exact ht) ?_
   simp only [Vg, Vh, Vi, Vj]
   repeat (refine ze (by rfl) (fun K hK => ?_); go_simp; first | (refine hK _ ?_; clear hK K) | (apply Exists.intro; refine ⟨fun _ => ?_, hK _ ?_⟩; (fail); clear hK K))
   refine Z7 22 rfl (by simp) (by first | (simp; done) | simp [xk]) (by rfl) (by rfl) (by intro _ _ h; cases h) (fun x => ?_) ?_
   ·go_simp
    exact Xj (by simp [grow, redrawn])
   refine zm ?_
   intro W1 vs1 hl hv
   obtain ⟨g, e22, lg, cg⟩ := hv 22 (by simp) rfl
   have hb1 := zk.1 hl
   simp only [zd, e22]
   have HR1 := HR.out.kept (row := none) ⟨hb1.os, hb1.tape, hb1.output, hb1.size, fun k hk _ => hb1.block k hk⟩ (by cases (Value.slice A k c).ownBlock <;> simp)
   have B1 := Vd (hb.out.trans (hb1.mono hb.out.size))
   have H11 := Vd (H1.out.below hb1)
   have H21 := H2.out.below hb1
   have l21 := H21.lt
   have n2 := H21.blk.c 2 _ rfl
   have f2 := H21.blk.f 2 _ rfl
   have OWN : Hid (∀ v' w3, w3.ownsRow (w.heap.size + 2) 58 5 v' (k + 1) (zc (rowC s k) ++ [.string x, .int .i8 1, .int .i32 0, .int .i32 0, .int .u8 0]) -> W1.grownBy w3 (Value.slice A k c).ownBlock -> Hid (Own1 w3 (w.heap.size + 1) [.int .i64 s.size, .int .i64 1, .slice A k c, .int .i64 0, .int .i64 0, .bool false] 24 /\ Hid (Below w.heap.size w (w3.setCell ⟨w.heap.size + 1, 2, none⟩ v') /\ Own1 (w3.setCell ⟨w.heap.size + 1, 2, none⟩ v') w.heap.size zS 24 /\ ∃ v, Own1 (w3.setCell ⟨w.heap.size + 1, 2, none⟩ v') (w.heap.size + 1) [.int .i64 s.size, .int .i64 1, v, .int .i64 0, .int .i64 0, .bool false] 24 /\ (w3.setCell ⟨w.heap.size + 1, 2, none⟩ v').ownsRow (w.heap.size + 2) 58 5 v (k + 1) (zc (rowC s (k + 1)))))) := Vd (fun v' w3 ho hg => Vd (by
    have nb : ∀ j, (Value.slice A k c).ownBlock = some j -> w.heap.size + 2 <= j := fun j e => (HR1.lt j e).1
    have o2 := H21.of_grown hg (fun e => by have := nb _ e.symm; omega)
    have o1 := H11.out.of_grown hg (fun e => by have := nb _ e.symm; omega)
    have gs := zA w3 ⟨w.heap.size + 1, 2, none⟩ v'
    refine ⟨o2, Vd ⟨?_, o1.of_grown gs (by intro e; have := Option.some.inj e; simp only at this; omega), v', o2.set 2 v', ?_⟩⟩
    ·exact (B1.out.grown hg B1.out.size (fun j e => by have := nb j e; omega)).setCell (p := ⟨w.heap.size + 1, 2, none⟩) (Nat.le_succ _) _
    ·rw [NX.out]
     refine ho.kept gs ?_
     rcases ho.2 with ⟨rfl, _⟩ | ⟨g', cap, cur, rfl, hb, _⟩
     ·exact Or.inl rfl
     ·exact Or.inr (fun q => by have := Option.some.inj q; simp only at this; omega)))
   have lw := B1.out.size
   have L1 := H11.out.lt
   have l22 := H21.lt
   have hlo : w.heap.size + 2 <= W1.heap.size := by omega
   have NW : ∀ (j : Nat) (u : Value), [Value.string x, .int .i8 1, .int .i32 0, .int .i32 0, .int .u8 0][j]? = some u -> W1.cell? ((⟨g, 0, none⟩ : Addr).add j) = some u := fun j u h => by
    rw [show (⟨g, 0, none⟩ : Addr).add j = ⟨g, j, none⟩ by unfold Addr.add; split <;> simp_all]
    exact cg j u h
   have NWH := Vd NW
   have O5 : ∀ u ∈ [Value.string x, .int .i8 1, .int .i32 0, .int .i32 0, .int .u8 0], u.oneCell' = true := by
    intro u hu
    simp at hu
    rcases hu with rfl | rfl | rfl | rfl | rfl <;> rfl
   have O5H := Vd O5
   clear hl hv hb1 g2 H2 H1 hb HR e22 cg NW O5 H21
   go_wp2_with (at_builtin; refine wpList_append_own _ rfl (.tmp 15) (.tmp 22) 22 rfl (w.heap.size + 2) 58 i0 (.agg #[.string ⟨#[]⟩, .int .i8 0, .int .i32 0, .int .i32 0, .int .u8 0]) 5 32 Tryz.underlying22 hi0 hz0 hz1 hz2 rfl (by decide) _ k _ rfl HR1 ⟨g, 0, none⟩ 1 1 [.string x, .int .i8 1, .int .i32 0, .int .i32 0, .int .u8 0] rfl rfl NWH.out O5H.out (by unfold maxLen; omega) (by omega) hlo ?_; intro v' w3 hown' hgrow _; obtain ⟨A', c', rfl⟩ := Ja hown'; have OW3 := OWN.out _ w3 hown' hgrow; have n3 := OW3.out.1.blk.c 2 _ rfl; have f3 := OW3.out.1.blk.f 2 _ rfl)
   go_roundw
   case rel => exact ⟨(by intro h; cases h), k + 1, by omega, by go_num, OW3.out.2⟩
   case measure => simp [intOf]; omega
  ·have e : k = s.size := by omega
   subst e
   have HB := Vd hb
   have HS := Vd hsee
   have HC := Vd hcap
   have k0 := h1.blk.c 0 _ rfl
   have k1 := h1.blk.c 1 _ rfl
   have k2 := h1.blk.c 2 _ rfl
   have k3 := h1.blk.c 3 _ rfl
   have k4 := h1.blk.c 4 _ rfl
   have k5 := h1.blk.c 5 _ rfl
   have f0 := h1.blk.f 0 _ rfl
   have f1 := h1.blk.f 1 _ rfl
   have f2 := h1.blk.f 2 _ rfl
   have f3 := h1.blk.f 3 _ rfl
   have f4 := h1.blk.f 4 _ rfl
   have f5 := h1.blk.f 5 _ rfl
   have n0 := h2.blk.c 0 _ rfl
   have n1 := h2.blk.c 1 _ rfl
   have n2 := h2.blk.c 2 _ rfl
   have n3 := h2.blk.c 3 _ rfl
   have n4 := h2.blk.c 4 _ rfl
   have n5 := h2.blk.c 5 _ rfl
   have H2 := Vd h2
   have HR := Vd hrow
   have HN := Vd hnc
   clear hr h1 h2 hrow hsee hcap hb
   go_wp2_with fail
   refine bodyPost_ret (v := .agg #[.int .i64 s.size, .int .i64 1, .slice A s.size c, .int .i64 0, .int .i64 0, .bool false]) (by simp [results, Tryz.results28, go_sem, k0, k1, k2, k3, k4, k5]) rfl ⟨A, c, by rw [row_scr], ?_, ?_⟩
   ·have lt2 : w.heap.size < w.heap.size + 2 := by omega
    have h1 := xz (b := w.heap.size) (i := 0) (y := .int .i64 s.size) HR.out lt2
    have h2 := xz (b := w.heap.size) (i := 1) (y := .int .i64 1) h1 lt2
    have h3 := xz (b := w.heap.size) (i := 2) (y := .slice A s.size c) h2 lt2
    have h4 := xz (b := w.heap.size) (i := 3) (y := .int .i64 0) h3 lt2
    have h5 := xz (b := w.heap.size) (i := 4) (y := .int .i64 0) h4 lt2
    have h6 := xz (b := w.heap.size) (i := 5) (y := .bool false) h5 lt2
    obtain ⟨A2, c2, e, _, _, hse⟩ := Jb h6
    cases e
    exact ⟨by show (rowC s s.size).length <= c; rw [vT]; exact HN.out, HC.out, by show (rowC s s.size).length <= _; rw [vT]; omega, rowC_ok s _, hse⟩
   ·repeat (first | with_reducible exact HB.out | refine Below.setCell ?_ (by exact Vf) _)
end
section
open Go.RowKit
def bAB : ByteArray := ⟨#[97, 98, 32, 32]⟩
def bAZ : ByteArray := ⟨#[97, 90, 32, 32]⟩
def bAb : ByteArray := ⟨#[97, 98]⟩
def bAc : ByteArray := ⟨#[97, 99]⟩
def wri0 (d : Int) : Wri := ⟨d, false, ⟨0, 0, [], 0, 0, false⟩, tel0, false⟩
def wri1 : Wri := jA (wri0 3) (rowS bAB)
def wri2 : Wri := jA wri1 (rowS bAB)
theorem wk_r1 : zi (rowS bAB) = true := by decide +kernel
theorem wk_r2 : zi (rowS bAZ) = true := by decide +kernel
theorem wk_f1 : (zJ (wri0 3) (redS (rowS bAB) 3)).out = ⟨#[27, 91, 48, 109, 27, 91, 63, 55, 108, 27, 91, 50, 74, 27, 91, 72, 27, 91, 63, 50, 53, 108, 97, 98]⟩ := by decide +kernel
theorem wk_f2 : (zJ wri1 (redS (rowS bAB) 3)).out = ⟨#[]⟩ := by decide +kernel
theorem wk_f3 : (zJ wri2 (redS (rowS bAZ) 3)).out = ⟨#[27, 91, 49, 59, 50, 72, 90]⟩ := by decide +kernel
theorem wk_c : js (rowS bAb) (rowS bAc) = 0 := by decide +kernel
theorem wk_l : jF (rowS bAb) (rowS bAc) = [1] := by decide +kernel
theorem wk_t1 : totS (rowS bAB).cells <= 1000000000 := by decide +kernel
theorem wk_t2 : totS (rowS bAZ).cells <= 1000000000 := by decide +kernel
end
section
open Go Go.RowKit Go.Sort
theorem vU {LO : Nat} {v : Value} {s : ByteArray} {w : World} (h : w.ownsRow LO 5 1 v s.size (Lib.strCells s)) : (convert 66 9 v).run Tryz.prog w = .ok (.string s) w := by
 have e1 : bts (s.data.toList.map fun b => (b.toNat : Int)) = Lib.strCells s := by
  unfold bts Lib.strCells
  rw [List.map_map]
  rfl
 have e2 : barr (s.data.toList.map fun b => (b.toNat : Int)) = s := by
  unfold barr
  rw [List.map_map]
  apply ByteArray.ext
  show ((s.data.toList.map _).toArray) = s.data
  have : (fun b : UInt8 => UInt8.ofNat ((b.toNat : Int)).toNat) = id := by
   funext b
   simp
  rw [show ((fun n : Int => UInt8.ofNat n.toNat) ∘ fun b : UInt8 => (b.toNat : Int)) = id from this]
  simp
 have e3 : (s.data.toList.map fun b => (b.toNat : Int)).length = s.size := by simp
 have := kt (LO := LO) (v := v) (l := s.data.toList.map fun b => (b.toNat : Int)) (w := w) (by rw [e1, e3]; exact h)
 rw [e2] at this
 exact this
structure WkSt (w0 : World) (b : Nat) (x : Wri) (w : World) : Prop where
 env : EnvD w
 nb : b ≠ 1 /\ b ≠ 0 /\ b ≠ 2
 bel : Below w0.heap.size w0 w
 lo : w0.heap.size <= b
 wr : ∃ LA Lc, WrAt w b x LA Lc
theorem WkSt.below {w0 : World} {b : Nat} {x : Wri} {w w' : World} (h : WkSt w0 b x w) (hb : Below w.heap.size w w') : WkSt w0 b x w' := by
 obtain ⟨LA, Lc, h1⟩ := h.wr
 exact ⟨h.env.of_below hb Vf, h.nb, h.bel.trans (hb.mono h.bel.size), h.lo, LA, Lc, h1.below hb⟩
theorem wk_new (d : Int) (hd : okD d = true) (w : World) (E : EnvD w) : WkSt w w.heap.size (wri0 d) (w.alloc (.cells (wriV d false 0 0 none 0 0 0 0 false tel0 false).toArray 86)) := by
 have hb : Below w.heap.size w (w.alloc (.cells (wriV d false 0 0 none 0 0 0 0 false tel0 false).toArray 86)) := (Below.refl _ _).alloc Vf _
 refine ⟨E.of_below hb Vf, ⟨?_, ?_, ?_⟩, hb, Vf, none, 0, World.alloc_heap_new w _, (fun h => by cases h), by show (0 : Int) <= 0 /\ (0 : Int) <= 5000; omega, Nat.zero_le _⟩
 ·have := block_lt_of_cell (E.st.on 0 (by decide)); simp only at this; omega
 ·have := block_lt_of_cell (E.st.off 0 (by decide)); simp only at this; omega
 ·have := E.pg; omega
def FrGives (w0 : World) (b : Nat) (x : Wri) (s : Scr) (w : World) (e : Ending) (w' : World) : Prop :=
 ∃ v, e = .returned (.tuple #[v, .int .i64 0]) /\ w'.ownsRow w.heap.size 5 1 v (zJ x (redS s x.depth)).out.size (Lib.strCells (zJ x (redS s x.depth)).out) /\ WkSt w0 b (jA x s) w' /\ w.grownBy w' (some b)
theorem vV {w0 : World} {b : Nat} {x : Wri} {w : World} (h : WkSt w0 b x w) (s : Scr) (A : Option Addr) (c : Nat) (hs : ScrAt w w.heap.size s A c) (hr : zi s = true) (ht : totS s.cells <= 1000000000) :
  Calls Tryz.prog 27 #[.pointer (some ⟨b, 0, none⟩), scrV s A c] w (FrGives w0 b x s w) := by
 obtain ⟨LA, Lc, h1⟩ := h.wr
 refine (d_Frame b x LA Lc s A c w h.env h.nb h1 hs hr ht).mono ?_
 rintro e w' ⟨v, LA', Lc', rfl, ho, hw, hg⟩
 exact ⟨v, rfl, ho, ⟨h.env.grown hg h.nb.1 h.nb.2.1 h.nb.2.2, h.nb, h.bel.grown hg h.bel.size (fun k e => by cases e; exact h.lo), h.lo, LA', Lc', hw⟩, hg⟩
def ToldB (w0 : World) (b : Nat) (v : Value) (s : ByteArray) (w : World) : Prop := ∃ lo, b < lo /\ w.ownsRow lo 5 1 v s.size (Lib.strCells s)
theorem ToldB.below {w0 : World} {b : Nat} {v : Value} {s : ByteArray} {w w' : World} (h : ToldB w0 b v s w) (hb : Below w.heap.size w w') : ToldB w0 b v s w' := by
 obtain ⟨lo, h1, h2⟩ := h
 exact ⟨lo, h1, qg h2 hb⟩
theorem ToldB.grown {w0 : World} {b : Nat} {v : Value} {s : ByteArray} {w w' : World} (h : ToldB w0 b v s w) (hg : w.grownBy w' (some b)) : ToldB w0 b v s w' := by
 obtain ⟨lo, h1, h2⟩ := h
 refine ⟨lo, h1, h2.kept hg ?_⟩
 rcases h2.2 with ⟨e, _⟩ | ⟨g', cap, cur, e, hl, _⟩
 ·subst e; exact Or.inl rfl
 ·subst e; exact Or.inr (fun q => by have := Option.some.inj q; simp only at this; omega)
theorem ToldB.slice {w0 : World} {b : Nat} {v : Value} {s : ByteArray} {w : World} (h : ToldB w0 b v s w) : ∃ A c, v = .slice A s.size c := by
 obtain ⟨lo, h1, h2⟩ := h
 exact qT h2
theorem ToldB.conv {w0 : World} {b : Nat} {v : Value} {s : ByteArray} {w : World} (h : ToldB w0 b v s w) : (convert 66 9 v).run Tryz.prog w = .ok (.string s) w := by
 obtain ⟨lo, h1, h2⟩ := h
 exact vU h2
def bC1 : ByteArray := ⟨#[27, 91, 48, 109, 27, 91, 63, 55, 108, 27, 91, 50, 74, 27, 91, 72, 27, 91, 63, 50, 53, 108, 97, 98]⟩
def bC3 : ByteArray := ⟨#[27, 91, 49, 59, 50, 72, 90]⟩
theorem wk_f1' : (zJ (wri0 3) (redS (rowS bAB) (wri0 3).depth)).out = bC1 := wk_f1
theorem wk_f2' : (zJ wri1 (redS (rowS bAB) wri1.depth)).out = zB := wk_f2
theorem wk_f3' : (zJ wri2 (redS (rowS bAZ) wri2.depth)).out = bC3 := wk_f3
set_option maxHeartbeats 16000000 in
set_option maxRecDepth 100000 in
theorem kP (w : World) (E : EnvD w) : Calls Tryz.prog 13 #[] w fun e w' => e = .returned (.bool true) /\ Below w.heap.size w w' := by
 have NW := Vd (d_New 3 rfl w)
 have ST := Vd (wk_new 3 rfl w E)
 clear E
 go_enter Tryz.func13, Tryz.ntmps13
 go_wp2_with fail
 refine NW.out.mono ?_; rintro e w1 ⟨rfl, h1⟩
 rw [<- h1] at ST
 clear h1 NW
 obtain ⟨b, hb⟩ : ∃ b, b = w.heap.size := ⟨_, rfl⟩
 have HB := Vd hb
 rw [<- hb] at ST ⊢
 clear hb
 go_wp2_with fail
 refine (xX bAB (by decide) _).mono ?_; rintro e w2 ⟨A, c, rfl, sc, hb2⟩
 have SC := Vd sc
 have ST := Vd (ST.out.below hb2)
 clear sc hb2
 go_wp2_with fail
 refine (vV ST.out (rowS bAB) A c SC.out wk_r1 wk_t1).mono ?_; rintro e w3 ⟨v1, rfl, o1, st3, g3⟩
 have T1 : Hid (ToldB w b v1 bC1 w3) := Vd ⟨w2.heap.size, (by obtain ⟨_, _, hw⟩ := ST.out.wr; exact hw.own.lt), (by rw [<- wk_f1']; exact o1)⟩
 obtain ⟨A1, c1, rfl⟩ := T1.out.slice
 have ST : Hid (WkSt w b wri1 w3) := Vd st3
 clear st3 o1 g3 SC
 go_wp2_with fail
 refine (xX bAB (by decide) _).mono ?_; rintro e w4 ⟨A, c, rfl, sc, hb4⟩
 have SC := Vd sc
 have ST := Vd (ST.out.below hb4)
 have T1 := Vd (T1.out.below hb4)
 clear sc hb4
 go_wp2_with fail
 refine (vV ST.out (rowS bAB) A c SC.out wk_r1 wk_t1).mono ?_; rintro e w5 ⟨v2, rfl, o2, st5, g5⟩
 have T2 : Hid (ToldB w b v2 zB w5) := Vd ⟨w4.heap.size, (by obtain ⟨_, _, hw⟩ := ST.out.wr; exact hw.own.lt), (by rw [<- wk_f2']; exact o2)⟩
 have T1 := Vd (T1.out.grown g5)
 obtain ⟨A2, c2, rfl⟩ := T2.out.slice
 rw [show zB.size = 0 from rfl] at T2 ⊢
 have ST : Hid (WkSt w b wri2 w5) := Vd st5
 clear st5 o2 g5 SC
 go_wp2_with fail
 refine (xX bAZ (by decide) _).mono ?_; rintro e w6 ⟨A, c, rfl, sc, hb6⟩
 have SC := Vd sc
 have ST := Vd (ST.out.below hb6)
 have T1 := Vd (T1.out.below hb6)
 have T2 := Vd (T2.out.below hb6)
 clear sc hb6
 go_wp2_with fail
 refine (vV ST.out (rowS bAZ) A c SC.out wk_r2 wk_t2).mono ?_; rintro e w7 ⟨v3, rfl, o3, st7, g7⟩
 have T3 : Hid (ToldB w b v3 bC3 w7) := Vd ⟨w6.heap.size, (by obtain ⟨_, _, hw⟩ := ST.out.wr; exact hw.own.lt), (by rw [<- wk_f3']; exact o3)⟩
 have T1 := Vd (T1.out.grown g7)
 have T2 := Vd (T2.out.grown g7)
 obtain ⟨A3, c3, rfl⟩ := T3.out.slice
 have BL : Hid (Below w.heap.size w w7) := Vd st7.bel
 clear st7 o3 g7 SC ST
 go_wp2_with fail
 refine (xX bAb (by decide) _).mono ?_; rintro e w8 ⟨A5, c5, rfl, sc5, hb8⟩
 have T1 := Vd (T1.out.below hb8)
 have T2 := Vd (T2.out.below hb8)
 have T3 := Vd (T3.out.below hb8)
 have BL := Vd (BL.out.trans (hb8.mono BL.out.size))
 have SC5 := Vd sc5
 clear sc5 hb8
 go_wp2_with fail
 refine (xX bAc (by decide) _).mono ?_; rintro e w9 ⟨A6, c6, rfl, sc6, hb9⟩
 have T1 := Vd (T1.out.below hb9)
 have T2 := Vd (T2.out.below hb9)
 have T3 := Vd (T3.out.below hb9)
 have BL := Vd (BL.out.trans (hb9.mono BL.out.size))
 have SC5 := Vd ((SC5.out.below hb9).more hb9.size)
 have SC6 := Vd sc6
 clear sc6 hb9
 go_wp2_with fail
 refine (XY (rowS bAb) (rowS bAc) A5 A6 c5 c6 w9 SC5.out SC6.out).mono ?_; rintro e wa ⟨v4, rfl, o4, hba⟩
 rw [wk_c]
 have hT1 := (T1.out.below hba).conv
 have hT3 := (T3.out.below hba).conv
 have BL := Vd (BL.out.trans (hba.mono BL.out.size))
 rw [wk_l] at o4
 obtain ⟨A4, c4, rfl⟩ := qT o4
 obtain ⟨g, rfl⟩ : ∃ g, A4 = some ⟨g, 0, none⟩ := by
  rcases o4.2 with ⟨e, e2⟩ | ⟨g, cap, cur, e, _⟩
  ·cases e2
  ·cases e; exact ⟨_, rfl⟩
 have ce := o4.cells (g := g) rfl 0 (.int .i64 1) rfl
 rw [show ({ block := g, off := 0 } : Addr).add 0 = ⟨g, 0, none⟩ from rfl] at ce
 have sb1 : (bC1.toList == [27, 91, 48, 109, 27, 91, 63, 55, 108, 27, 91, 50, 74, 27, 91, 72, 27, 91, 63, 50, 53, 108, 97, 98]) = true := by decide +kernel
 have sb3 : (bC3.toList == [27, 91, 49, 59, 50, 72, 90]) = true := by decide +kernel
 clear T1 T2 T3 o4 hba SC5 SC6
 go_wp2_with fail
 go_ret
 exact ⟨rfl, BL.out⟩
end
section
open Go.RowKit Go.ChangeShapes
theorem gPow : Tryz.prog.globalNamed "internal/strconv.uint64pow10" = some 2 := by kernel_rfl
theorem gOn : Tryz.prog.globalNamed "fresco/style.on" = some 1 := by kernel_rfl
theorem gOff : Tryz.prog.globalNamed "fresco/style.off" = some 0 := by kernel_rfl
theorem cell_lt {w : World} {g : Nat} {v : Value} {o : Nat} (h : w.cell? ⟨g, o, none⟩ = some v) : g < w.heap.size := block_lt_of_cell h
def onZ : List Int := [1, 2, 3, 4, 5, 7, 8, 9]
def offZ : List Int := [22, 22, 23, 24, 25, 27, 28, 29]
theorem env_all {W : World} (h : laidMetH Tryz.prog [("math/bits.deBruijn32tab", Rows.laid_math_bits_deBruijn32tab), ("math/bits.deBruijn64tab", Rows.laid_math_bits_deBruijn64tab), ("internal/strconv.uint64pow10", Rows.laid_internal_strconv_uint64pow10), ("fresco/style.on", Rows.laid_fresco_style_on), ("fresco/style.off", Rows.laid_fresco_style_off)] W) : EnvD W := by
 have e : laidMetH Tryz.prog [("math/bits.deBruijn32tab", Rows.laid_math_bits_deBruijn32tab), ("math/bits.deBruijn64tab", Rows.laid_math_bits_deBruijn64tab), ("internal/strconv.uint64pow10", Rows.laid_internal_strconv_uint64pow10), ("fresco/style.on", Rows.laid_fresco_style_on), ("fresco/style.off", Rows.laid_fresco_style_off)] W = laidMet Tryz.prog [("math/bits.deBruijn32tab", Rows.laid_math_bits_deBruijn32tab), ("math/bits.deBruijn64tab", Rows.laid_math_bits_deBruijn64tab), ("internal/strconv.uint64pow10", Rows.laid_internal_strconv_uint64pow10), ("fresco/style.on", Rows.laid_fresco_style_on), ("fresco/style.off", Rows.laid_fresco_style_off)] W := MakeChecks.laidMetH_plain _ _ _ (by kernel_rfl)
 rw [e] at h
 have tp : Lib.TabIs Tryz.prog W "internal/strconv.uint64pow10" .u64 Lib.pow10Tab :=
  Lib.tabIs_of_head (t := 154) gPow (by kernel_rfl) Tryz.underlying154 Tryz.underlying138 (by kernel_rfl) (by kernel_rfl) h.tail.tail
 have ton : Lib.TabIs Tryz.prog W "fresco/style.on" .i64 onZ :=
  Lib.tabIs_of_head (t := 122) gOn (by kernel_rfl) Tryz.underlying122 Tryz.underlying3 (by kernel_rfl) (by kernel_rfl) h.tail.tail.tail
 have tf : Lib.TabIs Tryz.prog W "fresco/style.off" .i64 offZ :=
  Lib.tabIs_of_head (t := 122) gOff (by kernel_rfl) Tryz.underlying122 Tryz.underlying3 (by kernel_rfl) (by kernel_rfl) h.tail.tail.tail.tail
 exact ⟨⟨fun k hk => ton.cell gOn k hk, fun k hk => tf.cell gOff k hk⟩, tp, cell_lt (tp.cell gPow 0 (by decide))⟩
end
section
open Go Go.RowKit Go.Sort
structure SA where
 s : Scr
 A : Option Addr
 c : Nat
def scrC (t : SA) : List Value := [.int .i64 t.s.w, .int .i64 t.s.h, .slice t.A t.s.cells.length t.c, .int .i64 t.s.x, .int .i64 t.s.y, .bool t.s.shown]
def qj (L : List SA) : List Value := L.flatMap scrC
theorem vW (a : SA) (r : List SA) : qj (a :: r) = scrC a ++ qj r := by unfold qj; exact List.flatMap_cons ..
theorem Kh (a b : List SA) : qj (a ++ b) = qj a ++ qj b := by unfold qj; exact List.flatMap_append
theorem Ki (l : List SA) : (qj l).length = l.length * 6 := by
 induction l with
 | nil => rfl
 | cons a l ih => rw [vW, List.length_append, ih, List.length_cons]; simp [scrC]; omega
theorem Kj (l : List SA) : ∀ k, qj (l.drop k) = (qj l).drop (k * 6) := by
 induction l with
 | nil => intro k; simp [qj]
 | cons a l ih =>
  intro k
  cases k with
  | zero => simp
  | succ k =>
   rw [List.drop_succ_cons, ih, vW, show (k + 1) * 6 = 6 + k * 6 by omega, <- List.drop_drop]
   rfl
theorem scr_nth {w : World} {B : Nat} {A : Option Addr} {L : List SA} (h : Sees w B A (qj L)) (k : Nat) (hk : k < L.length) : ∃ ad, A = some ad /\ ad.block < B /\ w.cell? (ad.add (k * 6)) = some (.int .i64 (L[k]).s.w) /\ w.cell? ⟨(ad.add (k * 6)).block, (ad.add (k * 6)).off + 1, none⟩ = some (.int .i64 (L[k]).s.h) /\ w.cell? ⟨(ad.add (k * 6)).block, (ad.add (k * 6)).off + 2, none⟩ = some (.slice (L[k]).A (L[k]).s.cells.length (L[k]).c) /\ w.cell? ⟨(ad.add (k * 6)).block, (ad.add (k * 6)).off + 3, none⟩ = some (.int .i64 (L[k]).s.x) /\ w.cell? ⟨(ad.add (k * 6)).block, (ad.add (k * 6)).off + 4, none⟩ = some (.int .i64 (L[k]).s.y) /\ w.cell? ⟨(ad.add (k * 6)).block, (ad.add (k * 6)).off + 5, none⟩ = some (.bool (L[k]).s.shown) := by
 obtain ⟨ad, e, hb, _⟩ := h (fun e => by have := Ki L; rw [e] at this; simp at this; omega)
 subst e
 have S := h.dropV (k * 6)
 rw [<- Kj, List.drop_eq_getElem_cons hk, vW] at S
 obtain ⟨ad', e, _, hc⟩ := S (by simp [scrC])
 cases e
 refine ⟨ad, rfl, hb, ?_, ?_, ?_, ?_, ?_, ?_⟩
 ·have := hc 0 _ rfl
  rwa [show (ad.add (k * 6)).add 0 = ad.add (k * 6) by unfold Addr.add; rw [if_pos rfl]] at this
 ·rw [qi _ 1 (by decide)]; exact hc 1 _ rfl
 ·rw [qi _ 2 (by decide)]; exact hc 2 _ rfl
 ·rw [qi _ 3 (by decide)]; exact hc 3 _ rfl
 ·rw [qi _ 4 (by decide)]; exact hc 4 _ rfl
 ·rw [qi _ 5 (by decide)]; exact hc 5 _ rfl
def bulk (L : List Cel) : Nat := (L.map fun c => 1 + c.text.size).sum
def zK (L : List SA) : Nat := (L.map fun t => bulk t.s.cells).sum
theorem Jc (a b : List Cel) : bulk (a ++ b) = bulk a + bulk b := by simp [bulk]
theorem Kk (L : List Cel) (k : Nat) (h : k < L.length) : bulk (L.take (k + 1)) = bulk (L.take k) + (1 + (L[k]).text.size) := by
 rw [List.take_succ_eq_append_getElem h, Jc]
 simp [bulk]
theorem bulk_le (L : List Cel) (k : Nat) : bulk (L.take k) <= bulk L := by
 conv => rhs; rw [<- List.take_append_drop k L, Jc]
 omega
theorem Jd (a b : List SA) : zK (a ++ b) = zK a + zK b := by simp [zK]
theorem Kl (L : List SA) (k : Nat) (h : k < L.length) : zK (L.take (k + 1)) = zK (L.take k) + bulk (L[k]).s.cells := by
 rw [List.take_succ_eq_append_getElem h, Jd]
 simp [zK]
theorem total_le (L : List SA) (k : Nat) : zK (L.take k) <= zK L := by
 conv => rhs; rw [<- List.take_append_drop k L, Jd]
 omega
theorem Je (L : List Cel) : (L.map fun c => c.text.size).sum + L.length = bulk L := by
 induction L with
 | nil => rfl
 | cons a L ih => simp [bulk] at *; omega
set_option maxHeartbeats 8000000 in
set_option maxRecDepth 100000 in
theorem Jf (L : List SA) (A0 : Option Addr) (c0 : Nat) (w : World) (S : Sees w w.heap.size A0 (qj L)) (hl : L.length <= 10000000000000)
  (hs : ∀ t ∈ L, Sees w w.heap.size t.A (zc t.s.cells) /\ t.s.cells.length <= 10000000000000 /\ ∀ x ∈ t.s.cells, x.text.size <= 140737488351232) :
  Calls Tryz.prog 6 #[.slice A0 L.length c0] w fun e w' => e = .returned (.bool (decide (134217728 < zK L))) /\ w = w' := by
 have HS := Vd S
 have HX := Vd hs
 obtain ⟨N, hN⟩ : ∃ N, N = L.length := ⟨_, rfl⟩
 have HN := Vd hN
 rw [<- hN] at hl ⊢
 have YES : Hid (∀ e : Ending, e = .returned (.bool true) -> 134217728 < zK L -> e = .returned (.bool (decide (134217728 < zK L)))) := Vd (fun e h1 h2 => by rw [h1, decide_eq_true h2])
 have NO : Hid (∀ e : Ending, e = .returned (.bool false) -> zK L <= 134217728 -> e = .returned (.bool (decide (134217728 < zK L)))) := Vd (fun e h1 h2 => by rw [h1, decide_eq_false (by omega)])
 generalize hD : decide (134217728 < zK L) = D at *
 clear hN S hs hD
 go_enter Tryz.func6, Tryz.ntmps6
 go_wp2_with fail
 go_loop [3, 4] (fun s3 s4 => ∃ i n : Nat, i <= N /\ s4 = .int .i64 i /\ s3 = .int .i64 n /\ n <= 134217728 /\ Hid (n = zK (L.take i))) (fun _ s4 => N - (intOf s4).toNat)
 case atStart => exact ⟨0, 0, Nat.zero_le _, rfl, rfl, Nat.zero_le _, Vd rfl⟩
 case round =>
  obtain ⟨i, n, hi, rfl, rfl, hn, ht⟩ := hrel
  by_cases lt : i < N
  ·have il : i < L.length := by rw [<- HN.out]; exact lt
   obtain ⟨ad, rfl, ab, _, _, z2, _, _, _⟩ := scr_nth HS.out i il
   obtain ⟨x1, x2, x3⟩ := HX.out L[i] (List.getElem_mem il)
   have TT := Vd (Kl L i il)
   have TL := Vd (total_le L (i + 1))
   generalize L[i] = t at *
   obtain ⟨M, hM⟩ : ∃ M, M = t.s.cells.length := ⟨_, rfl⟩
   have HM := Vd hM
   rw [<- hM] at z2 x2
   have X1 := Vd x1
   have X3 := Vd x3
   clear hM x1 x3
   go_wp2_with fail
   go_loop [3, 5] (fun s3 s5 => ∃ k m : Nat, k <= M /\ s5 = .int .i64 k /\ s3 = .int .i64 m /\ m <= 134217728 /\ Hid (m = zK (L.take i) + bulk (t.s.cells.take k))) (fun _ s5 => M - (intOf s5).toNat)
   case atStart => exact ⟨0, n, Nat.zero_le _, rfl, rfl, hn, Vd (by rw [ht.out]; simp [bulk])⟩
   case round =>
    obtain ⟨k, m, hk, rfl, rfl, hm, hq⟩ := hrel
    by_cases lk : k < M
    ·have kl : k < t.s.cells.length := by rw [<- HM.out]; exact lk
     obtain ⟨ae, hA, bb, y0, _⟩ := ja X1.out k kl
     have x3 := X3.out _ (List.getElem_mem kl)
     have BT := Vd (Kk t.s.cells k kl)
     have BL := Vd (bulk_le t.s.cells (k + 1))
     rw [hA] at z2
     generalize t.s.cells[k] = cx at *
     have HA := Vd hA
     clear hA
     by_cases over : m + (1 + cx.text.size) <= 134217728
     ·have NX : Hid (m + (1 + cx.text.size) = zK (L.take i) + bulk (t.s.cells.take (k + 1))) := Vd (by rw [BT.out]; have := hq.out; omega)
      go_wp2_with fail
      exact ⟨⟨k + 1, m + (1 + cx.text.size), by omega, by go_num, by go_num, over, NX⟩, by simp [intOf]; omega⟩
     ·have NX : Hid (134217728 < zK L) := Vd (by have h1 := hq.out; have h2 := BT.out; have h3 := BL.out; have h4 := TT.out; have h5 := TL.out; omega)
      go_wp2_with fail
      go_ret
      exact ⟨YES.out _ rfl NX.out, rfl⟩
    ·have e : k = M := by omega
     subst e
     have NX : Hid (m = zK (L.take (i + 1))) := Vd (by have h1 := hq.out; have h4 := TT.out; rw [HM.out, List.take_length] at h1; omega)
     go_wp2_with fail
     exact ⟨⟨i + 1, m, by omega, by go_num, rfl, hm, NX⟩, by simp [intOf]; omega⟩
  ·have e : i = N := by omega
   subst e
   go_wp2_with fail
   go_ret
   exact ⟨NO.out _ rfl (by have h := ht.out; rw [HN.out, List.take_length] at h; omega), rfl⟩
end
section
open Go.ChangeShapes Go.WideShapes Go.ChangeAt Go.RowKit
def zP {H : Type} (d : DataW H) (t : TypeId) : Prop := ∀ m ∈ d.weights Tryz.prog t, m <= reachBytes
theorem Km {H : Type} {ts : List TypeId} {ds : List (DataW H)} (h : ∀ m ∈ DataW.weightsEach Tryz.prog ts ds, m <= reachBytes) {j : Nat} {t : TypeId} {d : DataW H} (ht : ts[j]? = some t) (hd : ds[j]? = some d) : zP d t :=
 fun m hm => h m (DataW.weights_mem_each ht hd m hm)
theorem Jg {H : Type} {e : TypeId} : ∀ {ds : List (DataW H)}, (∀ m ∈ DataW.weightsAll Tryz.prog e ds, m <= reachBytes) -> ∀ d ∈ ds, zP d e
 | [], _, d, hd => by cases hd
 | x :: r, h, d, hd => by
  simp only [DataW.weightsAll, List.mem_append] at h
  rcases List.mem_cons.1 hd with rfl | hd
  ·exact fun m hm => h m (Or.inl hm)
  ·exact Jg (fun m hm => h m (Or.inr hm)) d hd
theorem xY {H : Type} {t : TypeId} {fs : Array Field} {ds : List (DataW H)} (ht : Tryz.prog.underlying t = some (.struct fs)) (h : zP (.agg ds) t) {j : Nat} {u : TypeId} {d : DataW H} (hu : (fs.toList.map (·.type))[j]? = some u) (hd : ds[j]? = some d) : zP d u := by
 unfold zP at h
 simp only [DataW.weights, ht] at h
 exact Km h hu hd
theorem Kn {H : Type} {t e : TypeId} {es rs : List (DataW H)} (ht : Tryz.prog.underlying t = some (.slice e)) (h : zP (.slice es rs) t) : (es.length + rs.length) * Tryz.prog.bytesOf e <= reachBytes /\ ∀ d ∈ es, zP d e := by
 unfold zP at h
 simp only [DataW.weights, ht, List.mem_cons, List.mem_append] at h
 exact ⟨h _ (Or.inl rfl), Jg (fun m hm => h m (Or.inr (Or.inl hm)))⟩
theorem Ko {H : Type} {t : TypeId} {s : ByteArray} (h : zP (.lit (.string s.data.toList) : DataW H) t) : s.size <= reachBytes := by
 unfold zP at h
 have := h s.data.toList.length (by simp [DataW.weights])
 have e : s.size = s.data.toList.length := by simp
 omega
theorem Jh {H : Type} {ts : List TypeId} {ds : List (DataW H)} (h : (DataW.weightsEach Tryz.prog ts ds).all (· <= reachBytes) = true) {j : Nat} {t : TypeId} {d : DataW H} (ht : ts[j]? = some t) (hd : ds[j]? = some d) : zP d t :=
 fun m hm => by simpa using List.all_eq_true.1 h m (DataW.weights_mem_each ht hd m hm)
section
variable {H : Type} {enc : TypeId × Value -> H} {w : World} {base : Nat} {spare : Nat -> Bool} {held : Bool}
def okT (c : Cel) : Prop := c.text.size <= 140737488351232 /\ -128 <= c.wide /\ c.wide <= 127
end
theorem Ji {α : Type} (f : α -> List Value) (m : Nat) (m0 : 0 < m) (hm : ∀ a, (f a).length = m) : ∀ (L : List α) (j : Nat) (u : Value), (L.flatMap f)[j]? = some u -> ∃ i k a, j = i * m + k /\ k < m /\ L[i]? = some a /\ (f a)[k]? = some u
 | [], j, u, h => by simp at h
 | a :: L, j, u, h => by
  rw [List.flatMap_cons] at h
  by_cases c : j < m
  ·rw [List.getElem?_append_left (by rw [hm]; exact c)] at h
   exact ⟨0, j, a, by omega, c, rfl, h⟩
  ·rw [List.getElem?_append_right (by rw [hm]; omega), hm] at h
   obtain ⟨i, k, b, e, hk, hi, hu⟩ := Ji f m m0 hm L (j - m) u h
   exact ⟨i + 1, k, b, by rw [Nat.succ_mul]; omega, hk, hi, hu⟩
theorem Jj {H : Type} {enc : TypeId × Value -> H} {w : World} {base : Nat} {spare : Nat -> Bool} {held : Bool} {α : Type} (f : α -> List Value) (m : Nat) (m0 : 0 < m) (hm : ∀ a, (f a).length = m) (dflt : α) (ok : α -> Prop) {t e : TypeId} (ht : Tryz.prog.underlying t = some (.slice e)) (hC : Tryz.prog.cellsOf e = m)
  (each : ∀ (n : Nat) (cs : List Value) (y : DataW H × List MemPlace), DataW.trod enc Tryz.prog w base spare held n e cs = some y -> zP y.1 e -> ∃ a, cs = f a /\ ok a)
  {fuel : Nat} {cs : List Value} {y : DataW H × List MemPlace} (h : DataW.trod enc Tryz.prog w base spare held fuel t cs = some y) (sp : ∀ b, spare b = true) (hw : zP y.1 t) :
  ∃ (A : Option Addr) (c : Nat) (L : List α), cs = [.slice A L.length c] /\ (A = none -> c = 0) /\ L.length <= c /\ c * Tryz.prog.bytesOf e <= reachBytes /\ Sees w w.heap.size A (L.flatMap f) /\ ∀ x ∈ L, ok x := by
 rcases DataW.trod_slice ht h with ⟨h0, _⟩ | ⟨a, len, cap, elems, rest, n, _, rfl, hx, hb, hl, hcm, hlen, hel, hsp, hns⟩
 ·exact ⟨none, 0, [], h0, fun _ => rfl, Vf, by rw [Nat.zero_mul]; exact Nat.zero_le _, Sees.nil _ _ _, fun x hx => by cases hx⟩
 ·rw [hx] at hw
  obtain ⟨w1, w2⟩ := Kn ht hw
  have hr := (hsp (sp _)).1
  have E : ∀ i, i < len -> ∃ x, (∀ k u, (f x)[k]? = some u -> w.cell? (a.add (i * m + k)) = some u) /\ ok x := by
   intro i hi
   have hy := hel i hi
   have hi2 : i < elems.length := by omega
   rw [List.getElem?_eq_getElem hi2, hC, Option.bind_eq_some_iff] at hy
   obtain ⟨cs', hcs, hy'⟩ := hy
   obtain ⟨x, rfl, hok⟩ := each n cs' _ hy' (w2 _ (List.mem_map.2 ⟨_, List.getElem_mem hi2, rfl⟩))
   refine ⟨x, fun k u hu => ?_, hok⟩
   have lt : k < m := by rw [<- hm x]; exact (List.getElem?_eq_some_iff.1 hu).1
   have := (World.cells?_some hcs).2.2 k lt
   rw [xo] at this
   exact this.trans hu
  have hN : ((List.range len).map fun i => if h : i < len then (E i h).choose else dflt).length = len := by simp
  have hAt : ∀ i x, ((List.range len).map fun i => if h : i < len then (E i h).choose else dflt)[i]? = some x -> (∀ k u, (f x)[k]? = some u -> w.cell? (a.add (i * m + k)) = some u) /\ ok x := by
   intro i x hi
   rw [List.getElem?_map] at hi
   obtain ⟨j, hj, rfl⟩ := Option.map_eq_some_iff.1 hi
   obtain ⟨lt, e2⟩ := List.getElem?_eq_some_iff.1 hj
   rw [List.length_range] at lt
   rw [List.getElem_range] at e2
   subst e2
   simp only [dif_pos lt]
   exact (E i lt).choose_spec
  refine ⟨some a, cap, (List.range len).map (fun i => if h : i < len then (E i h).choose else dflt), by rw [hN], (fun z => by cases z), by rw [hN]; exact hl, ?_, ?_, ?_⟩
  ·simp only [List.length_map] at w1
   rw [hlen, hr] at w1
   rw [show len + (cap - len) = cap by omega] at w1
   exact w1
  ·have key : ∀ j u, (((List.range len).map fun i => if h : i < len then (E i h).choose else dflt).flatMap f)[j]? = some u -> w.cell? (a.add j) = some u := by
    intro j u hj
    obtain ⟨i, k, x, rfl, hk, hi, hu⟩ := Ji f m m0 hm _ j u hj
    exact (hAt i x hi).1 k u hu
   intro hne
   refine ⟨a, rfl, ?_, key⟩
   obtain ⟨u, r, hur⟩ := List.exists_cons_of_ne_nil hne
   have := block_lt_of_cell (key 0 u (by rw [hur]; rfl))
   rw [zj] at this
   exact this
  ·intro x hx
   obtain ⟨i, hi⟩ := List.mem_iff_getElem?.1 hx
   exact (hAt i x hi).2
def emptyC : Cel := ⟨⟨#[]⟩, 0, qd⟩
def emptyS : SA := ⟨⟨0, 0, [], 0, 0, false⟩, none, 0⟩
structure ScrD (w : World) (t : SA) : Prop where
 nil : t.A = none -> t.c = 0
 cap : t.s.cells.length <= t.c
 sz : t.c * 32 <= 140737488351232
 sees : Sees w w.heap.size t.A (zc t.s.cells)
 ok : ∀ x ∈ t.s.cells, okT x
section
variable {H : Type} {enc : TypeId × Value -> H} {w : World} {base : Nat} {spare : Nat -> Bool} {held : Bool}
end
def actV (a : Bool × SA) : List Value := .bool a.1 :: scrC a.2
section
variable {H : Type} {enc : TypeId × Value -> H} {w : World} {base : Nat} {spare : Nat -> Bool} {held : Bool}
end
end
section
open Go Go.RowKit Go.Sort
theorem ScrD.below {w w' : World} {t : SA} (h : ScrD w t) (hb : Below w.heap.size w w') : ScrD w' t := ⟨h.nil, h.cap, h.sz, (h.sees.below hb Vf).more hb.size, h.ok⟩
theorem Jk {w : World} {L : List SA} (h : ∀ t ∈ L, ScrD w t) : ∀ t ∈ L, Sees w w.heap.size t.A (zc t.s.cells) /\ t.s.cells.length <= 10000000000000 /\ ∀ x ∈ t.s.cells, x.text.size <= 140737488351232 := by
 intro t ht
 have q := h t ht
 exact ⟨q.sees, by have := q.cap; have := q.sz; omega, fun x hx => (q.ok x hx).1⟩
theorem Jl {L : List Cel} {x : Cel} (h : x ∈ L) : 1 + x.text.size <= bulk L := by
 induction L with
 | nil => cases h
 | cons a L ih =>
  have e : bulk (a :: L) = 1 + a.text.size + bulk L := by simp [bulk]
  rcases List.mem_cons.1 h with rfl | h
  ·omega
  ·have := ih h; omega
theorem ScrD.at {w : World} {t : SA} (h : ScrD w t) (hb : bulk t.s.cells <= 134217728) : ScrAt w w.heap.size t.s t.A t.c /\ totS t.s.cells <= 1000000000 := by
 have e := Je t.s.cells
 refine ⟨⟨h.cap, h.nil, by omega, fun x hx => ?_, h.sees⟩, by unfold totS; omega⟩
 have := Jl hx
 exact ⟨by omega, (h.ok x hx).2⟩
end
section
open Go Go.RowKit Go.Sort
section
theorem Jm {g c LO : Nat} {s : Scr} {V : World} (h : V.ownsRow LO 58 5 (.slice (some ⟨g, 0, none⟩) (s.cells.length + 2) c) (s.cells.length + 2) (zc (s.cells ++ [bhC, biC]))) : Sees V V.heap.size (some ⟨g, 0, none⟩) (zc (jH s)) := fun _ => by
 rcases h.2 with ⟨z, _⟩ | ⟨g', cap, cur, z, hb, hg, hn, _⟩
 ·cases z
 ·injection z with z1 z2 z3
  injection z1 with z1
  injection z1 with z1
  subst z1
  exact ⟨_, rfl, (Array.getElem?_eq_some_iff.1 hg).1, fun j x hj => h.cells (g := g) rfl j x hj⟩
theorem Kp {g : Nat} {s : Scr} {V : World} (h : Sees V V.heap.size (some ⟨g, 0, none⟩) (zc (jH s))) : Sees V V.heap.size (some ⟨g, 0, none⟩) (zc s.cells) := by
 have q := Sees.takeV (s.cells.length * 5) h
 rw [<- ky] at q
 unfold jH at q
 rw [List.take_left] at q
 exact q
end
end
section
open Go Go.RowKit Go.Sort
section
def redE (s : Scr) : Int := if zi s = true then 0 else 180
end
end
section
open Go Go.RowKit Go.Sort
def jg (L : List (Bool × SA)) : List Value := L.flatMap actV
theorem vX (a : Bool × SA) (r : List (Bool × SA)) : jg (a :: r) = actV a ++ jg r := by unfold jg; exact List.flatMap_cons ..
theorem Kq (l : List (Bool × SA)) : (jg l).length = l.length * 7 := by
 induction l with
 | nil => rfl
 | cons a l ih => rw [vX, List.length_append, ih, List.length_cons]; simp [actV, scrC]; omega
theorem Kr (l : List (Bool × SA)) : ∀ k, jg (l.drop k) = (jg l).drop (k * 7) := by
 induction l with
 | nil => intro k; simp [jg]
 | cons a l ih =>
  intro k
  cases k with
  | zero => simp
  | succ k =>
   rw [List.drop_succ_cons, ih, vX, show (k + 1) * 7 = 7 + k * 7 by omega, <- List.drop_drop]
   rfl
structure ActAt (w : World) (ad : Addr) (a : Bool × SA) : Prop where
 c0 : w.cell? ad = some (.bool a.1)
 c1 : w.cell? ⟨ad.block, ad.off + 1, none⟩ = some (.int .i64 a.2.s.w)
 c2 : w.cell? ⟨ad.block, ad.off + 2, none⟩ = some (.int .i64 a.2.s.h)
 c3 : w.cell? ⟨ad.block, ad.off + 3, none⟩ = some (.slice a.2.A a.2.s.cells.length a.2.c)
 c4 : w.cell? ⟨ad.block, ad.off + 4, none⟩ = some (.int .i64 a.2.s.x)
 c5 : w.cell? ⟨ad.block, ad.off + 5, none⟩ = some (.int .i64 a.2.s.y)
 c6 : w.cell? ⟨ad.block, ad.off + 6, none⟩ = some (.bool a.2.s.shown)
theorem vY {w : World} {B : Nat} {A : Option Addr} {L : List (Bool × SA)} (h : Sees w B A (jg L)) (k : Nat) (hk : k < L.length) : ∃ ad, A = some ad /\ ad.block < B /\ ActAt w (ad.add (k * 7)) L[k] := by
 obtain ⟨ad, e, hb, _⟩ := h (fun e => by have := Kq L; rw [e] at this; simp at this; omega)
 subst e
 have S := h.dropV (k * 7)
 rw [<- Kr, List.drop_eq_getElem_cons hk, vX] at S
 obtain ⟨ad', e, _, hc⟩ := S (by simp [actV])
 cases e
 refine ⟨ad, rfl, hb, ?_, ?_, ?_, ?_, ?_, ?_, ?_⟩
 ·have := hc 0 _ rfl
  rwa [show (ad.add (k * 7)).add 0 = ad.add (k * 7) by unfold Addr.add; rw [if_pos rfl]] at this
 ·rw [qi _ 1 (by decide)]; exact hc 1 _ rfl
 ·rw [qi _ 2 (by decide)]; exact hc 2 _ rfl
 ·rw [qi _ 3 (by decide)]; exact hc 3 _ rfl
 ·rw [qi _ 4 (by decide)]; exact hc 4 _ rfl
 ·rw [qi _ 5 (by decide)]; exact hc 5 _ rfl
 ·rw [qi _ 6 (by decide)]; exact hc 6 _ rfl
theorem infoSc : (Tryz.prog.info? 24).map (fun i => (i.zero, i.size, i.bytes)) = some (some (.agg #[.int .i64 0, .int .i64 0, .slice none 0 0, .int .i64 0, .int .i64 0, .bool false]), 6, 64) := by kernel_rfl
theorem snd_snoc (L : List (Bool × SA)) (k : Nat) (h : k < L.length) : qj ((L.take (k + 1)).map (·.2)) = qj ((L.take k).map (·.2)) ++ scrC (L[k]).2 := by
 rw [List.take_succ_eq_append_getElem h, List.map_append, Kh]
 simp [qj]
set_option maxHeartbeats 8000000 in
set_option maxRecDepth 100000 in
theorem Jn (dp : Int) (A : Option Addr) (c : Nat) (L : List (Bool × SA)) (w : World) (hl : L.length <= c) (hc : c * 72 <= 140737488351232) (S : Sees w w.heap.size A (jg L)) :
  Calls Tryz.prog 17 #[.agg #[.int .i64 dp, .slice A L.length c]] w fun e w' => ∃ A' c', e = .returned (.slice A' L.length c') /\ Sees w' w'.heap.size A' (qj (L.map (·.2))) /\ Below w.heap.size w w' := by
 obtain ⟨i0, hi0, hz0, hz1, hz2⟩ := info_parts infoSc
 obtain ⟨Q, hQ⟩ : ∃ Q, Q = w.alloc (.cells #[.int .i64 dp, .slice A L.length c] 44) := ⟨_, rfl⟩
 have BQ : Below w.heap.size w Q := by rw [hQ]; exact (Below.refl _ w).alloc Vf _
 have KQ : Blk Q w.heap.size [.int .i64 dp, .slice A L.length c] := by rw [hQ]; exact Blk.new w _ _
 have QS : Q.heap.size = w.heap.size + 1 := by rw [hQ]; simp
 obtain ⟨N, hN⟩ : ∃ N, N = L.length := ⟨_, rfl⟩
 have HN := Vd hN
 rw [<- hN] at hl hQ KQ ⊢
 have HS := Vd S
 have HK := Vd KQ
 have HB := Vd BQ
 have HQ := Vd QS
 have R0 : Hid (∃ A' c', Value.slice none 0 0 = .slice A' 0 c' /\ Q.ownsRow (w.heap.size + 1) 24 6 (.slice none 0 0) 0 (qj ((L.take 0).map (·.2))) /\ Below (w.heap.size + 1) Q Q) := Vd ⟨_, _, rfl, World.ownsRow_nil _ _ _ _, Below.refl _ _⟩
 clear hN S KQ BQ QS
 go_enter Tryz.func17, Tryz.ntmps17
 go_wp2_with fail
 rw [<- hQ]
 clear hQ
 go_loopw [3, 4] (fun s3 s4 wr => ∃ k : Nat, k <= N /\ s4 = .int .i64 k /\ Hid (∃ A' c', s3 = .slice A' k c' /\ wr.ownsRow (w.heap.size + 1) 24 6 s3 k (qj ((L.take k).map (·.2))) /\ Below (w.heap.size + 1) Q wr)) (fun _ s4 _ => N - (intOf s4).toNat)
 case atStart => exact ⟨0, Nat.zero_le _, rfl, R0⟩
 case round =>
  obtain ⟨k, hk, rfl, hr⟩ := hrel
  clear R0
  obtain ⟨A', c', rfl, hrow, hb⟩ := hr.out
  have K := HK.out.keep hb (by have := HQ.out; omega)
  have k0 := K.c 0 _ rfl
  have k1 := K.c 1 _ rfl
  by_cases lt : k < N
  ·have kl : k < L.length := by rw [<- HN.out]; exact lt
   have BW : Below w.heap.size w wr := HB.out.trans (hb.mono (by omega))
   obtain ⟨ad, rfl, ab, at_⟩ := vY (HS.out.below BW Vf) k kl
   have NX := Vd (snd_snoc L k kl)
   generalize L[k] = a at *
   obtain ⟨rb, ⟨⟨sw, sh, sc, sx, sy, ss⟩, sA, sC⟩⟩ := a
   have z0 := at_.c0
   have z1 := at_.c1
   have z2 := at_.c2
   have z3 := at_.c3
   have z4 := at_.c4
   have z5 := at_.c5
   have z6 := at_.c6
   simp only at z0 z1 z2 z3 z4 z5 z6
   generalize hM : sc.length = M at *
   have SV : Hid (scrC ⟨⟨sw, sh, sc, sx, sy, ss⟩, sA, sC⟩ = [.int .i64 sw, .int .i64 sh, .slice sA M sC, .int .i64 sx, .int .i64 sy, .bool ss]) := Vd (by unfold scrC; simp only [hM])
   have ws := hb.size
   have hq := HQ.out
   have HR := Vd (hrow.alloc (.cells #[.int .i64 sw, .int .i64 sh, .slice sA M sC, .int .i64 sx, .int .i64 sy, .bool ss] 24))
   have HBB := Vd (hb.alloc (by omega) (.cells #[.int .i64 sw, .int .i64 sh, .slice sA M sC, .int .i64 sx, .int .i64 sy, .bool ss] 24))
   have hlo : w.heap.size + 1 <= (wr.alloc (.cells #[.int .i64 sw, .int .i64 sh, .slice sA M sC, .int .i64 sx, .int .i64 sy, .bool ss] 24)).heap.size := by simp; omega
   have NW := Vd (newsL wr [.int .i64 sw, .int .i64 sh, .slice sA M sC, .int .i64 sx, .int .i64 sy, .bool ss] 24)
   have O6 : Hid (∀ x ∈ [Value.int .i64 sw, .int .i64 sh, .slice sA M sC, .int .i64 sx, .int .i64 sy, .bool ss], x.oneCell' = true) := Vd (by
    intro x hx
    simp at hx
    rcases hx with rfl | rfl | rfl | rfl | rfl | rfl <;> rfl)
   clear hM at_ hr hrow hb BW K
   go_wp2_with (at_builtin; refine wpList_append_own _ rfl (.tmp 12) (.tmp 19) 26 rfl (w.heap.size + 1) 24 i0 (.agg #[.int .i64 0, .int .i64 0, .slice none 0 0, .int .i64 0, .int .i64 0, .bool false]) 6 64 Tryz.underlying26 hi0 hz0 hz1 hz2 rfl (by decide) _ k _ rfl HR.out ⟨wr.heap.size, 0, none⟩ 1 1 [.int .i64 sw, .int .i64 sh, .slice sA M sC, .int .i64 sx, .int .i64 sy, .bool ss] rfl rfl NW.out O6.out (by unfold maxLen; omega) (by omega) hlo ?_; intro v' w3 hown' hgrow _; have OW : Hid (∃ A' c', v' = .slice A' (k + 1) c' /\ w3.ownsRow (w.heap.size + 1) 24 6 v' (k + 1) (qj ((L.take (k + 1)).map (·.2))) /\ Below (w.heap.size + 1) Q w3) := Vd (by
    obtain ⟨A2, c2, e⟩ := Ja hown'
    refine ⟨A2, c2, e, by rw [NX.out, SV.out]; exact hown', HBB.out.grown hgrow hlo (fun j e => (HR.out.lt j e).1)⟩))
   go_roundw
   case rel => exact ⟨k + 1, by omega, by go_num, OW⟩
   case measure => simp [intOf]; omega
  ·have e : k = N := by omega
   subst e
   have SE : Hid (Sees wr wr.heap.size A' (qj (L.map (·.2))) /\ Below w.heap.size w wr) := Vd (by
    rw [HN.out, List.take_length] at hrow
    refine ⟨?_, HB.out.trans (hb.mono (by omega))⟩
    rcases hrow.2 with ⟨e, e2⟩ | ⟨g, cap, cur, e, _, hg, _⟩
    ·have hl0 := hrow.1
     rw [e2, Nat.zero_mul] at hl0
     rw [List.length_eq_zero_iff.1 hl0]
     exact Sees.nil _ _ _
    ·cases e
     exact fun _ => ⟨_, rfl, (Array.getElem?_eq_some_iff.1 hg).1, fun j u hj => hrow.cells (g := g) rfl j u hj⟩)
   clear hr hrow hb K
   go_wp2_with fail
   go_ret
   exact ⟨_, _, rfl, SE.out.1, SE.out.2⟩
end
section
open Go Go.RowKit Go.Sort
section
variable {H : Type} {enc : TypeId × Value -> H} {w : World} {base : Nat} {spare : Nat -> Bool} {held : Bool}
set_option maxRecDepth 100000 in
theorem Ks {n : Nat} {cs : List Value} {y : DataW H × List MemPlace} (h : DataW.trod enc Tryz.prog w base spare held n 56 cs = some y) : ∃ s : Sty, cs = [.int .i32 s.fg, .int .i32 s.bg, .int .u8 (bI s.at_)] /\ zh s.fg /\ zh s.bg := by
 obtain ⟨y0, y1, y2, m, _, hl, h0, h1, h2⟩ := Go.Deep.trod_struct3 Tryz.underlying56 h
 have c3 : Tryz.prog.cellsOf 56 = 3 := by kernel_rfl
 have e1 : Tryz.prog.cellsOf 54 = 1 := by kernel_rfl
 have e2 : Tryz.prog.cellsOf 5 = 1 := by kernel_rfl
 rw [c3] at hl
 obtain ⟨v0, v1, v2, rfl⟩ : ∃ a b c, cs = [a, b, c] := by
  match cs, hl with
  | [v0, v1, v2], _ => exact ⟨v0, v1, v2, rfl⟩
 simp [e1, e2] at h0 h1 h2
 obtain ⟨fg, e, _, wf⟩ := DataW.trod_int Tryz.underlying54 h0
 obtain rfl := (List.cons.inj e).1
 obtain ⟨bg, e, _, wb⟩ := DataW.trod_int Tryz.underlying54 h1
 obtain rfl := (List.cons.inj e).1
 obtain ⟨ad, e, _, wa⟩ := DataW.trod_int Tryz.underlying5 h2
 obtain rfl := (List.cons.inj e).1
 obtain ⟨ba, rfl⟩ : ∃ b : B8, ad = bI b := by
  have bw := bounds_u8 wa
  obtain ⟨b, hb⟩ := bI_of ad (by omega) (by omega)
  exact ⟨b, hb.symm⟩
 have b1 := bounds_i32 wf
 have b2 := bounds_i32 wb
 exact ⟨⟨fg, bg, ba⟩, rfl, ⟨by show -2147483648 <= fg; omega, by show fg <= 2147483647; omega⟩, ⟨by show -2147483648 <= bg; omega, by show bg <= 2147483647; omega⟩⟩
set_option maxRecDepth 100000 in
theorem Kt {n : Nat} {cs : List Value} {y : DataW H × List MemPlace} (h : DataW.trod enc Tryz.prog w base spare held n 58 cs = some y) (hw : zP y.1 58) : ∃ c : Cel, cs = celV c /\ okT c /\ zh c.st.fg /\ zh c.st.bg := by
 obtain ⟨y0, y1, y2, m, rfl, hl, h0, h1, h2⟩ := Go.Deep.trod_struct3 Tryz.underlying58 h
 have c5 : Tryz.prog.cellsOf 58 = 5 := by kernel_rfl
 have e1 : Tryz.prog.cellsOf 9 = 1 := by kernel_rfl
 have e2 : Tryz.prog.cellsOf 53 = 1 := by kernel_rfl
 have e3 : Tryz.prog.cellsOf 56 = 3 := by kernel_rfl
 rw [c5] at hl
 obtain ⟨v0, v1, v2, v3, v4, rfl⟩ : ∃ a b c d e, cs = [a, b, c, d, e] := by
  match cs, hl with
  | [v0, v1, v2, v3, v4], _ => exact ⟨v0, v1, v2, v3, v4, rfl⟩
 simp [e1, e2, e3] at h0 h1 h2
 obtain ⟨tx, e, hy, _⟩ := DataW.trod_string Tryz.underlying9 h0
 obtain rfl := (List.cons.inj e).1
 obtain ⟨wd, e, _, wf⟩ := DataW.trod_int Tryz.underlying53 h1
 obtain rfl := (List.cons.inj e).1
 obtain ⟨s, e, sf, sb⟩ := Ks h2
 have l0 : zP y0.1 9 := xY (j := 0) Tryz.underlying58 hw rfl rfl
 rw [hy] at l0
 have sz := Ko l0
 have bw := bounds_i8 wf
 refine ⟨⟨tx, wd, s⟩, ?_, ⟨by show tx.size <= _; unfold reachBytes at sz; omega, bw.1, by show wd <= 127; omega⟩, sf, sb⟩
 simp only [List.cons.injEq, and_true] at e
 obtain ⟨rfl, rfl, rfl⟩ := e
 rfl
set_option maxRecDepth 100000 in
theorem Ku {n : Nat} {cs : List Value} {y : DataW H × List MemPlace} (h : DataW.trod enc Tryz.prog w base spare held n 22 cs = some y) (sp : ∀ b, spare b = true) (hw : zP y.1 22) :
  ∃ (A : Option Addr) (c : Nat) (L : List Cel), cs = [.slice A L.length c] /\ (A = none -> c = 0) /\ L.length <= c /\ c * 32 <= 140737488351232 /\ Sees w w.heap.size A (zc L) /\ ∀ x ∈ L, okT x /\ zh x.st.fg /\ zh x.st.bg := by
 have cb : Tryz.prog.bytesOf 58 = 32 := by kernel_rfl
 obtain ⟨A, c, L, h1, h2, h3, h4, h5, h6⟩ := Jj celV 5 (by decide) (fun _ => rfl) emptyC (fun x => okT x /\ zh x.st.fg /\ zh x.st.bg) Tryz.underlying22 (by kernel_rfl) (fun n cs y => Kt) h sp hw
 rw [cb] at h4
 exact ⟨A, c, L, h1, h2, h3, by unfold reachBytes at h4; omega, h5, h6⟩
set_option maxRecDepth 100000 in
theorem Kv {n : Nat} {cs : List Value} {y : DataW H × List MemPlace} (h : DataW.trod enc Tryz.prog w base spare held n 24 cs = some y) (sp : ∀ b, spare b = true) (hw : zP y.1 24) : ∃ t : SA, cs = scrC t /\ ScrD w t /\ ∀ x ∈ t.s.cells, zh x.st.fg /\ zh x.st.bg := by
 obtain ⟨xs, m, _, hx, hl, hlen, hf⟩ := DataW.trod_struct Tryz.underlying24 h
 have c6 : Tryz.prog.cellsOf 24 = 6 := by kernel_rfl
 have e1 : Tryz.prog.cellsOf 3 = 1 := by kernel_rfl
 have e2 : Tryz.prog.cellsOf 22 = 1 := by kernel_rfl
 have e3 : Tryz.prog.cellsOf 4 = 1 := by kernel_rfl
 rw [c6] at hl
 rw [hx] at hw
 match cs, hl, xs, hlen with
 | [v0, v1, v2, v3, v4, v5], _, [y0, y1, y2, y3, y4, y5], _ =>
  have h0 := hf 0 _ rfl
  have h1 := hf 1 _ rfl
  have h2 := hf 2 _ rfl
  have h3 := hf 3 _ rfl
  have h4 := hf 4 _ rfl
  have h5 := hf 5 _ rfl
  simp [e1, e2, e3] at h0 h1 h2 h3 h4 h5
  obtain ⟨a0, e, _, _⟩ := DataW.trod_int Tryz.underlying3 h0
  obtain rfl := (List.cons.inj e).1
  obtain ⟨a1, e, _, _⟩ := DataW.trod_int Tryz.underlying3 h1
  obtain rfl := (List.cons.inj e).1
  have l2 : zP y2.1 22 := xY (j := 2) Tryz.underlying24 hw rfl rfl
  obtain ⟨A, c, L, e, q1, q2, q3, q4, q5⟩ := Ku h2 sp l2
  obtain rfl := (List.cons.inj e).1
  obtain ⟨a3, e, _, _⟩ := DataW.trod_int Tryz.underlying3 h3
  obtain rfl := (List.cons.inj e).1
  obtain ⟨a4, e, _, _⟩ := DataW.trod_int Tryz.underlying3 h4
  obtain rfl := (List.cons.inj e).1
  obtain ⟨a5, e, _⟩ := DataW.trod_bool Tryz.underlying4 h5
  obtain rfl := (List.cons.inj e).1
  exact ⟨⟨⟨a0, a1, L, a3, a4, a5⟩, A, c⟩, rfl, ⟨q1, q2, q3, q4, fun x hx => (q5 x hx).1⟩, fun x hx => (q5 x hx).2⟩
end
end
end Go.Proofs.YtifoijbpbigaaaaGreatDoor
