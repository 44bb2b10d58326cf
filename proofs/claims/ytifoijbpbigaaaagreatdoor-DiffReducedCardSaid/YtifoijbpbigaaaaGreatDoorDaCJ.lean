/- What lies below tapes (kept of earlier texts: RbB, RbC, RbD). -/
import Derived.Test.YtifoijbpbigaaaaGreatDoorDaCI
set_option linter.unusedVariables false
set_option linter.unusedSimpArgs false
namespace Go.Proofs.YtifoijbpbigaaaaGreatDoor
section
open Go Go.RowKit Go.Sort
section
theorem Xa {P : Program} (w : World) (base : Nat) (t ty e : TypeId) (i : TypeInfo) (z : Value) (size bytes : Nat) (ht : P.underlying t = some (.slice e)) (hi : P.info? e = some i) (hz : i.zero = some z)
  (hsize : i.size = size) (hby : i.bytes = bytes) (hzs : z.cells.size = size) (hsz : 0 < size)
  (v : Value) (n : Nat) (xs : List Value) (hown : w.ownsRow base e size v n xs)
  (a : Addr) (m c : Nat) (news : List Value) (hl : news.length = m * size) (hnews : ∀ j u, news[j]? = some u -> w.cell? (a.add j) = some u) (h1 : ∀ u ∈ news, u.oneCell' = true)
  (h63 : n + m <= maxLen) (hbytes : (n + m) * bytes <= 140737488355328) (hbase : base <= w.heap.size) :
  ∃ v' w', (Builtin.append_ #[t, t] ty #[v, .slice (some a) m c]).run P w = .ok v' w' /\ w'.ownsRow base e size v' (n + m) (xs ++ news) /\
   ((v'.ownBlock = v.ownBlock /\ w.grownBy w' v.ownBlock) \/ (v'.ownBlock = some w.heap.size /\ w.grownBy w' none)) := by
 obtain ⟨v', w', hr, ho, hg, hn, hd⟩ := run_append_own_at (P := P) w base t ty e i z size bytes ht hi hz hsize hby hzs hsz v n xs hown a m c news hl hnews h1 h63 hbytes hbase
 refine ⟨v', w', hr, ho, ?_⟩
 rcases hown.2 with ⟨q, _⟩ | ⟨g, cap, cur, q, hbg, hgg, hnc, hcm, hcs, ht'⟩
 ·have eb : v.ownBlock = none := by rw [q]; rfl
  rw [eb] at hg hd ⊢
  rcases hd with d | d
  ·exact Or.inl ⟨d, hg⟩
  ·exact Or.inr ⟨d, hg⟩
 ·by_cases room : n + m <= cap
  ·subst q
   obtain ⟨w2, hr2, _, _⟩ := run_append_fits (P := P) w base t ty e i size ht hi hsize g n cap xs hown a m c news hl hnews h1 room
   rw [hr] at hr2
   injection hr2 with e1 e2
   exact Or.inl ⟨by rw [e1]; rfl, hg⟩
  ·subst q
   subst hsize
   have holds : ∀ j u, xs[j]? = some u -> w.cell? ((⟨g, 0, none⟩ : Addr).add j) = some u := hown.cells (g := g) rfl
   have hm : n + m <= 9223372036854775807 := by simp only [maxLen] at h63; omega
   have hr2 := run_append_grow (P := P) w t ty e i z ht hi hz ⟨g, 0, none⟩ n cap xs hown.1 holds a m c news hl hnews (by omega) (by omega) (growslice_fits (by omega) (by rw [hby]; exact hbytes))
   rw [hr] at hr2
   injection hr2 with e1 e2
   exact Or.inr ⟨by rw [e1]; rfl, by rw [e2]; exact ⟨rfl, rfl, rfl, by simp, fun k hk _ => heap_alloc_old w.drew _ hk⟩⟩
def Rep (x : List Value) (n : Nat) : List Value := (List.replicate n x).flatten
theorem Rep_zero (x : List Value) : Rep x 0 = [] := rfl
theorem vd (x : List Value) (n : Nat) : Rep x (n + 1) = Rep x n ++ x := by unfold Rep; rw [List.replicate_succ']; simp
theorem jZ (x : List Value) (n : Nat) : (Rep x n).length = n * x.length := by unfold Rep; simp
theorem ve (x : List Value) (n k q : Nat) (hk : k < n) (hq : q < x.length) : (Rep x n)[k * x.length + q]? = x[q]? := by
 induction n with
 | zero => omega
 | succ n ih =>
  rw [vd]
  by_cases lt : k < n
  ·have : k * x.length + q < (Rep x n).length := by
    rw [jZ]
    have := Nat.mul_le_mul_right x.length (show k + 1 <= n from lt)
    rw [Nat.add_mul] at this
    omega
   rw [List.getElem?_append_left this]
   exact ih lt
  ·have e : k = n := by omega
   subst e
   rw [List.getElem?_append_right (by rw [jZ]; omega), jZ]
   congr 1
   omega
structure Rv where
 A : Option Addr
 n : Nat
 c : Nat
def Rv.v (r : Rv) : Value := .slice r.A r.n r.c
def SeesT (w : World) (T : TypeId) (A : Option Addr) (xs : List Value) : Prop := xs ≠ [] -> ∃ g cur, A = some ⟨g, 0, none⟩ /\ w.heap[g]? = some (.cells cur T (0, 0)) /\ cur.toList.take xs.length = xs
theorem SeesT.of_own {w : World} {LO sz n c : Nat} {T : TypeId} {A : Option Addr} {xs : List Value} (h : w.ownsRow LO T sz (.slice A n c) n xs) : SeesT w T A xs := fun ne => by
 rcases h.2 with ⟨z, n0⟩ | ⟨g, cap, cur, z, hb, hg, hn, hcm, hcs, ht⟩
 ·have := h.1
  rw [n0, Nat.zero_mul] at this
  exact absurd (List.eq_nil_of_length_eq_zero this) ne
 ·injection z with z1 z2 z3
  exact ⟨g, cur, z1, hg, by rw [h.1]; exact ht⟩
theorem SeesT.pre {w : World} {T : TypeId} {A : Option Addr} {xs ys : List Value} (h : SeesT w T A (xs ++ ys)) : SeesT w T A xs := fun ne => by
 obtain ⟨g, cur, e, hg, ht⟩ := h (by simp [ne])
 refine ⟨g, cur, e, hg, ?_⟩
 have := congrArg (List.take xs.length) ht
 rw [List.take_left, List.take_take, List.length_append, Nat.min_eq_left (by omega)] at this
 exact this
theorem SeesT.keep {w w' : World} {T : TypeId} {A : Option Addr} {xs : List Value} (h : SeesT w T A xs) (k : ∀ g cur, A = some ⟨g, 0, none⟩ -> w.heap[g]? = some (.cells cur T (0, 0)) -> w'.heap[g]? = w.heap[g]?) : SeesT w' T A xs := fun ne => by
 obtain ⟨g, cur, e, hg, ht⟩ := h ne
 exact ⟨g, cur, e, (k g cur e hg).trans hg, ht⟩
theorem SeesT.sees {w : World} {T : TypeId} {A : Option Addr} {xs : List Value} (h : SeesT w T A xs) : Sees w w.heap.size A xs := fun ne => by
 obtain ⟨g, cur, e, hg, ht⟩ := h ne
 refine ⟨_, e, (Array.getElem?_eq_some_iff.1 hg).1, fun j u hj => ?_⟩
 have : (⟨g, 0, none⟩ : Addr).add j = ⟨g, j, none⟩ := by
  cases j with
  | zero => rfl
  | succ j => show (⟨g, 0 + (j + 1), none⟩ : Addr) = _; rw [Nat.zero_add]
 rw [this, cell_of_row w g j cur T (0, 0) hg]
 have lt : j < xs.length := by
  by_cases c : j < xs.length
  ·exact c
  ·rw [List.getElem?_eq_none (by omega)] at hj; cases hj
 have e2 : (cur.toList.take xs.length)[j]? = xs[j]? := by rw [ht]
 rw [List.getElem?_take, if_pos lt, hj] at e2
 simpa using e2
theorem jq {w : World} {g : Nat} {o : Obj} (h : w.heap[g]? = some o) : g < w.heap.size := (Array.getElem?_eq_some_iff.1 h).1
theorem xZ {w : World} {LO sz n : Nat} {T : TypeId} {v : Value} {xs : List Value} (h : w.ownsRow LO T sz v n xs) {g : Nat} (e : v.ownBlock = some g) : ∃ cur, w.heap[g]? = some (.cells cur T (0, 0)) := by
 rcases h.2 with ⟨z, n0⟩ | ⟨g', cap, cur, z, hb, hg, _⟩
 ·rw [z] at e; cases e
 ·rw [z] at e
  injection e with e
  have e : g' = g := e
  subst e
  exact ⟨cur, hg⟩
theorem Qt {w w' : World} {LO sz n : Nat} {T : TypeId} {v : Value} {xs : List Value} (h : w.ownsRow LO T sz v n xs) (k : ∀ g, v.ownBlock = some g -> w'.heap[g]? = w.heap[g]?) : w'.ownsRow LO T sz v n xs := by
 refine ⟨h.1, ?_⟩
 rcases h.2 with a | ⟨g, cap, cur, rfl, h2, h3, h4⟩
 ·exact Or.inl a
 ·exact Or.inr ⟨g, cap, cur, rfl, h2, (k g rfl).trans h3, h4⟩
def Apart (S : List Rv) : Prop := ∀ j l (hj : j < S.length) (hl : l < S.length), j ≠ l -> ∀ g, S[j].v.ownBlock = some g -> S[l].v.ownBlock ≠ some g
structure Mrk (W0 : World) (LO : Nat) (T T2 : TypeId) (sz : Nat) (mk : Nat -> List Value) (Al : Option Addr) (S : List Rv) (i k : Nat) (w : World) : Prop where
 rows : ∀ j (h : j < S.length), ∃ xs, w.ownsRow LO T sz S[j].v S[j].n xs /\ (j < i -> xs = Rep (mk j) S[j].n) /\ (j = i -> xs.take (k * sz) = Rep (mk i) k)
 apart : Apart S
 out : SeesT w T2 Al (S.map Rv.v)
 ne : T ≠ T2
 bel : Below LO W0 w
 lo : LO <= W0.heap.size
theorem Mrk.put {W0 : World} {LO sz i k : Nat} {T T2 : TypeId} {mk : Nat -> List Value} {Al : Option Addr} {S : List Rv} {w w' : World} (h : Mrk W0 LO T T2 sz mk Al S i k w) (hi : i < S.length) {g : Nat} (hg : S[i].v.ownBlock = some g) (gr : w.grownBy w' (some g)) {xs' : List Value} (o : w'.ownsRow LO T sz S[i].v S[i].n xs') (e : xs'.take ((k + 1) * sz) = Rep (mk i) (k + 1)) : Mrk W0 LO T T2 sz mk Al S i (k + 1) w' := by
 refine ⟨fun j hj => ?_, h.apart, h.out.keep (fun g' cur a b => ?_), h.ne, h.bel.grown gr (Nat.le_trans h.lo h.bel.size) (fun k e => by injection e with e; subst e; exact (o.lt _ hg).1), h.lo⟩
 ·by_cases c : j = i
  ·subst c
   exact ⟨xs', o, fun z => by omega, fun _ => e⟩
  ·obtain ⟨xs, o1, r1, r2⟩ := h.rows j hj
   exact ⟨xs, o1.kept gr (Or.inr (fun z => h.apart j i hj hi c g z hg)), r1, fun z => absurd z c⟩
 ·refine gr.block g' (jq b) (fun z => ?_)
  injection z with z
  subst z
  obtain ⟨xs, o1, _⟩ := h.rows i hi
  obtain ⟨cur2, b2⟩ := xZ o1 hg
  rw [b] at b2
  injection b2 with b2
  injection b2 with _ b2
  exact h.ne b2.symm
theorem Mrk.next {W0 : World} {LO sz i : Nat} {T T2 : TypeId} {mk : Nat -> List Value} {Al : Option Addr} {S : List Rv} {w : World} {n : Nat} (h : Mrk W0 LO T T2 sz mk Al S i n w) (hi : i < S.length) (hn : n = S[i].n) : Mrk W0 LO T T2 sz mk Al S (i + 1) 0 w := by
 refine ⟨fun j hj => ?_, h.apart, h.out, h.ne, h.bel, h.lo⟩
 obtain ⟨xs, o1, r1, r2⟩ := h.rows j hj
 refine ⟨xs, o1, fun z => ?_, fun z => by rw [Nat.zero_mul]; rfl⟩
 by_cases c : j = i
 ·subst c
  have := r2 rfl
  rw [hn, List.take_of_length_le (by rw [o1.1]; exact Xm)] at this
  exact this
 ·exact r1 (by omega)
structure Grw (W0 : World) (LO : Nat) (T T2 : TypeId) (sz : Nat) (mk mk2 : Nat -> List Value) (Al : Option Addr) (S : List Rv) (H0 : Nat) (M : List Rv) (mv : Value) (w : World) : Prop where
 rest : ∀ j (h : j < S.length), M.length <= j -> w.ownsRow LO T sz S[j].v S[j].n (Rep (mk j) S[j].n)
 old : ∀ j (h : j < S.length), j < M.length -> SeesT w T S[j].A (Rep (mk j) S[j].n)
 new : ∀ j (h : j < S.length) (hm : j < M.length), M[j].n = S[j].n + 70 /\ SeesT w T M[j].A (Rep (mk j) S[j].n ++ Rep (mk2 j) 70)
 ap : ∀ j (h : j < S.length) (hm : j < M.length) g, M[j].v.ownBlock = some g -> H0 <= g \/ S[j].v.ownBlock = some g
 apart : Apart S
 lowS : ∀ j (h : j < S.length) g, S[j].v.ownBlock = some g -> g < H0
 len : M.length <= S.length
 out : SeesT w T2 Al (S.map Rv.v)
 lowA : ∀ a, Al = some a -> a.block < H0
 ne : T ≠ T2
 mo : w.ownsRow H0 T2 1 mv M.length (M.map Rv.v)
 bel : Below LO W0 w
 lo : LO <= W0.heap.size
 hi : H0 <= w.heap.size
 lh : LO <= H0
theorem Grw.start {W0 : World} {LO sz i : Nat} {T T2 : TypeId} {mk mk2 : Nat -> List Value} {Al : Option Addr} {S : List Rv} {w : World} (h : Mrk W0 LO T T2 sz mk Al S S.length 0 w) (H0 : Nat) (ls : ∀ j (h : j < S.length) g, S[j].v.ownBlock = some g -> g < H0) (la : ∀ a, Al = some a -> a.block < H0) (hi : H0 <= w.heap.size) (lh : LO <= H0) : Grw W0 LO T T2 sz mk mk2 Al S H0 [] (.slice none 0 0) w := by
 refine ⟨fun j hj _ => ?_, fun j hj z => (by cases z), fun j hj z => (by cases z), fun j hj z => (by cases z), h.apart, ls, Nat.zero_le _, h.out, la, h.ne, World.ownsRow_nil _ _ _ _, h.bel, h.lo, hi, lh⟩
 obtain ⟨xs, o1, r1, _⟩ := h.rows j hj
 rw [r1 hj] at o1
 exact o1
structure Inn (W0 : World) (LO : Nat) (T : TypeId) (sz : Nat) (x y : List Value) (r : Rv) (WS : World) (q : Nat) (A : Option Addr) (c : Nat) (w : World) : Prop where
 same : ∀ b, b < WS.heap.size -> r.v.ownBlock ≠ some b -> w.heap[b]? = WS.heap[b]?
 size : WS.heap.size <= w.heap.size
 bel : Below LO W0 w
 lo : LO <= W0.heap.size
 cur : w.ownsRow LO T sz (.slice A (r.n + q) c) (r.n + q) (Rep x r.n ++ Rep y q)
 old : SeesT w T r.A (Rep x r.n)
 blk : ∀ g, (Value.slice A (r.n + q) c).ownBlock = some g -> r.v.ownBlock = some g \/ WS.heap.size <= g
theorem Inn.start {W0 : World} {LO sz : Nat} {T T2 : TypeId} {mk mk2 : Nat -> List Value} {Al : Option Addr} {S : List Rv} {H0 : Nat} {M : List Rv} {mv : Value} {w : World} (h : Grw W0 LO T T2 sz mk mk2 Al S H0 M mv w) (hi : M.length < S.length) : Inn W0 LO T sz (mk M.length) (mk2 M.length) S[M.length] w 0 S[M.length].A S[M.length].c w := by
 have o := h.rest M.length hi Xm
 refine ⟨fun b _ _ => rfl, Xm, h.bel, h.lo, ?_, SeesT.of_own o, fun g e => Or.inl e⟩
 rw [Rep_zero, List.append_nil]
 exact o
theorem Xb {w : World} {LO sz n c : Nat} {T : TypeId} {A : Option Addr} {xs : List Value} (h : w.ownsRow LO T sz (.slice A n c) n xs) {g : Nat} (e : (Value.slice A n c).ownBlock = some g) : A = some ⟨g, 0, none⟩ := by
 rcases h.2 with ⟨z, n0⟩ | ⟨g', cap, cur, z, hb, hg, _⟩
 ·injection z with z1; rw [z1] at e; cases e
 ·injection z with z1
  rw [z1] at e
  injection e with e
  have e : g' = g := e
  rw [z1, e]
theorem Inn.app {W0 : World} {LO sz : Nat} {T : TypeId} {x y : List Value} {r : Rv} {WS : World} {q : Nat} {A : Option Addr} {c : Nat} {w w1 w3 : World} (h : Inn W0 LO T sz x y r WS q A c w) (bu : Below w.heap.size w w1) {A' : Option Addr} {c' : Nat} (o : w3.ownsRow LO T sz (.slice A' (r.n + q + 1) c') (r.n + q + 1) ((Rep x r.n ++ Rep y q) ++ y))
  (d : ((Value.slice A' (r.n + q + 1) c').ownBlock = (Value.slice A (r.n + q) c).ownBlock /\ w1.grownBy w3 (Value.slice A (r.n + q) c).ownBlock) \/ ((Value.slice A' (r.n + q + 1) c').ownBlock = some w1.heap.size /\ w1.grownBy w3 none)) : Inn W0 LO T sz x y r WS (q + 1) A' c' w3 := by
 have L1 : LO <= w.heap.size := Nat.le_trans h.lo h.bel.size
 have B1 : Below LO W0 w1 := h.bel.trans (bu.mono L1)
 have o' : w3.ownsRow LO T sz (.slice A' (r.n + (q + 1)) c') (r.n + (q + 1)) (Rep x r.n ++ Rep y (q + 1)) := by
  rw [vd, <- List.append_assoc]; exact o
 rcases d with ⟨d1, d2⟩ | ⟨d1, d2⟩
 ·refine ⟨fun b hb nb => ?_, Nat.le_trans h.size (Nat.le_trans bu.size d2.size), B1.grown d2 (Nat.le_trans L1 bu.size) (fun k e => (h.cur.lt k e).1), h.lo, o', fun ne => ?_, fun g e => h.blk g (d1.symm.trans e)⟩
  ·have lb : b < w.heap.size := Nat.lt_of_lt_of_le hb h.size
   refine (d2.block b (Nat.lt_of_lt_of_le lb bu.size) (fun z => ?_)).trans ((bu.block b lb).trans (h.same b hb nb))
   rcases h.blk b z.symm with q | q
   ·exact nb q
   ·omega
  ·obtain ⟨g, cur, e, hg, ht⟩ := h.old ne
   by_cases z : (Value.slice A (r.n + q) c).ownBlock = some g
   ·have e2 := Xb o (d1.trans z)
    have := (SeesT.of_own o').pre ne
    rw [e2] at this
    rw [e]
    exact this
   ·have lb := jq hg
    exact ⟨g, cur, e, ((d2.block g (Nat.lt_of_lt_of_le lb bu.size) (fun q => z q.symm)).trans (bu.block g lb)).trans hg, ht⟩
 ·refine ⟨fun b hb nb => ?_, Nat.le_trans h.size (Nat.le_trans bu.size d2.size), B1.grown d2 (Nat.le_trans L1 bu.size) (fun k e => by cases e), h.lo, o', h.old.keep (fun g cur e hg => ?_), fun g e => ?_⟩
  ·have lb : b < w.heap.size := Nat.lt_of_lt_of_le hb h.size
   exact (d2.block b (Nat.lt_of_lt_of_le lb bu.size) (fun z => by cases z)).trans ((bu.block b lb).trans (h.same b hb nb))
  ·have lb := jq hg
   exact (d2.block g (Nat.lt_of_lt_of_le lb bu.size) (fun z => by cases z)).trans (bu.block g lb)
  ·have e : (Value.slice A' (r.n + q + 1) c').ownBlock = some g := e
   rw [d1] at e
   injection e with e
   have := bu.size
   have := h.size
   exact Or.inr (by omega)
theorem Inn.mid {W0 : World} {LO sz : Nat} {T T2 : TypeId} {mk mk2 : Nat -> List Value} {Al : Option Addr} {S : List Rv} {H0 : Nat} {M : List Rv} {mv : Value} {WS : World} (h : Grw W0 LO T T2 sz mk mk2 Al S H0 M mv WS) (hi : M.length < S.length) {q : Nat} {A : Option Addr} {c : Nat} {w : World} (g : Inn W0 LO T sz (mk M.length) (mk2 M.length) S[M.length] WS q A c w) :
  w.ownsRow H0 T2 1 mv M.length (M.map Rv.v) /\ SeesT w T2 Al (S.map Rv.v) /\ H0 <= w.heap.size := by
 refine ⟨Qt h.mo (fun b e => ?_), h.out.keep (fun b cur e hb => ?_), Nat.le_trans h.hi g.size⟩
 ·refine g.same b (h.mo.lt b e).2 (fun z => ?_)
  have := h.lowS _ hi b z
  have := (h.mo.lt b e).1
  omega
 ·refine g.same b (jq hb) (fun z => ?_)
  obtain ⟨cur2, b2⟩ := xZ (h.rest _ hi Xm) z
  rw [hb] at b2
  injection b2 with b2
  injection b2 with _ b2
  exact h.ne b2.symm
theorem Grw.next {W0 : World} {LO sz : Nat} {T T2 : TypeId} {mk mk2 : Nat -> List Value} {Al : Option Addr} {S : List Rv} {H0 : Nat} {M : List Rv} {mv : Value} {WS : World} (h : Grw W0 LO T T2 sz mk mk2 Al S H0 M mv WS) (hi : M.length < S.length) {A : Option Addr} {c : Nat} {w : World} (g : Inn W0 LO T sz (mk M.length) (mk2 M.length) S[M.length] WS 70 A c w)
  {w1 w3 : World} (bu : Below w.heap.size w w1) {mv' : Value} {n : Nat} (hn : n = S[M.length].n + 70) (o : w3.ownsRow H0 T2 1 mv' (M.length + 1) (M.map Rv.v ++ [.slice A n c])) (gr : w1.grownBy w3 mv.ownBlock) : Grw W0 LO T T2 sz mk mk2 Al S H0 (M ++ [⟨A, n, c⟩]) mv' w3 := by
 subst hn
 obtain ⟨m1, m2, m3⟩ := Inn.mid h hi g
 have lm : (M ++ [(⟨A, S[M.length].n + 70, c⟩ : Rv)]).length = M.length + 1 := by rw [List.length_append, List.length_singleton]
 have LW : LO <= w.heap.size := Nat.le_trans g.lo g.bel.size
 -- blocks of the rows' type stand from w to w3
 have step : ∀ b cur, w.heap[b]? = some (Obj.cells cur T (0, 0)) -> w3.heap[b]? = w.heap[b]? := fun b cur hb => by
  have lb := jq hb
  refine (gr.block b (Nat.lt_of_lt_of_le lb bu.size) (fun z => ?_)).trans (bu.block b lb)
  obtain ⟨cur2, b2⟩ := xZ m1 z.symm
  rw [hb] at b2
  injection b2 with b2
  injection b2 with _ b2
  exact h.ne b2
 have keepA : ∀ {B : Option Addr} {xs : List Value}, SeesT w T B xs -> SeesT w3 T B xs := fun s => s.keep (fun b cur e hb => step b cur hb)
 have fromS : ∀ j (hj : j < S.length) (xs : List Value), j ≠ M.length -> SeesT WS T S[j].A xs -> SeesT w T S[j].A xs := fun j hj xs ne s => s.keep (fun b cur e hb => g.same b (jq hb) (fun z => h.apart _ j hi hj (Ne.symm ne) b z (by unfold Rv.v; rw [e]; rfl)))
 refine ⟨fun j hj z => ?_, fun j hj z => ?_, fun j hj hm => ?_, fun j hj hm b e => ?_, h.apart, h.lowS, by rw [lm]; omega, m2.keep (fun b cur e hb => ?_), h.lowA, h.ne, ?_, ?_, h.lo, Nat.le_trans m3 (Nat.le_trans bu.size gr.size), h.lh⟩
 ·rw [lm] at z
  have o1 := h.rest j hj (by omega)
  refine Qt o1 (fun b e => ?_)
  obtain ⟨cur, hb⟩ := xZ o1 e
  have e1 := g.same b (o1.lt b e).2 (fun q => h.apart _ j hi hj (by omega) b q e)
  exact (step b cur (e1.trans hb)).trans e1
 ·rw [lm] at z
  by_cases c : j = M.length
  ·subst c; exact keepA g.old
  ·exact keepA (fromS j hj _ c (h.old j hj (by omega)))
 ·rw [lm] at hm
  by_cases cj : j = M.length
  ·subst cj
   have e : (M ++ [(⟨A, S[M.length].n + 70, c⟩ : Rv)])[M.length]'(by rw [lm]; exact hm) = ⟨A, S[M.length].n + 70, c⟩ := by simp
   rw [e]
   exact ⟨rfl, keepA (SeesT.of_own g.cur)⟩
  ·have lj : j < M.length := by omega
   have e : (M ++ [(⟨A, S[M.length].n + 70, c⟩ : Rv)])[j]'(by rw [lm]; exact hm) = M[j] := List.getElem_append_left lj
   rw [e]
   obtain ⟨n1, n2⟩ := h.new j hj lj
   refine ⟨n1, keepA (n2.keep (fun b cur e hb => g.same b (jq hb) (fun z => ?_)))⟩
   have : M[j].v.ownBlock = some b := by unfold Rv.v; rw [e]; rfl
   rcases h.ap j hj lj b this with q | q
   ·have := h.lowS _ hi b z; omega
   ·exact h.apart _ j hi hj (Ne.symm cj) b z q
 ·rw [lm] at hm
  by_cases cj : j = M.length
  ·subst cj
   have e2 : (M ++ [(⟨A, S[M.length].n + 70, c⟩ : Rv)])[M.length]'(by rw [lm]; exact hm) = ⟨A, S[M.length].n + 70, c⟩ := by simp
   rw [e2] at e
   rcases g.blk b e with q | q
   ·exact Or.inr q
   ·exact Or.inl (Nat.le_trans h.hi q)
  ·have lj : j < M.length := by omega
   have e2 : (M ++ [(⟨A, S[M.length].n + 70, c⟩ : Rv)])[j]'(by rw [lm]; exact hm) = M[j] := List.getElem_append_left lj
   rw [e2] at e
   exact h.ap j hj lj b e
 ·have lb := jq hb
  refine (gr.block b (Nat.lt_of_lt_of_le lb bu.size) (fun z => ?_)).trans (bu.block b lb)
  have := (m1.lt b z.symm).1
  have : b < H0 := h.lowA _ e
  omega
 ·rw [lm, List.map_append, List.map_singleton]; exact o
 ·exact (g.bel.trans (bu.mono LW)).grown gr (Nat.le_trans LW bu.size) (fun k e => Nat.le_trans h.lh (m1.lt k e).1)
end
end
section
open Go Go.RowKit Go.Sort
section
def spC (a : Int) (i : Nat) : List Value := [.string ⟨#[]⟩, .int .i8 0, .int .i32 (a - (i : Int)), .int .i32 0, .int .u8 0]
theorem put5 {w : World} {LO n c g k : Nat} {xs : List Value} (o : w.ownsRow LO 58 5 (.slice (some ⟨g, 0, none⟩) n c) n xs) (hk : k < n) (v0 v1 v2 v3 v4 : Value) (tk : xs.take (k * 5) = Rep [v0, v1, v2, v3, v4] k) :
  (∃ u, w.cell? ⟨g, k * 5, none⟩ = some u) /\ (∃ u, w.cell? ⟨g, k * 5 + 1, none⟩ = some u) /\ (∃ u, w.cell? ⟨g, k * 5 + 2, none⟩ = some u) /\ (∃ u, w.cell? ⟨g, k * 5 + 3, none⟩ = some u) /\ (∃ u, w.cell? ⟨g, k * 5 + 4, none⟩ = some u) /\
  (∃ xs', (((((w.setCell ⟨g, k * 5, none⟩ v0).setCell ⟨g, k * 5 + 1, none⟩ v1).setCell ⟨g, k * 5 + 2, none⟩ v2).setCell ⟨g, k * 5 + 3, none⟩ v3).setCell ⟨g, k * 5 + 4, none⟩ v4).ownsRow LO 58 5 (.slice (some ⟨g, 0, none⟩) n c) n xs' /\ xs'.take ((k + 1) * 5) = Rep [v0, v1, v2, v3, v4] (k + 1)) /\
  w.grownBy (((((w.setCell ⟨g, k * 5, none⟩ v0).setCell ⟨g, k * 5 + 1, none⟩ v1).setCell ⟨g, k * 5 + 2, none⟩ v2).setCell ⟨g, k * 5 + 3, none⟩ v3).setCell ⟨g, k * 5 + 4, none⟩ v4) (some g) := by
 have xl : xs.length = n * 5 := o.1
 have rc : ∀ j, j < 5 -> ∃ v, w.cell? ⟨g, k * 5 + j, none⟩ = some v := fun j hj => ⟨_, (o.cellAt (k * 5 + j) (by omega)).trans (List.getElem?_eq_getElem (by omega))⟩
 refine ⟨rc 0 (by decide), rc 1 (by decide), rc 2 (by decide), rc 3 (by decide), rc 4 (by decide), ⟨_, (((((o.stored (k * 5) v0).1.stored (k * 5 + 1) v1).1.stored (k * 5 + 2) v2).1.stored (k * 5 + 3) v3).1.stored (k * 5 + 4) v4).1, ?_⟩, ?_⟩
 ·rw [show (k + 1) * 5 = k * 5 + 5 by omega, set5 _ _ _ _ _ _ _ (by omega), tk, <- vd]
 ·exact ((((qe w ⟨g, k * 5, none⟩ v0).trans (qe _ ⟨g, k * 5 + 1, none⟩ v1)).trans (qe _ ⟨g, k * 5 + 2, none⟩ v2)).trans (qe _ ⟨g, k * 5 + 3, none⟩ v3)).trans (qe _ ⟨g, k * 5 + 4, none⟩ v4)
theorem app_cel2 {w : World} {LO n c : Nat} {A : Option Addr} {xs : List Value} (o : w.ownsRow LO 58 5 (.slice A n c) n xs) (a : Int) (i : Nat) (hLO : LO <= w.heap.size) (len : n <= 1000000000000) :
  ∃ A' c' w3, (Builtin.append_ #[22, 22] 22 #[.slice A n c, .slice (some ⟨w.heap.size, 0, none⟩) 1 1]).run Tryz.prog (w.alloc (.cells #[.string ⟨#[]⟩, .int .i8 0, .int .i32 (a - (i : Int)), .int .i32 0, .int .u8 0] 58)) = .ok (.slice A' (n + 1) c') w3 /\
   w3.ownsRow LO 58 5 (.slice A' (n + 1) c') (n + 1) (xs ++ spC a i) /\
   (((Value.slice A' (n + 1) c').ownBlock = (Value.slice A n c).ownBlock /\ (w.alloc (.cells #[.string ⟨#[]⟩, .int .i8 0, .int .i32 (a - (i : Int)), .int .i32 0, .int .u8 0] 58)).grownBy w3 (Value.slice A n c).ownBlock) \/ ((Value.slice A' (n + 1) c').ownBlock = some (w.alloc (.cells #[.string ⟨#[]⟩, .int .i8 0, .int .i32 (a - (i : Int)), .int .i32 0, .int .u8 0] 58)).heap.size /\ (w.alloc (.cells #[.string ⟨#[]⟩, .int .i8 0, .int .i32 (a - (i : Int)), .int .i32 0, .int .u8 0] 58)).grownBy w3 none)) := by
 obtain ⟨i0, hi0, hzz⟩ := Option.map_eq_some_iff.1 kO
 simp only [Prod.mk.injEq] at hzz
 obtain ⟨hz0, hz1, hz2⟩ := hzz
 obtain ⟨z0, hz3, hz4⟩ := Option.map_eq_some_iff.1 hz0
 have bu : Below w.heap.size w (w.alloc (.cells #[.string ⟨#[]⟩, .int .i8 0, .int .i32 (a - (i : Int)), .int .i32 0, .int .u8 0] 58)) := (Below.refl _ w).alloc Xm _
 have o1 := zD o bu
 obtain ⟨v', w3, r1, r2, r3⟩ := Xa (P := Tryz.prog) (w.alloc (.cells #[.string ⟨#[]⟩, .int .i8 0, .int .i32 (a - (i : Int)), .int .i32 0, .int .u8 0] 58)) LO 22 22 58 i0 z0 5 32 Tryz.underlying22 hi0 hz3 hz1 hz2 (by rw [hz4]; rfl) (by decide) _ n xs o1 ⟨w.heap.size, 0, none⟩ 1 1 (spC a i) rfl (qj w (spC a i) _) (by intro u hu; simp [spC] at hu; rcases hu with rfl | rfl | rfl | rfl | rfl <;> rfl) (by unfold maxLen; omega) (by omega) (Nat.le_trans hLO bu.size)
 obtain ⟨A', c', e⟩ := kP r2
 subst e
 exact ⟨A', c', w3, r1, r2, r3⟩
theorem Xc : (Tryz.prog.info? 22).map (fun i => (i.zero, i.size, i.bytes)) = some (some (.slice none 0 0), 1, 24) := by kernel_rfl
theorem app_slc {w : World} {LO n c : Nat} {A : Option Addr} {xs : List Value} (o : w.ownsRow LO 22 1 (.slice A n c) n xs) (u : Value) (hu : u.oneCell' = true) (hLO : LO <= w.heap.size) (len : n <= 1000000000) :
  ∃ A' c' w3, (Builtin.append_ #[35, 35] 35 #[.slice A n c, .slice (some ⟨w.heap.size, 0, none⟩) 1 1]).run Tryz.prog (w.alloc (.cells #[u] 22)) = .ok (.slice A' (n + 1) c') w3 /\
   w3.ownsRow LO 22 1 (.slice A' (n + 1) c') (n + 1) (xs ++ [u]) /\ (w.alloc (.cells #[u] 22)).grownBy w3 (Value.slice A n c).ownBlock := by
 obtain ⟨i0, hi0, hz0, hz1, hz2⟩ := info_parts Xc
 have bu : Below w.heap.size w (w.alloc (.cells #[u] 22)) := (Below.refl _ w).alloc Xm _
 obtain ⟨v', w3, r1, r2, r3, r4⟩ := run_append_own (P := Tryz.prog) (w.alloc (.cells #[u] 22)) LO 35 35 22 i0 (.slice none 0 0) 1 24 Tryz.underlying35 hi0 hz0 hz1 hz2 rfl (by decide) _ n _ (zF o bu) ⟨w.heap.size, 0, none⟩ 1 1 [u] rfl (qj w [u] _) (by intro x hx; rw [List.mem_singleton.1 hx]; exact hu) (by unfold maxLen; omega) (by omega) (Nat.le_trans hLO bu.size)
 obtain ⟨A', c', e⟩ := qX r2
 subst e
 exact ⟨A', c', w3, r1, r2, r3⟩
theorem xu {w : World} {T2 : TypeId} {bl i : Nat} {S : List Rv} (h : SeesT w T2 (some ⟨bl, 0, none⟩) (S.map Rv.v)) (hi : i < S.length) : w.cell? ⟨bl, i, none⟩ = some (.slice S[i].A S[i].n S[i].c) := by
 obtain ⟨ad, e, _, q⟩ := h.sees.at (k := i) (by simpa using hi)
 cases e
 rw [List.getElem_map] at q
 have : (⟨bl, 0, none⟩ : Addr).add i = ⟨bl, i, none⟩ := by
  cases i with
  | zero => rfl
  | succ j => show (⟨bl, 0 + (j + 1), none⟩ : Addr) = _; rw [Nat.zero_add]
 rw [this] at q
 exact q
theorem rep_fg {w : World} {T : TypeId} {A : Option Addr} {a : Int} {i n k : Nat} (h : SeesT w T A (Rep (spC a i) n)) (hk : k < n) : ∃ g, A = some ⟨g, 0, none⟩ /\ w.cell? ⟨g, k * 5 + 2, none⟩ = some (.int .i32 (a - (i : Int))) := by
 have ne : Rep (spC a i) n ≠ [] := fun z => by have := congrArg List.length z; rw [jZ] at this; simp [spC] at this; omega
 obtain ⟨g, cur, e, _⟩ := h ne
 obtain ⟨ad, e2, _, q⟩ := h.sees ne
 rw [e] at e2
 cases e2
 refine ⟨g, e, ?_⟩
 have := q (k * 5 + 2) (.int .i32 (a - (i : Int))) (ve (spC a i) n k 2 hk (by simp [spC]))
 have e3 : (⟨g, 0, none⟩ : Addr).add (k * 5 + 2) = ⟨g, k * 5 + 2, none⟩ := by
  show (⟨g, 0 + (k * 5 + 2), none⟩ : Addr) = _
  rw [Nat.zero_add]
 rw [e3] at this
 exact this
theorem rep2_fg {w : World} {T : TypeId} {A : Option Addr} {a b : Int} {i n m k : Nat} (h : SeesT w T A (Rep (spC a i) n ++ Rep (spC b i) m)) (hk : k < n + m) : ∃ g, A = some ⟨g, 0, none⟩ /\ w.cell? ⟨g, k * 5 + 2, none⟩ = some (.int .i32 ((if k < n then a else b) - (i : Int))) := by
 have ln : (Rep (spC a i) n).length = n * 5 := by rw [jZ]; rfl
 have lm : (Rep (spC b i) m).length = m * 5 := by rw [jZ]; rfl
 have ne : Rep (spC a i) n ++ Rep (spC b i) m ≠ [] := fun z => by have := congrArg List.length z; rw [List.length_append, ln, lm] at this; simp at this; omega
 obtain ⟨g, cur, e, _⟩ := h ne
 obtain ⟨ad, e2, _, q⟩ := h.sees ne
 rw [e] at e2
 cases e2
 refine ⟨g, e, ?_⟩
 have e3 : (⟨g, 0, none⟩ : Addr).add (k * 5 + 2) = ⟨g, k * 5 + 2, none⟩ := by
  show (⟨g, 0 + (k * 5 + 2), none⟩ : Addr) = _
  rw [Nat.zero_add]
 rw [<- e3]
 refine q (k * 5 + 2) _ ?_
 by_cases c : k < n
 ·rw [if_pos c, List.getElem?_append_left (by omega)]
  exact ve (spC a i) n k 2 c (by simp [spC])
 ·rw [if_neg c, List.getElem?_append_right (by omega), ln]
  have := ve (spC b i) m (k - n) 2 (by omega) (by simp [spC])
  rw [show (spC b i).length = 5 from rfl] at this
  rw [show k * 5 + 2 - n * 5 = (k - n) * 5 + 2 by omega]
  exact this
end
end
section
open Go Go.RowKit Go.Sort
section
set_option maxHeartbeats 16000000 in
set_option maxRecDepth 100000 in
theorem Xd (S : List Rv) (bl cl LO : Nat) (hS : S.length <= 1000) (hn : ∀ r ∈ S, r.n <= 1000000000) (w : World) (hLO : LO <= w.heap.size)
  (rows : ∀ j (h : j < S.length), ∃ xs, w.ownsRow LO 58 5 S[j].v S[j].n xs) (apart : Apart S) (out : SeesT w 22 (some ⟨bl, 0, none⟩) (S.map Rv.v)) (hbl : bl < w.heap.size) :
  Calls Tryz.prog 12 #[.slice (some ⟨bl, 0, none⟩) S.length cl] w fun e w' => e = .returned (.bool true) /\ Below LO w w' := by
 have M0 : Hid (Mrk w LO 58 22 5 (spC (-10)) (some ⟨bl, 0, none⟩) S 0 0 w) := Xk ⟨fun j h => by
  obtain ⟨xs, o⟩ := rows j h
  exact ⟨xs, o, fun z => by omega, fun _ => by rw [Nat.zero_mul]; rfl⟩, apart, out, by decide, Below.refl _ _, hLO⟩
 have LS : Hid (∀ j (h : j < S.length) g, S[j].v.ownBlock = some g -> g < w.heap.size) := Xk (fun j h g e => by
  obtain ⟨xs, o⟩ := rows j h
  exact (o.lt g e).2)
 have HBL := Xk hbl
 have HN := Xk hn
 have HL := Xk hLO
 obtain ⟨N, hN⟩ : ∃ N, N = S.length := ⟨_, rfl⟩
 have HNN := Xk hN
 rw [<- hN] at hS ⊢
 clear rows apart out hbl hn hLO hN
 go_enter Tryz.func12, Tryz.ntmps12
 go_wp2_with fail
 go_loopw [3] (fun s3 wr => ∃ i : Nat, i <= N /\ s3 = .int .i64 (i : Int) /\ Hid (Mrk w LO 58 22 5 (spC (-10)) (some ⟨bl, 0, none⟩) S i 0 wr)) (fun s3 _ => N - (intOf s3).toNat)
 case atStart => exact ⟨0, Nat.zero_le _, rfl, M0⟩
 case round =>
  obtain ⟨i, hi, rfl, hm⟩ := hrel
  clear M0
  by_cases lt : i < N
  ·have li : i < S.length := by rw [<- HNN.out]; exact lt
   have o1 := xu hm.out.out li
   have HR := Xk (show S[i].n <= 1000000000 from HN.out _ (List.getElem_mem li))
   obtain ⟨r, hr⟩ : ∃ r, r = S[i] := ⟨_, rfl⟩
   rw [<- hr] at o1 HR
   have HRV := Xk hr
   have HO : Hid (∀ k V, Mrk w LO 58 22 5 (spC (-10)) (some ⟨bl, 0, none⟩) S i k V -> V.cell? ⟨bl, i, none⟩ = some (.slice r.A r.n r.c)) := Xk (fun k V h => by rw [hr]; exact xu h.out li)
   obtain ⟨A, n, c⟩ := r
   dsimp only at o1 HR HO
   clear hr
   have q0 : (0 : Int) <= (i : Int) := by omega
   have q5 : (i : Int) < (N : Int) := by omega
   have tn : (i : Int).toNat = i := by omega
   have hr := HR.out
   have ML := Xk hm.out
   clear hm
   go_wp2_with fail
   clear o1
   go_loopw [4] (fun s4 wr => ∃ k : Nat, k <= n /\ s4 = .int .i64 (k : Int) /\ Hid (Mrk w LO 58 22 5 (spC (-10)) (some ⟨bl, 0, none⟩) S i k wr)) (fun s4 _ => n - (intOf s4).toNat)
   case atStart => exact ⟨0, Nat.zero_le _, rfl, ML⟩
   case round =>
    obtain ⟨k, hk, rfl, hm⟩ := hrel
    clear ML
    have o1 := HO.out k _ hm.out
    have hr := HR.out
    by_cases lk : k < n
    ·obtain ⟨xs, ow, _, tk⟩ := hm.out.rows i li
     have tk := tk rfl
     rw [<- HRV.out] at ow
     obtain ⟨g, c', e⟩ := kS ow (fun z => by injection z with _ z _; dsimp only at z; omega)
     have e1 : A = some ⟨g, 0, none⟩ := by injection e
     have e3 : c = c' := by injection e
     subst e1
     subst e3
     obtain ⟨⟨u0, x0⟩, ⟨u1, x1⟩, ⟨u2, x2⟩, ⟨u3, x3⟩, ⟨u4, x4⟩, ⟨xs', o', tk'⟩, gr⟩ := put5 ow lk (.string ⟨#[]⟩) (.int .i8 0) (.int .i32 (-10 - (i : Int))) (.int .i32 0) (.int .u8 0) tk
     have p0 := ow.frozenAt (k * 5)
     have p1 := ow.frozenAt (k * 5 + 1)
     have p2 := ow.frozenAt (k * 5 + 2)
     have p3 := ow.frozenAt (k * 5 + 3)
     have p4 := ow.frozenAt (k * 5 + 4)
     have HX := Xk (hm.out.put li (g := g) (by rw [<- HRV.out]; rfl) gr (by rw [<- HRV.out]; exact o') tk')
     have q0 : (0 : Int) <= (k : Int) := by omega
     have q6 : (k : Int) < (n : Int) := by omega
     have tk : (k : Int).toNat = k := by omega
     have wk := Xl ((k : Int) + 1) (by omega)
     have wi := Xl (-10 - (i : Int)) (by omega)
     have wc : IntKind.i32.wrap (-10 - (i : Int)) = -10 - (i : Int) := by rw [IntKind.wrap_i32]; omega
     clear ow o' tk' gr hm e
     go_wp2_with fail
     go_roundw
     case rel => exact ⟨k + 1, by omega, by go_num, HX⟩
     case measure => simp [intOf]; omega
    ·have e : k = n := by omega
     subst e
     have q6 : ¬ (k : Int) < (k : Int) := by omega
     have HX := Xk (hm.out.next li (by rw [<- HRV.out]))
     have wk := Xl ((i : Int) + 1) (by omega)
     clear hm
     go_wp2_with fail
     go_roundw
     case rel => exact ⟨i + 1, by omega, by go_num, HX⟩
     case measure => simp [intOf]; omega
  ·have e : i = N := by omega
   subst e
   have q5 : ¬ (i : Int) < (i : Int) := by omega
   have G0 : Hid (Grw w LO 58 22 5 (spC (-10)) (spC (-100)) (some ⟨bl, 0, none⟩) S w.heap.size [] (.slice none 0 0) wr) := Xk (Grw.start (i := 0) (by rw [<- HNN.out]; exact hm.out) w.heap.size LS.out (fun a e => by injection e with e; rw [<- e]; exact HBL.out) hm.out.bel.size HL.out)
   clear hm
   go_wp2_with fail
   go_loopw [5, 6] (fun s5 s6 wr => ∃ (M : List Rv) (A : Option Addr) (c : Nat), M.length <= i /\ s5 = .slice A M.length c /\ s6 = .int .i64 (M.length : Int) /\ Hid (Grw w LO 58 22 5 (spC (-10)) (spC (-100)) (some ⟨bl, 0, none⟩) S w.heap.size M (.slice A M.length c) wr)) (fun _ s6 _ => i - (intOf s6).toNat)
   case atStart => exact ⟨[], none, 0, Nat.zero_le _, rfl, rfl, G0⟩
   case round =>
    obtain ⟨M, A5, c5, hM, rfl, rfl, hm⟩ := hrel
    obtain ⟨WS, hWS⟩ : ∃ WS, WS = wr := ⟨_, rfl⟩
    subst hWS
    clear G0
    by_cases lt : M.length < i
    ·have li : M.length < S.length := by rw [<- HNN.out]; exact lt
     have I0 : Hid (Inn w LO 58 5 (spC (-10) M.length) (spC (-100) M.length) S[M.length] WS 0 S[M.length].A S[M.length].c WS) := Xk (Inn.start hm.out li)
     have o1 := xu hm.out.out li
     have HR := Xk (show S[M.length].n <= 1000000000 from HN.out _ (List.getElem_mem li))
     obtain ⟨r, hr⟩ : ∃ r, r = S[M.length] := ⟨_, rfl⟩
     have HG := Xk hm.out
     rw [<- hr] at o1 HR I0
     have HRV := Xk hr
     clear hr hm
     obtain ⟨A, n, c⟩ := r
     dsimp only at o1 HR I0
     have hr := HR.out
     obtain ⟨m, em⟩ : ∃ m, m = M.length := ⟨_, rfl⟩
     have HM := Xk em
     rw [<- em] at o1 I0 lt li hM ⊢
     clear em
     have q0 : (0 : Int) <= (m : Int) := by omega
     have q6 : (m : Int) < (i : Int) := by omega
     have tn : (m : Int).toNat = m := by omega
     have wi := Xl (-100 - (m : Int)) (by omega)
     have wc : IntKind.i32.wrap (-100 - (m : Int)) = -100 - (m : Int) := by rw [IntKind.wrap_i32]; omega
     go_wp2_with fail
     clear o1
     go_loopw [7, 8] (fun s7 s8 wq => ∃ (q : Nat) (A' : Option Addr) (c' : Nat), q <= 70 /\ s7 = .slice A' (n + q) c' /\ s8 = .int .i64 (q : Int) /\ Hid (Inn w LO 58 5 (spC (-10) m) (spC (-100) m) ⟨A, n, c⟩ WS q A' c' wq)) (fun _ s8 _ => 70 - (intOf s8).toNat)
     case atStart => exact ⟨0, A, c, Nat.zero_le _, rfl, rfl, I0⟩
     case round =>
      obtain ⟨q, A', c', hq, rfl, rfl, hm⟩ := hrel
      clear I0
      by_cases l7 : q < 70
      ·obtain ⟨A3, c3, w3, R, o3, d3⟩ := app_cel2 hm.out.cur (-100) m (Nat.le_trans HL.out hm.out.bel.size) (by dsimp only; omega)
       have HX := Xk (hm.out.app ((Below.refl _ _).alloc Xm _) o3 d3)
       dsimp only at R
       obtain ⟨nq, hnq⟩ : ∃ nq, nq = n + q := ⟨_, rfl⟩
       have hnq1 : n + (q + 1) = nq + 1 := by omega
       rw [<- hnq] at R ⊢
       have HJ := Xk hnq1
       have p5 : (q : Int) < 70 := by omega
       have wj := Xl ((q : Int) + 1) (by omega)
       clear o3 d3 hm hnq hnq1
       go_wp2_with (first | (at_builtin; refine jl rfl (.tmp 52) (.tmp 58) 22 22 rfl _ _ _ _ rfl rfl R ?_) | fail)
       go_roundw
       case rel => exact ⟨q + 1, A3, c3, by omega, by rw [HJ.out], by go_num, HX⟩
       case measure => simp [intOf]; omega
      ·have e : q = 70 := by omega
       subst e
       have p5 : ¬ ((70 : Nat) : Int) < 70 := by omega
       have LM : M.length < S.length := by rw [<- HM.out]; exact li
       have HI : Inn w LO 58 5 (spC (-10) M.length) (spC (-100) M.length) S[M.length] WS 70 A' c' wr := by
        have := hm.out
        rw [HRV.out, HM.out] at this
        exact this
       obtain ⟨m1, m2, m3⟩ := Inn.mid HG.out LM HI
       obtain ⟨A3, c3, w3, R, o3, g3⟩ := app_slc m1 (.slice A' (n + 70) c') rfl m3 (by rw [<- HM.out]; omega)
       have en : n + 70 = S[M.length].n + 70 := by rw [<- HRV.out]
       have HX := Xk (HG.out.next LM HI ((Below.refl wr.heap.size wr).alloc Xm _) en o3 g3)
       have HLL : Hid ((M ++ [(⟨A', n + 70, c'⟩ : Rv)]).length = m + 1) := Xk (by rw [List.length_append, List.length_singleton, HM.out])
       rw [<- HM.out] at R
       have wk := Xl ((m : Int) + 1) (by omega)
       obtain ⟨n7, hn7⟩ : ∃ n7, n7 = n + 70 := ⟨_, rfl⟩
       rw [<- hn7] at R HX HLL ⊢
       clear hm HI m1 m2 m3 o3 g3 en LM hn7
       go_wp2_with (first | (at_builtin; refine jl rfl (.tmp 60) (.tmp 62) 35 35 rfl _ _ _ _ rfl rfl R ?_) | fail)
       go_roundw
       case rel => exact ⟨M ++ [⟨A', n7, c'⟩], A3, c3, by rw [HLL.out]; omega, by rw [HLL.out], by rw [HLL.out]; go_num, Xk (by rw [HLL.out, HM.out]; exact HX.out)⟩
       case measure => simp [intOf]; omega
    ·have e : M.length = i := by omega
     rw [e] at hm ⊢
     have q5 : ¬ (i : Int) < (i : Int) := by omega
     have HG := Xk hm.out
     have HE := Xk e
     have HB := Xk hm.out.bel
     clear hm hM lt e
     go_wp2_with fail
     go_loopw [9] (fun s9 wq => ∃ j : Nat, j <= i /\ s9 = .int .i64 (j : Int) /\ WS = wq) (fun s9 _ => i - (intOf s9).toNat)
     case atStart => exact ⟨0, Nat.zero_le _, rfl, rfl⟩
     case round =>
      obtain ⟨j, hj, rfl, hwq⟩ := hrel
      subst hwq
      by_cases lt : j < i
      ·have li : j < S.length := by rw [<- HNN.out]; exact lt
       have lm : j < M.length := by rw [HE.out]; exact lt
       have HR := Xk (show S[j].n <= 1000000000 from HN.out _ (List.getElem_mem li))
       have o1 := xu HG.out.out li
       obtain ⟨n1, n2⟩ := HG.out.new j li lm
       have OJ := Xk (HG.out.old j li lm)
       have mo := HG.out.mo
       rw [HE.out] at mo
       obtain ⟨mb, mc, em⟩ := kS mo (fun z => by injection z with _ z _; omega)
       have e5 : A5 = some ⟨mb, 0, none⟩ := by injection em
       subst e5
       have o2 := xu (SeesT.of_own mo) lm
       rw [n1] at o2
       have NJ := Xk n2
       obtain ⟨r, hr⟩ : ∃ r, r = S[j] := ⟨_, rfl⟩
       obtain ⟨u, hu⟩ : ∃ u, u = M[j] := ⟨_, rfl⟩
       rw [<- hr] at o1 o2 HR OJ NJ
       rw [<- hu] at o2 NJ
       obtain ⟨A, n, c⟩ := r
       obtain ⟨A', n', c'⟩ := u
       dsimp only at o1 o2 HR OJ NJ
       have hr' := HR.out
       have q0 : (0 : Int) <= (j : Int) := by omega
       have q6 : (j : Int) < (i : Int) := by omega
       have tn : (j : Int).toNat = j := by omega
       have wi1 := Xl (-10 - (j : Int)) (by omega)
       have wc1 : IntKind.i32.wrap (-10 - (j : Int)) = -10 - (j : Int) := by rw [IntKind.wrap_i32]; omega
       have wi2 := Xl (-100 - (j : Int)) (by omega)
       have wc2 : IntKind.i32.wrap (-100 - (j : Int)) = -100 - (j : Int) := by rw [IntKind.wrap_i32]; omega
       have wk := Xl ((j : Int) + 1) (by omega)
       clear em mo n1 n2 hr hu
       go_wp2_with fail
       go_loopw [10] (fun s10 wp => ∃ k : Nat, k <= n + 70 /\ s10 = .int .i64 (k : Int) /\ WS = wp) (fun s10 _ => n + 70 - (intOf s10).toNat)
       case atStart => exact ⟨0, Nat.zero_le _, rfl, rfl⟩
       case round =>
        obtain ⟨k, hk, rfl, hwp⟩ := hrel
        subst hwp
        by_cases lk : k < n + 70
        ·obtain ⟨g', e', x'⟩ := rep2_fg NJ.out lk
         subst e'
         have k0 : (0 : Int) <= (k : Int) := by omega
         have k6 : (k : Int) < ((n + 70 : Nat) : Int) := by omega
         have tk : (k : Int).toNat = k := by omega
         have wkk := Xl ((k : Int) + 1) (by omega)
         by_cases ln : k < n
         ·rw [if_pos ln] at x'
          obtain ⟨g, e, x⟩ := rep_fg OJ.out ln
          subst e
          have k7 : (k : Int) < (n : Int) := by omega
          go_wp2_with fail
          go_roundw
          case rel => exact ⟨k + 1, by omega, by go_num, trivial⟩
          case measure => simp [intOf]; omega
         ·rw [if_neg ln] at x'
          have k7 : ¬ (k : Int) < (n : Int) := by omega
          have k8 : (n : Int) <= (k : Int) := by omega
          go_wp2_with fail
          go_roundw
          case rel => exact ⟨k + 1, by omega, by go_num, trivial⟩
          case measure => simp [intOf]; omega
        ·have e : k = n + 70 := by omega
         subst e
         have k6 : ¬ ((n + 70 : Nat) : Int) < ((n + 70 : Nat) : Int) := by omega
         go_wp2_with fail
         go_roundw
         case rel => exact ⟨j + 1, by omega, by go_num, trivial⟩
         case measure => simp [intOf]; omega
      ·have e : j = i := by omega
       subst e
       have q5 : ¬ (j : Int) < (j : Int) := by omega
       go_wp2_with fail
       go_ret
       exact ⟨rfl, HB.out⟩
end
end
end Go.Proofs.YtifoijbpbigaaaaGreatDoor
