/- Frames are copied: a block for the bytes of all, and what is made of frames (plain; memory). -/
import Derived.Test.YtmaofighbpnbiaaGreatDoorYTpY
namespace Go.Proofs.YtmaofighbpnbiaaGreatDoor
open Go Go.RowKit Go.Sort
set_option linter.unusedVariables false
set_option linter.unusedSimpArgs false
section
theorem wpList_append_go {P : Program} {w : World} {ops : Array Oper} {rest : List Oper} {o : Oper} {a : Act} {Q : Exit → Act → World → Prop} (hgd : o.guard = none) (s x : Operand) (t u : TypeId)
  (ho : o.op = .call { callee := .builtin .append, args := #[s, x], argTypes := #[t, u] }) (vs vx v' : Value) (w' : World) (hs : a.eval s = vs) (hx : a.eval x = vx)
  (hrun : (Builtin.append_ #[t, u] o.type #[vs, vx]).run P w = .ok v' w') (h : wpList P ops Q rest (a.put o.dst v') w') : wpList P ops Q (o :: rest) a w := by
 refine wpList_plain hgd fun K hK => ?_
 unfold Oper.wp
 simp [execOp, ho, resolve, invoke, builtin, hs, hx, hrun, Result.andThen]
 exact hK _ _ h
theorem step_append_go {P : Program} (w : World) {ops : Array Oper} {o : Oper} {a : Act} {K : Act → World → Prop} {Q : Exit → Act → World → Prop} {E : Prop} (hgd : o.guard = none) (s x : Operand) (t : TypeId)
  (ho : o.op = .call { callee := .builtin .append, args := #[s, x], argTypes := #[t, t] })
  (base : Nat) (e : TypeId) (i : TypeInfo) (z : Value) (size bytes : Nat) (ht : P.underlying t = some (.slice e)) (hi : P.info? e = some i) (hz : i.zero = some z)
  (hsize : i.size = size) (hby : i.bytes = bytes) (hzs : z.cells.size = size) (hsz : 0 < size)
  (v : Value) (n : Nat) (xs : List Value) (hs : a.eval s = v) (hown : w.ownsRow base e size v n xs)
  (ad : Addr) (m c : Nat) (news : List Value) (hx : a.eval x = .slice (some ad) m c) (hl : news.length = m * size) (hnews : ∀ j u, news[j]? = some u → w.cell? (ad.add j) = some u) (h1 : ∀ u ∈ news, u.oneCell' = true)
  (h63 : n + m ≤ maxLen) (hbytes : (n + m) * bytes ≤ 140737488355328) (hbase : base ≤ w.heap.size)
  (h : ∀ v' w', w'.ownsRow base e size v' (n + m) (xs ++ news) → w.grownBy w' v.ownBlock → (v' = .slice none 0 0 ↔ v = .slice none 0 0 ∧ m = 0) → K (a.put o.dst v') w') :
  if Region.wanted o (yielded ops a.tmps) = true then Oper.wp P o a w K Q else E := by
 have hw : Region.wanted o (yielded ops a.tmps) = true := by simp [Region.wanted, hgd]
 rw [if_pos hw]
 exact wp_append_own w s x t ho base e i z size bytes ht hi hz hsize hby hzs hsz v n xs hs hown ad m c news hx hl hnews h1 h63 hbytes hbase h
def BRow (W : World) (g N : Nat) (zs : List Int) : Prop := zs.length ≤ N ∧ ∃ cur, W.heap[g]? = some (.cells cur 5 (0, 0)) ∧ cur.size = N ∧ cur.toList.take zs.length = bts zs
theorem BRow.lt {W : World} {g N : Nat} {zs : List Int} (h : BRow W g N zs) : g < W.heap.size := by
 obtain ⟨_, cur, e, _⟩ := h
 exact (Array.getElem?_eq_some_iff.1 e).1
theorem BRow.keep {W W' : World} {g N : Nat} {zs : List Int} (h : BRow W g N zs) (e : W'.heap[g]? = W.heap[g]?) : BRow W' g N zs := by
 obtain ⟨l, cur, h1, h2⟩ := h
 exact ⟨l, cur, e.trans h1, h2⟩
theorem BRow.new (W : World) (N : Nat) (z : Array Value) (hz : z.size = N) : BRow (W.alloc (.cells z 5)) W.heap.size N [] := ⟨Nat.zero_le _, z, World.alloc_heap_new W _, hz, by simp [bts]⟩
theorem bts_len (zs : List Int) : (bts zs).length = zs.length := by unfold bts; simp
theorem append_byts {w : World} {g N : Nat} {zs bs : List Int} (h : BRow w g N zs) (A : Option Addr) (c : Nat) (hA : A = none → bs = []) (S : Sees w w.heap.size A (bts bs)) (room : zs.length + bs.length ≤ N) :
  ∃ w', (Builtin.append_ #[27, 27] 27 #[.slice (some ⟨g, 0, none⟩) zs.length N, .slice A bs.length c]).run Tryz.prog w = .ok (.slice (some ⟨g, 0, none⟩) (zs.length + bs.length) N) w' ∧ BRow w' g N (zs ++ bs) ∧ Mv [g] w w' := by
 obtain ⟨i0, hi, hz0, hz1, hz2⟩ := info_parts infoB
 cases A with
 | none =>
  obtain rfl := hA rfl
  refine ⟨w, ?_, by rw [List.append_nil]; exact h, Mv.refl _ w⟩
  have := h.1
  simp [Builtin.append_, run_underlying Tryz.underlying27, sizeOf, typeInfo, hi, hz1, Builtin.lenOf, Builtin.firstCells, this, storeCells, Result.andThen]
 | some ad =>
  obtain ⟨l, cur, h1, h2, h3⟩ := h
  have hs : i0.size = 1 := hz1
  have R := run_append_room (P := Tryz.prog) w 27 27 5 i0 Tryz.underlying27 hi g zs.length N cur h1 ad bs.length c (bts bs) (by rw [hs, bts_len]; omega) (fun j u hu => by
   obtain ⟨a', e, _, k⟩ := S (fun z => by rw [z] at hu; simp at hu)
   cases e
   exact k j u hu) (bts_one bs) room (by rw [hs, bts_len]; omega)
  refine ⟨_, R, ⟨by rw [List.length_append]; exact room, _, setRow_heap w g cur _ _ _ h1, ?_, ?_⟩, ⟨rfl, rfl, rfl, by simp, fun k _ hk => setRow_other w g k _ (by simpa using hk)⟩⟩
  ·simp only [List.size_toArray, List.length_append, List.length_take, List.length_drop, Array.length_toList, bts_len, hs]
   omega
  ·rw [hs, Nat.mul_one, h3, ← bts_app, ← bts_len (zs ++ bs)]
   exact List.take_left
theorem BRow.sees {W : World} {g N o : Nat} {zs : List Int} (h : BRow W g N zs) (bs : List Int) (e : ∃ r, zs.drop o = bs ++ r) : ∀ j u, (bts bs)[j]? = some u → W.cell? ((⟨g, o, none⟩ : Addr).add j) = some u := by
 obtain ⟨l, cur, h1, h2, h3⟩ := h
 obtain ⟨r, e⟩ := e
 intro j u hu
 have z : (bts zs)[o + j]? = some u := by
  have : (bts (zs.drop o))[j]? = some u := by
   rw [e, bts_app, List.getElem?_append_left (List.getElem?_eq_some_iff.1 hu).1]
   exact hu
  unfold bts at this ⊢
  rw [List.map_drop, List.getElem?_drop] at this
  exact this
 rw [← h3] at z
 have z2 : cur.toList[o + j]? = some u := by
  rw [List.getElem?_take] at z
  split at z
  ·exact z
  ·cases z
 rw [Addr.add_lit]
 simp [World.cell?, h1, ← z2]
def cpF (g : Nat) (base : Int) : Nat → List FA → List FA
 | _, [] => []
 | o, x :: l => ⟨x.at_ + base, ⟨some ⟨g, if x.b.bs.length = 0 then 0 else o, none⟩, x.b.bs.length, x.b.bs⟩⟩ :: cpF g base (o + x.b.bs.length) l
def flatB (l : List FA) : List Int := l.flatMap (·.b.bs)
theorem cpF_len (g : Nat) (base : Int) : ∀ (o : Nat) (l : List FA), (cpF g base o l).length = l.length
 | _, [] => rfl
 | o, x :: l => by rw [cpF, List.length_cons, List.length_cons, cpF_len]
theorem cpF_app (g : Nat) (base : Int) : ∀ (o : Nat) (a b : List FA), cpF g base o (a ++ b) = cpF g base o a ++ cpF g base (o + (flatB a).length) b
 | o, [], b => rfl
 | o, x :: a, b => by
  rw [List.cons_append, cpF, cpF, cpF_app g base _ a b, List.cons_append]
  unfold flatB
  rw [List.flatMap_cons, List.length_append, Nat.add_assoc]
theorem flatB_app (a b : List FA) : flatB (a ++ b) = flatB a ++ flatB b := by unfold flatB; rw [List.flatMap_append]
theorem cpF_frms (g : Nat) (base : Int) : ∀ (o : Nat) (l : List FA), frms (cpF g base o l) = shiftL base (frms l)
 | _, [] => rfl
 | o, x :: l => by
  have := cpF_frms g base (o + x.b.bs.length) l
  unfold frms shiftL at *
  rw [cpF, List.map_cons, this]
  rfl
theorem cpF_ok {W : World} {g N : Nat} {zs : List Int} (h : BRow W g N zs) (base : Int) (hN : N ≤ 140737488355328) : ∀ (l : List FA) (o : Nat) (r : List Int), zs.drop o = flatB l ++ r → (∀ x ∈ l, Byt x.b.bs ∧ -9223372036854775808 ≤ x.at_ + base ∧ x.at_ + base ≤ 9223372036854775807) → ∀ x ∈ cpF g base o l, FrD W W.heap.size x
 | [], o, r, e, hl, x, m => by cases m
 | y :: l, o, r, e, hl, x, m => by
  have e' : zs.drop o = y.b.bs ++ (flatB l ++ r) := by
   rw [e]
   unfold flatB
   rw [List.flatMap_cons, List.append_assoc]
  have len := congrArg List.length e'
  rw [List.length_drop, List.length_append] at len
  have l0 := h.1
  rw [cpF] at m
  rcases List.mem_cons.1 m with rfl | m
  ·obtain ⟨q1, q2⟩ := hl y (List.mem_cons_self)
   have K : y.b.bs.length ≤ 140737488355328 := by omega
   refine ⟨⟨(fun z => by cases z), Nat.le_refl _, K, fun ne => ⟨_, rfl, h.lt, ?_⟩, q1⟩, q2⟩
   have nz : ¬ y.b.bs.length = 0 := fun z => ne (by rw [List.eq_nil_of_length_eq_zero z]; rfl)
   have := h.sees y.b.bs ⟨_, e'⟩
   intro j u hu
   rw [if_neg nz]
   exact this j u hu
  ·exact cpF_ok h base hN l (o + y.b.bs.length) r (by rw [← List.drop_drop, e', List.drop_left]) (fun x m => hl x (List.mem_cons_of_mem _ m)) x m
end
end Go.Proofs.YtmaofighbpnbiaaGreatDoor
